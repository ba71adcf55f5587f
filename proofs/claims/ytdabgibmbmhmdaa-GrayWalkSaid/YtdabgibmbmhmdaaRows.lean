/-
  No cell of these rows narrows 'for every input' (looked for: loops, veiled, ifaces, maps, wideKeys, modest, calm, conditions, laid).
  DERIVED. THE GIVEN ROWS OF THIS SEAT. 12 by the template 'for every input the law returns true; each argument reads behind the call as it read before'; 0 by the template 'total and deterministic' (their statements: YtdabgibmbmhmdaaTotals.lean).
  GIVEN WITH THE SEED: the statements are not yours to turn. If you find one false, say at which input.
  Laid BY PROGRAM, IN A SANDBOX (cutbox-rows.mjs): the forced cells as the released guide's own fill.sh prints them over the translation 9ffa29c2255191b8… (all of the seat's roots in one cut). By AI agents, Wed Nov 11 2026. No macro, syntax, notation, axiom, sorry.
-/
import Derived.Test.YtdabgibmbmhmdaaChecked
import GoSem.Claim
import GoSem.ClaimJoined
import GoSem.ClaimMapViews
import Derived.JoinedTies
import Derived.KernelRfl
namespace Go.Proofs.Ytdabgibmbmhmdaa
/- THE CELL 'sum', in the pinned program and in every row, IS THE sha256 OF THE DUMP (.gsa) THAT YtdabgibmbmhmdaaProg.lean LOADS. Nothing in Lean hashes anything: it is a label: what it is worth is what the hold of that sum in a sandbox is worth. -/
noncomputable def Try.pinned : Pinned := { name := "ytdabgibmbmhmdaa", sum := "9ffa29c2255191b80bb78a547c7bbadd292564103c484f7c35b1f02bb8b5c0c2", checked := Try.checked }
namespace Rows
def none {H : Type} : Left H := { results := [], args := [] }

/-- 'castkeep.PermCycles': WHATEVER THE INPUT: true; the input reads as it did. -/
def permCyclesSpec : ChangeSpec := { name := "permCycles", fn := fun _ => fun
  | [d1, d2] => { results := [.lit (.bool true)], args := [d1, d2] }
  | _ => none }
def permCyclesRow : OpenClaim := { program := "ytdabgibmbmhmdaa", sum := "9ffa29c2255191b80bb78a547c7bbadd292564103c484f7c35b1f02bb8b5c0c2", func := "lotcaster/castkeep.PermCycles", spec := "permCycles", unfollowed := true, recurses := true, plainKeys := false, apart := false }
def PermCyclesSaid : Prop := permCyclesRow.holds Try.pinned (OpenSpec.ofChange permCyclesSpec)

/-- ITS FALSE NEIGHBOUR: 'it returns false'. Refute it at one input. -/
def permCyclesWrong : ChangeSpec := { name := "permCycles", fn := fun _ => fun
  | [d1, d2] => { results := [.lit (.bool false)], args := [d1, d2] }
  | _ => none }
def PermCyclesWrongFalsely : Prop := permCyclesRow.holds Try.pinned (OpenSpec.ofChange permCyclesWrong)

/-- 'castkeep.DerangeOwn': WHATEVER THE INPUT: true; the input reads as it did. -/
def derangeOwnSpec : ChangeSpec := { name := "derangeOwn", fn := fun _ => fun
  | [d1, d2] => { results := [.lit (.bool true)], args := [d1, d2] }
  | _ => none }
def derangeOwnRow : OpenClaim := { program := "ytdabgibmbmhmdaa", sum := "9ffa29c2255191b80bb78a547c7bbadd292564103c484f7c35b1f02bb8b5c0c2", func := "lotcaster/castkeep.DerangeOwn", spec := "derangeOwn", unfollowed := true, recurses := true, plainKeys := false, apart := false }
def DerangeOwnSaid : Prop := derangeOwnRow.holds Try.pinned (OpenSpec.ofChange derangeOwnSpec)

/-- ITS FALSE NEIGHBOUR: 'it returns false'. Refute it at one input. -/
def derangeOwnWrong : ChangeSpec := { name := "derangeOwn", fn := fun _ => fun
  | [d1, d2] => { results := [.lit (.bool false)], args := [d1, d2] }
  | _ => none }
def DerangeOwnWrongFalsely : Prop := derangeOwnRow.holds Try.pinned (OpenSpec.ofChange derangeOwnWrong)

/-- 'castkeep.RisesTurned': WHATEVER THE INPUT: true; the input reads as it did. -/
def risesTurnedSpec : ChangeSpec := { name := "risesTurned", fn := fun _ => fun
  | [d] => { results := [.lit (.bool true)], args := [d] }
  | _ => none }
def risesTurnedRow : OpenClaim := { program := "ytdabgibmbmhmdaa", sum := "9ffa29c2255191b80bb78a547c7bbadd292564103c484f7c35b1f02bb8b5c0c2", func := "lotcaster/castkeep.RisesTurned", spec := "risesTurned", unfollowed := true, recurses := true, plainKeys := false, apart := false }
def RisesTurnedSaid : Prop := risesTurnedRow.holds Try.pinned (OpenSpec.ofChange risesTurnedSpec)

/-- ITS FALSE NEIGHBOUR: 'it returns false'. Refute it at one input. -/
def risesTurnedWrong : ChangeSpec := { name := "risesTurned", fn := fun _ => fun
  | [d] => { results := [.lit (.bool false)], args := [d] }
  | _ => none }
def RisesTurnedWrongFalsely : Prop := risesTurnedRow.holds Try.pinned (OpenSpec.ofChange risesTurnedWrong)

/-- 'casttop.TopOwn': WHATEVER THE INPUT: true; the input reads as it did. -/
def topOwnSpec : ChangeSpec := { name := "topOwn", fn := fun _ => fun
  | [d] => { results := [.lit (.bool true)], args := [d] }
  | _ => none }
def topOwnRow : OpenClaim := { program := "ytdabgibmbmhmdaa", sum := "9ffa29c2255191b80bb78a547c7bbadd292564103c484f7c35b1f02bb8b5c0c2", func := "lotcaster/casttop.TopOwn", spec := "topOwn", unfollowed := true, recurses := true, plainKeys := false, apart := false }
def TopOwnSaid : Prop := topOwnRow.holds Try.pinned (OpenSpec.ofChange topOwnSpec)

/-- ITS FALSE NEIGHBOUR: 'it returns false'. Refute it at one input. -/
def topOwnWrong : ChangeSpec := { name := "topOwn", fn := fun _ => fun
  | [d] => { results := [.lit (.bool false)], args := [d] }
  | _ => none }
def TopOwnWrongFalsely : Prop := topOwnRow.holds Try.pinned (OpenSpec.ofChange topOwnWrong)

/-- 'casttop.TopWalk': WHATEVER THE INPUT: true; the input reads as it did. -/
def topWalkSpec : ChangeSpec := { name := "topWalk", fn := fun _ => fun
  | [d] => { results := [.lit (.bool true)], args := [d] }
  | _ => none }
def topWalkRow : OpenClaim := { program := "ytdabgibmbmhmdaa", sum := "9ffa29c2255191b80bb78a547c7bbadd292564103c484f7c35b1f02bb8b5c0c2", func := "lotcaster/casttop.TopWalk", spec := "topWalk", unfollowed := true, recurses := true, plainKeys := false, apart := false }
def TopWalkSaid : Prop := topWalkRow.holds Try.pinned (OpenSpec.ofChange topWalkSpec)

/-- ITS FALSE NEIGHBOUR: 'it returns false'. Refute it at one input. -/
def topWalkWrong : ChangeSpec := { name := "topWalk", fn := fun _ => fun
  | [d] => { results := [.lit (.bool false)], args := [d] }
  | _ => none }
def TopWalkWrongFalsely : Prop := topWalkRow.holds Try.pinned (OpenSpec.ofChange topWalkWrong)

/-- 'castkeep.GrayWalk': WHATEVER THE INPUT: true; the input reads as it did. -/
def grayWalkSpec : ChangeSpec := { name := "grayWalk", fn := fun _ => fun
  | [d] => { results := [.lit (.bool true)], args := [d] }
  | _ => none }
def grayWalkRow : OpenClaim := { program := "ytdabgibmbmhmdaa", sum := "9ffa29c2255191b80bb78a547c7bbadd292564103c484f7c35b1f02bb8b5c0c2", func := "lotcaster/castkeep.GrayWalk", spec := "grayWalk", recurses := true, plainKeys := false, apart := false }
def GrayWalkSaid : Prop := grayWalkRow.holds Try.pinned (OpenSpec.ofChange grayWalkSpec)

/-- ITS FALSE NEIGHBOUR: 'it returns false'. Refute it at one input. -/
def grayWalkWrong : ChangeSpec := { name := "grayWalk", fn := fun _ => fun
  | [d] => { results := [.lit (.bool false)], args := [d] }
  | _ => none }
def GrayWalkWrongFalsely : Prop := grayWalkRow.holds Try.pinned (OpenSpec.ofChange grayWalkWrong)

/-- 'castkeep.PartsTurned': WHATEVER THE INPUT: true; the input reads as it did. -/
def partsTurnedSpec : ChangeSpec := { name := "partsTurned", fn := fun _ => fun
  | [d] => { results := [.lit (.bool true)], args := [d] }
  | _ => none }
def partsTurnedRow : OpenClaim := { program := "ytdabgibmbmhmdaa", sum := "9ffa29c2255191b80bb78a547c7bbadd292564103c484f7c35b1f02bb8b5c0c2", func := "lotcaster/castkeep.PartsTurned", spec := "partsTurned", unfollowed := true, recurses := true, plainKeys := false, apart := false }
def PartsTurnedSaid : Prop := partsTurnedRow.holds Try.pinned (OpenSpec.ofChange partsTurnedSpec)

/-- ITS FALSE NEIGHBOUR: 'it returns false'. Refute it at one input. -/
def partsTurnedWrong : ChangeSpec := { name := "partsTurned", fn := fun _ => fun
  | [d] => { results := [.lit (.bool false)], args := [d] }
  | _ => none }
def PartsTurnedWrongFalsely : Prop := partsTurnedRow.holds Try.pinned (OpenSpec.ofChange partsTurnedWrong)

/-- 'castkeep.PartsGlaisher': WHATEVER THE INPUT: true; the input reads as it did. -/
def partsGlaisherSpec : ChangeSpec := { name := "partsGlaisher", fn := fun _ => fun
  | [d] => { results := [.lit (.bool true)], args := [d] }
  | _ => none }
def partsGlaisherRow : OpenClaim := { program := "ytdabgibmbmhmdaa", sum := "9ffa29c2255191b80bb78a547c7bbadd292564103c484f7c35b1f02bb8b5c0c2", func := "lotcaster/castkeep.PartsGlaisher", spec := "partsGlaisher", unfollowed := true, recurses := true, plainKeys := false, apart := false }
def PartsGlaisherSaid : Prop := partsGlaisherRow.holds Try.pinned (OpenSpec.ofChange partsGlaisherSpec)

/-- ITS FALSE NEIGHBOUR: 'it returns false'. Refute it at one input. -/
def partsGlaisherWrong : ChangeSpec := { name := "partsGlaisher", fn := fun _ => fun
  | [d] => { results := [.lit (.bool false)], args := [d] }
  | _ => none }
def PartsGlaisherWrongFalsely : Prop := partsGlaisherRow.holds Try.pinned (OpenSpec.ofChange partsGlaisherWrong)

/-- 'castkeep.OrbitsFermat': WHATEVER THE INPUT: true; the input reads as it did. -/
def orbitsFermatSpec : ChangeSpec := { name := "orbitsFermat", fn := fun _ => fun
  | [d1, d2] => { results := [.lit (.bool true)], args := [d1, d2] }
  | _ => none }
def orbitsFermatRow : OpenClaim := { program := "ytdabgibmbmhmdaa", sum := "9ffa29c2255191b80bb78a547c7bbadd292564103c484f7c35b1f02bb8b5c0c2", func := "lotcaster/castkeep.OrbitsFermat", spec := "orbitsFermat", unfollowed := true, recurses := true, plainKeys := false, apart := false }
def OrbitsFermatSaid : Prop := orbitsFermatRow.holds Try.pinned (OpenSpec.ofChange orbitsFermatSpec)

/-- ITS FALSE NEIGHBOUR: 'it returns false'. Refute it at one input. -/
def orbitsFermatWrong : ChangeSpec := { name := "orbitsFermat", fn := fun _ => fun
  | [d1, d2] => { results := [.lit (.bool false)], args := [d1, d2] }
  | _ => none }
def OrbitsFermatWrongFalsely : Prop := orbitsFermatRow.holds Try.pinned (OpenSpec.ofChange orbitsFermatWrong)

/-- 'castkeep.OrbitsBurnside': WHATEVER THE INPUT: true; the input reads as it did. -/
def orbitsBurnsideSpec : ChangeSpec := { name := "orbitsBurnside", fn := fun _ => fun
  | [d1, d2, d3] => { results := [.lit (.bool true)], args := [d1, d2, d3] }
  | _ => none }
def orbitsBurnsideRow : OpenClaim := { program := "ytdabgibmbmhmdaa", sum := "9ffa29c2255191b80bb78a547c7bbadd292564103c484f7c35b1f02bb8b5c0c2", func := "lotcaster/castkeep.OrbitsBurnside", spec := "orbitsBurnside", unfollowed := true, recurses := true, plainKeys := false, apart := false }
def OrbitsBurnsideSaid : Prop := orbitsBurnsideRow.holds Try.pinned (OpenSpec.ofChange orbitsBurnsideSpec)

/-- ITS FALSE NEIGHBOUR: 'it returns false'. Refute it at one input. -/
def orbitsBurnsideWrong : ChangeSpec := { name := "orbitsBurnside", fn := fun _ => fun
  | [d1, d2, d3] => { results := [.lit (.bool false)], args := [d1, d2, d3] }
  | _ => none }
def OrbitsBurnsideWrongFalsely : Prop := orbitsBurnsideRow.holds Try.pinned (OpenSpec.ofChange orbitsBurnsideWrong)

/-- 'castkeep.OrbitsGroup': WHATEVER THE INPUT: true; the input reads as it did. -/
def orbitsGroupSpec : ChangeSpec := { name := "orbitsGroup", fn := fun _ => fun
  | [d1, d2, d3, d4] => { results := [.lit (.bool true)], args := [d1, d2, d3, d4] }
  | _ => none }
def orbitsGroupRow : OpenClaim := { program := "ytdabgibmbmhmdaa", sum := "9ffa29c2255191b80bb78a547c7bbadd292564103c484f7c35b1f02bb8b5c0c2", func := "lotcaster/castkeep.OrbitsGroup", spec := "orbitsGroup", unfollowed := true, recurses := true, plainKeys := false, apart := false }
def OrbitsGroupSaid : Prop := orbitsGroupRow.holds Try.pinned (OpenSpec.ofChange orbitsGroupSpec)

/-- ITS FALSE NEIGHBOUR: 'it returns false'. Refute it at one input. -/
def orbitsGroupWrong : ChangeSpec := { name := "orbitsGroup", fn := fun _ => fun
  | [d1, d2, d3, d4] => { results := [.lit (.bool false)], args := [d1, d2, d3, d4] }
  | _ => none }
def OrbitsGroupWrongFalsely : Prop := orbitsGroupRow.holds Try.pinned (OpenSpec.ofChange orbitsGroupWrong)

/-- 'castkeep.OrbitsLeast': WHATEVER THE INPUT: true; the input reads as it did. -/
def orbitsLeastSpec : ChangeSpec := { name := "orbitsLeast", fn := fun _ => fun
  | [d1, d2, d3, d4] => { results := [.lit (.bool true)], args := [d1, d2, d3, d4] }
  | _ => none }
def orbitsLeastRow : OpenClaim := { program := "ytdabgibmbmhmdaa", sum := "9ffa29c2255191b80bb78a547c7bbadd292564103c484f7c35b1f02bb8b5c0c2", func := "lotcaster/castkeep.OrbitsLeast", spec := "orbitsLeast", unfollowed := true, recurses := true, plainKeys := false, apart := false }
def OrbitsLeastSaid : Prop := orbitsLeastRow.holds Try.pinned (OpenSpec.ofChange orbitsLeastSpec)

/-- ITS FALSE NEIGHBOUR: 'it returns false'. Refute it at one input. -/
def orbitsLeastWrong : ChangeSpec := { name := "orbitsLeast", fn := fun _ => fun
  | [d1, d2, d3, d4] => { results := [.lit (.bool false)], args := [d1, d2, d3, d4] }
  | _ => none }
def OrbitsLeastWrongFalsely : Prop := orbitsLeastRow.holds Try.pinned (OpenSpec.ofChange orbitsLeastWrong)

/- THE SECOND FORM. 'bulk': how many values and letters a reading holds, each counted each time it is reached (what is shared counts as often as it is met; a slice's spare places count too). A statement '..UptoSaid' is the law's where the arguments, and the package variables that the reading takes, are together of bulk at most 1048576: NARROWER than '..Said'. Prove '..Said' where nothing that the law and all that it calls make is longer than what came in: it says more and counts as full. Else prove '..UptoSaid'. A law counts once. -/
mutual
def uptoBulk {H : Type} : DataW H → Nat
  | .lit (.string bytes) => bytes.length + 1
  | .lit _ => 1
  | .nil => 1
  | .ptr d => uptoBulk d + 1
  | .slice elems spare => uptoBulkAll elems + uptoBulkAll spare + 1
  | .agg parts => uptoBulkAll parts + 1
  | .iface _ d => uptoBulk d + 1
  | .map entries => uptoBulkEntries entries + 1
  | .held _ => 1
def uptoBulkAll {H : Type} : List (DataW H) → Nat
  | [] => 0
  | d :: r => uptoBulk d + uptoBulkAll r
def uptoBulkEntries {H : Type} : List (Lit × DataW H) → Nat
  | [] => 0
  | x :: r => uptoBulkEntry x + uptoBulkEntries r
def uptoBulkEntry {H : Type} : Lit × DataW H → Nat
  | (.string bytes, d) => bytes.length + uptoBulk d + 1
  | (_, d) => uptoBulk d + 1
 end
def uptoSmall : (H : Type) → List (DataW H) → Bool := fun _ ds => decide (uptoBulkAll ds ≤ 1048576)
def OpenSpec.upto (s : _root_.Go.ChangeSpec) : _root_.Go.OpenSpec := { _root_.Go.OpenSpec.ofChange s with cond := some uptoSmall }

/-- 'castkeep.PermCycles', WHERE WHAT IT READS IS OF BULK AT MOST 1048576: true; the input reads as it did. -/
def permCyclesUptoRow : OpenClaim := { program := "ytdabgibmbmhmdaa", sum := "9ffa29c2255191b80bb78a547c7bbadd292564103c484f7c35b1f02bb8b5c0c2", func := "lotcaster/castkeep.PermCycles", spec := "permCycles", unfollowed := true, recurses := true, plainKeys := false, apart := false, narrowed := true }
def PermCyclesUptoSaid : Prop := permCyclesUptoRow.holds Try.pinned (OpenSpec.upto permCyclesSpec)

/-- 'castkeep.DerangeOwn', WHERE WHAT IT READS IS OF BULK AT MOST 1048576: true; the input reads as it did. -/
def derangeOwnUptoRow : OpenClaim := { program := "ytdabgibmbmhmdaa", sum := "9ffa29c2255191b80bb78a547c7bbadd292564103c484f7c35b1f02bb8b5c0c2", func := "lotcaster/castkeep.DerangeOwn", spec := "derangeOwn", unfollowed := true, recurses := true, plainKeys := false, apart := false, narrowed := true }
def DerangeOwnUptoSaid : Prop := derangeOwnUptoRow.holds Try.pinned (OpenSpec.upto derangeOwnSpec)

/-- 'castkeep.RisesTurned', WHERE WHAT IT READS IS OF BULK AT MOST 1048576: true; the input reads as it did. -/
def risesTurnedUptoRow : OpenClaim := { program := "ytdabgibmbmhmdaa", sum := "9ffa29c2255191b80bb78a547c7bbadd292564103c484f7c35b1f02bb8b5c0c2", func := "lotcaster/castkeep.RisesTurned", spec := "risesTurned", unfollowed := true, recurses := true, plainKeys := false, apart := false, narrowed := true }
def RisesTurnedUptoSaid : Prop := risesTurnedUptoRow.holds Try.pinned (OpenSpec.upto risesTurnedSpec)

/-- 'casttop.TopOwn', WHERE WHAT IT READS IS OF BULK AT MOST 1048576: true; the input reads as it did. -/
def topOwnUptoRow : OpenClaim := { program := "ytdabgibmbmhmdaa", sum := "9ffa29c2255191b80bb78a547c7bbadd292564103c484f7c35b1f02bb8b5c0c2", func := "lotcaster/casttop.TopOwn", spec := "topOwn", unfollowed := true, recurses := true, plainKeys := false, apart := false, narrowed := true }
def TopOwnUptoSaid : Prop := topOwnUptoRow.holds Try.pinned (OpenSpec.upto topOwnSpec)

/-- 'casttop.TopWalk', WHERE WHAT IT READS IS OF BULK AT MOST 1048576: true; the input reads as it did. -/
def topWalkUptoRow : OpenClaim := { program := "ytdabgibmbmhmdaa", sum := "9ffa29c2255191b80bb78a547c7bbadd292564103c484f7c35b1f02bb8b5c0c2", func := "lotcaster/casttop.TopWalk", spec := "topWalk", unfollowed := true, recurses := true, plainKeys := false, apart := false, narrowed := true }
def TopWalkUptoSaid : Prop := topWalkUptoRow.holds Try.pinned (OpenSpec.upto topWalkSpec)

/-- 'castkeep.GrayWalk', WHERE WHAT IT READS IS OF BULK AT MOST 1048576: true; the input reads as it did. -/
def grayWalkUptoRow : OpenClaim := { program := "ytdabgibmbmhmdaa", sum := "9ffa29c2255191b80bb78a547c7bbadd292564103c484f7c35b1f02bb8b5c0c2", func := "lotcaster/castkeep.GrayWalk", spec := "grayWalk", recurses := true, plainKeys := false, apart := false, narrowed := true }
def GrayWalkUptoSaid : Prop := grayWalkUptoRow.holds Try.pinned (OpenSpec.upto grayWalkSpec)

/-- 'castkeep.PartsTurned', WHERE WHAT IT READS IS OF BULK AT MOST 1048576: true; the input reads as it did. -/
def partsTurnedUptoRow : OpenClaim := { program := "ytdabgibmbmhmdaa", sum := "9ffa29c2255191b80bb78a547c7bbadd292564103c484f7c35b1f02bb8b5c0c2", func := "lotcaster/castkeep.PartsTurned", spec := "partsTurned", unfollowed := true, recurses := true, plainKeys := false, apart := false, narrowed := true }
def PartsTurnedUptoSaid : Prop := partsTurnedUptoRow.holds Try.pinned (OpenSpec.upto partsTurnedSpec)

/-- 'castkeep.PartsGlaisher', WHERE WHAT IT READS IS OF BULK AT MOST 1048576: true; the input reads as it did. -/
def partsGlaisherUptoRow : OpenClaim := { program := "ytdabgibmbmhmdaa", sum := "9ffa29c2255191b80bb78a547c7bbadd292564103c484f7c35b1f02bb8b5c0c2", func := "lotcaster/castkeep.PartsGlaisher", spec := "partsGlaisher", unfollowed := true, recurses := true, plainKeys := false, apart := false, narrowed := true }
def PartsGlaisherUptoSaid : Prop := partsGlaisherUptoRow.holds Try.pinned (OpenSpec.upto partsGlaisherSpec)

/-- 'castkeep.OrbitsFermat', WHERE WHAT IT READS IS OF BULK AT MOST 1048576: true; the input reads as it did. -/
def orbitsFermatUptoRow : OpenClaim := { program := "ytdabgibmbmhmdaa", sum := "9ffa29c2255191b80bb78a547c7bbadd292564103c484f7c35b1f02bb8b5c0c2", func := "lotcaster/castkeep.OrbitsFermat", spec := "orbitsFermat", unfollowed := true, recurses := true, plainKeys := false, apart := false, narrowed := true }
def OrbitsFermatUptoSaid : Prop := orbitsFermatUptoRow.holds Try.pinned (OpenSpec.upto orbitsFermatSpec)

/-- 'castkeep.OrbitsBurnside', WHERE WHAT IT READS IS OF BULK AT MOST 1048576: true; the input reads as it did. -/
def orbitsBurnsideUptoRow : OpenClaim := { program := "ytdabgibmbmhmdaa", sum := "9ffa29c2255191b80bb78a547c7bbadd292564103c484f7c35b1f02bb8b5c0c2", func := "lotcaster/castkeep.OrbitsBurnside", spec := "orbitsBurnside", unfollowed := true, recurses := true, plainKeys := false, apart := false, narrowed := true }
def OrbitsBurnsideUptoSaid : Prop := orbitsBurnsideUptoRow.holds Try.pinned (OpenSpec.upto orbitsBurnsideSpec)

/-- 'castkeep.OrbitsGroup', WHERE WHAT IT READS IS OF BULK AT MOST 1048576: true; the input reads as it did. -/
def orbitsGroupUptoRow : OpenClaim := { program := "ytdabgibmbmhmdaa", sum := "9ffa29c2255191b80bb78a547c7bbadd292564103c484f7c35b1f02bb8b5c0c2", func := "lotcaster/castkeep.OrbitsGroup", spec := "orbitsGroup", unfollowed := true, recurses := true, plainKeys := false, apart := false, narrowed := true }
def OrbitsGroupUptoSaid : Prop := orbitsGroupUptoRow.holds Try.pinned (OpenSpec.upto orbitsGroupSpec)

/-- 'castkeep.OrbitsLeast', WHERE WHAT IT READS IS OF BULK AT MOST 1048576: true; the input reads as it did. -/
def orbitsLeastUptoRow : OpenClaim := { program := "ytdabgibmbmhmdaa", sum := "9ffa29c2255191b80bb78a547c7bbadd292564103c484f7c35b1f02bb8b5c0c2", func := "lotcaster/castkeep.OrbitsLeast", spec := "orbitsLeast", unfollowed := true, recurses := true, plainKeys := false, apart := false, narrowed := true }
def OrbitsLeastUptoSaid : Prop := orbitsLeastUptoRow.holds Try.pinned (OpenSpec.upto orbitsLeastSpec)

end Rows
end Go.Proofs.Ytdabgibmbmhmdaa
