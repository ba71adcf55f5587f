/-
  No cell of these rows narrows 'for every input' (looked for: loops, veiled, ifaces, maps, wideKeys, modest, calm, conditions, laid).
  DERIVED. THE GIVEN ROWS OF THIS SEAT. 12 by the template 'for every input the law returns true; each argument reads behind the call as it read before'; 0 by the template 'total and deterministic' (their statements: YtnjnndodfdghbaaTotals.lean).
  GIVEN WITH THE SEED: the statements are not yours to turn. If you find one false, say at which input.
  Laid BY PROGRAM, IN A SANDBOX (cutbox-rows.mjs): the forced cells as the released guide's own fill.sh prints them over the translation 0f382e94cd836be2… (all of the seat's roots in one cut). By AI agents, Wed Nov 11 2026. No macro, syntax, notation, axiom, sorry.
-/
import Derived.Test.YtnjnndodfdghbaaChecked
import GoSem.Claim
import GoSem.ClaimJoined
import GoSem.ClaimMapViews
import Derived.JoinedTies
import Derived.KernelRfl
namespace Go.Proofs.Ytnjnndodfdghbaa
/- THE CELL 'sum', in the pinned program and in every row, IS THE sha256 OF THE DUMP (.gsa) THAT YtnjnndodfdghbaaProg.lean LOADS. Nothing in Lean hashes anything: it is a label: what it is worth is what the hold of that sum in a sandbox is worth. -/
noncomputable def Try.pinned : Pinned := { name := "ytnjnndodfdghbaa", sum := "0f382e94cd836be206edda7949f0365d6dae97e026a0877ead9dbe3b4c12ed92", checked := Try.checked }
namespace Rows
def none {H : Type} : Left H := { results := [], args := [] }

/-- 'castkeep.RankCode': WHATEVER THE INPUT: true; the input reads as it did. -/
def rankCodeSpec : ChangeSpec := { name := "rankCode", fn := fun _ => fun
  | [d1, d2] => { results := [.lit (.bool true)], args := [d1, d2] }
  | _ => none }
def rankCodeRow : OpenClaim := { program := "ytnjnndodfdghbaa", sum := "0f382e94cd836be206edda7949f0365d6dae97e026a0877ead9dbe3b4c12ed92", func := "lotcaster/castkeep.RankCode", spec := "rankCode", unfollowed := true, recurses := true, apart := false }
def RankCodeSaid : Prop := rankCodeRow.holds Try.pinned (OpenSpec.ofChange rankCodeSpec)

/-- ITS FALSE NEIGHBOUR: 'it returns false'. Refute it at one input. -/
def rankCodeWrong : ChangeSpec := { name := "rankCode", fn := fun _ => fun
  | [d1, d2] => { results := [.lit (.bool false)], args := [d1, d2] }
  | _ => none }
def RankCodeWrongFalsely : Prop := rankCodeRow.holds Try.pinned (OpenSpec.ofChange rankCodeWrong)

/-- 'castkeep.RankBack': WHATEVER THE INPUT: true; the input reads as it did. -/
def rankBackSpec : ChangeSpec := { name := "rankBack", fn := fun _ => fun
  | [d1, d2] => { results := [.lit (.bool true)], args := [d1, d2] }
  | _ => none }
def rankBackRow : OpenClaim := { program := "ytnjnndodfdghbaa", sum := "0f382e94cd836be206edda7949f0365d6dae97e026a0877ead9dbe3b4c12ed92", func := "lotcaster/castkeep.RankBack", spec := "rankBack", unfollowed := true, recurses := true, apart := false }
def RankBackSaid : Prop := rankBackRow.holds Try.pinned (OpenSpec.ofChange rankBackSpec)

/-- ITS FALSE NEIGHBOUR: 'it returns false'. Refute it at one input. -/
def rankBackWrong : ChangeSpec := { name := "rankBack", fn := fun _ => fun
  | [d1, d2] => { results := [.lit (.bool false)], args := [d1, d2] }
  | _ => none }
def RankBackWrongFalsely : Prop := rankBackRow.holds Try.pinned (OpenSpec.ofChange rankBackWrong)

/-- 'castkeep.RankTurned': WHATEVER THE INPUT: true; the input reads as it did. -/
def rankTurnedSpec : ChangeSpec := { name := "rankTurned", fn := fun _ => fun
  | [d] => { results := [.lit (.bool true)], args := [d] }
  | _ => none }
def rankTurnedRow : OpenClaim := { program := "ytnjnndodfdghbaa", sum := "0f382e94cd836be206edda7949f0365d6dae97e026a0877ead9dbe3b4c12ed92", func := "lotcaster/castkeep.RankTurned", spec := "rankTurned", unfollowed := true, recurses := true, apart := false }
def RankTurnedSaid : Prop := rankTurnedRow.holds Try.pinned (OpenSpec.ofChange rankTurnedSpec)

/-- ITS FALSE NEIGHBOUR: 'it returns false'. Refute it at one input. -/
def rankTurnedWrong : ChangeSpec := { name := "rankTurned", fn := fun _ => fun
  | [d] => { results := [.lit (.bool false)], args := [d] }
  | _ => none }
def RankTurnedWrongFalsely : Prop := rankTurnedRow.holds Try.pinned (OpenSpec.ofChange rankTurnedWrong)

/-- 'castkeep.RankRises': WHATEVER THE INPUT: true; the input reads as it did. -/
def rankRisesSpec : ChangeSpec := { name := "rankRises", fn := fun _ => fun
  | [d1, d2] => { results := [.lit (.bool true)], args := [d1, d2] }
  | _ => none }
def rankRisesRow : OpenClaim := { program := "ytnjnndodfdghbaa", sum := "0f382e94cd836be206edda7949f0365d6dae97e026a0877ead9dbe3b4c12ed92", func := "lotcaster/castkeep.RankRises", spec := "rankRises", unfollowed := true, recurses := true, apart := false }
def RankRisesSaid : Prop := rankRisesRow.holds Try.pinned (OpenSpec.ofChange rankRisesSpec)

/-- ITS FALSE NEIGHBOUR: 'it returns false'. Refute it at one input. -/
def rankRisesWrong : ChangeSpec := { name := "rankRises", fn := fun _ => fun
  | [d1, d2] => { results := [.lit (.bool false)], args := [d1, d2] }
  | _ => none }
def RankRisesWrongFalsely : Prop := rankRisesRow.holds Try.pinned (OpenSpec.ofChange rankRisesWrong)

/-- 'castkeep.RankWalk': WHATEVER THE INPUT: true; the input reads as it did. -/
def rankWalkSpec : ChangeSpec := { name := "rankWalk", fn := fun _ => fun
  | [d] => { results := [.lit (.bool true)], args := [d] }
  | _ => none }
def rankWalkRow : OpenClaim := { program := "ytnjnndodfdghbaa", sum := "0f382e94cd836be206edda7949f0365d6dae97e026a0877ead9dbe3b4c12ed92", func := "lotcaster/castkeep.RankWalk", spec := "rankWalk", unfollowed := true, recurses := true, apart := false }
def RankWalkSaid : Prop := rankWalkRow.holds Try.pinned (OpenSpec.ofChange rankWalkSpec)

/-- ITS FALSE NEIGHBOUR: 'it returns false'. Refute it at one input. -/
def rankWalkWrong : ChangeSpec := { name := "rankWalk", fn := fun _ => fun
  | [d] => { results := [.lit (.bool false)], args := [d] }
  | _ => none }
def RankWalkWrongFalsely : Prop := rankWalkRow.holds Try.pinned (OpenSpec.ofChange rankWalkWrong)

/-- 'castkeep.ShuffleBack': WHATEVER THE INPUT: true; the input reads as it did. -/
def shuffleBackSpec : ChangeSpec := { name := "shuffleBack", fn := fun _ => fun
  | [d1, d2] => { results := [.lit (.bool true)], args := [d1, d2] }
  | _ => none }
def shuffleBackRow : OpenClaim := { program := "ytnjnndodfdghbaa", sum := "0f382e94cd836be206edda7949f0365d6dae97e026a0877ead9dbe3b4c12ed92", func := "lotcaster/castkeep.ShuffleBack", spec := "shuffleBack", unfollowed := true, recurses := true, apart := false }
def ShuffleBackSaid : Prop := shuffleBackRow.holds Try.pinned (OpenSpec.ofChange shuffleBackSpec)

/-- ITS FALSE NEIGHBOUR: 'it returns false'. Refute it at one input. -/
def shuffleBackWrong : ChangeSpec := { name := "shuffleBack", fn := fun _ => fun
  | [d1, d2] => { results := [.lit (.bool false)], args := [d1, d2] }
  | _ => none }
def ShuffleBackWrongFalsely : Prop := shuffleBackRow.holds Try.pinned (OpenSpec.ofChange shuffleBackWrong)

/-- 'castkeep.ShuffleEven': WHATEVER THE INPUT: true; the input reads as it did. -/
def shuffleEvenSpec : ChangeSpec := { name := "shuffleEven", fn := fun _ => fun
  | [d] => { results := [.lit (.bool true)], args := [d] }
  | _ => none }
def shuffleEvenRow : OpenClaim := { program := "ytnjnndodfdghbaa", sum := "0f382e94cd836be206edda7949f0365d6dae97e026a0877ead9dbe3b4c12ed92", func := "lotcaster/castkeep.ShuffleEven", spec := "shuffleEven", unfollowed := true, recurses := true, apart := false }
def ShuffleEvenSaid : Prop := shuffleEvenRow.holds Try.pinned (OpenSpec.ofChange shuffleEvenSpec)

/-- ITS FALSE NEIGHBOUR: 'it returns false'. Refute it at one input. -/
def shuffleEvenWrong : ChangeSpec := { name := "shuffleEven", fn := fun _ => fun
  | [d] => { results := [.lit (.bool false)], args := [d] }
  | _ => none }
def ShuffleEvenWrongFalsely : Prop := shuffleEvenRow.holds Try.pinned (OpenSpec.ofChange shuffleEvenWrong)

/-- 'castkeep.ShuffleCast': WHATEVER THE INPUT: true; the input reads as it did. -/
def shuffleCastSpec : ChangeSpec := { name := "shuffleCast", fn := fun _ => fun
  | [d1, d2] => { results := [.lit (.bool true)], args := [d1, d2] }
  | _ => none }
def shuffleCastRow : OpenClaim := { program := "ytnjnndodfdghbaa", sum := "0f382e94cd836be206edda7949f0365d6dae97e026a0877ead9dbe3b4c12ed92", func := "lotcaster/castkeep.ShuffleCast", spec := "shuffleCast", unfollowed := true, recurses := true, apart := false }
def ShuffleCastSaid : Prop := shuffleCastRow.holds Try.pinned (OpenSpec.ofChange shuffleCastSpec)

/-- ITS FALSE NEIGHBOUR: 'it returns false'. Refute it at one input. -/
def shuffleCastWrong : ChangeSpec := { name := "shuffleCast", fn := fun _ => fun
  | [d1, d2] => { results := [.lit (.bool false)], args := [d1, d2] }
  | _ => none }
def ShuffleCastWrongFalsely : Prop := shuffleCastRow.holds Try.pinned (OpenSpec.ofChange shuffleCastWrong)

/-- 'castkeep.RisesMacMahon': WHATEVER THE INPUT: true; the input reads as it did. -/
def risesMacMahonSpec : ChangeSpec := { name := "risesMacMahon", fn := fun _ => fun
  | [d] => { results := [.lit (.bool true)], args := [d] }
  | _ => none }
def risesMacMahonRow : OpenClaim := { program := "ytnjnndodfdghbaa", sum := "0f382e94cd836be206edda7949f0365d6dae97e026a0877ead9dbe3b4c12ed92", func := "lotcaster/castkeep.RisesMacMahon", spec := "risesMacMahon", unfollowed := true, recurses := true, apart := false }
def RisesMacMahonSaid : Prop := risesMacMahonRow.holds Try.pinned (OpenSpec.ofChange risesMacMahonSpec)

/-- ITS FALSE NEIGHBOUR: 'it returns false'. Refute it at one input. -/
def risesMacMahonWrong : ChangeSpec := { name := "risesMacMahon", fn := fun _ => fun
  | [d] => { results := [.lit (.bool false)], args := [d] }
  | _ => none }
def RisesMacMahonWrongFalsely : Prop := risesMacMahonRow.holds Try.pinned (OpenSpec.ofChange risesMacMahonWrong)

/-- 'castkeep.PermGroup': WHATEVER THE INPUT: true; the input reads as it did. -/
def permGroupSpec : ChangeSpec := { name := "permGroup", fn := fun _ => fun
  | [d1, d2, d3] => { results := [.lit (.bool true)], args := [d1, d2, d3] }
  | _ => none }
def permGroupRow : OpenClaim := { program := "ytnjnndodfdghbaa", sum := "0f382e94cd836be206edda7949f0365d6dae97e026a0877ead9dbe3b4c12ed92", func := "lotcaster/castkeep.PermGroup", spec := "permGroup", unfollowed := true, recurses := true, apart := false }
def PermGroupSaid : Prop := permGroupRow.holds Try.pinned (OpenSpec.ofChange permGroupSpec)

/-- ITS FALSE NEIGHBOUR: 'it returns false'. Refute it at one input. -/
def permGroupWrong : ChangeSpec := { name := "permGroup", fn := fun _ => fun
  | [d1, d2, d3] => { results := [.lit (.bool false)], args := [d1, d2, d3] }
  | _ => none }
def PermGroupWrongFalsely : Prop := permGroupRow.holds Try.pinned (OpenSpec.ofChange permGroupWrong)

/-- 'castkeep.PermSigns': WHATEVER THE INPUT: true; the input reads as it did. -/
def permSignsSpec : ChangeSpec := { name := "permSigns", fn := fun _ => fun
  | [d1, d2, d3, d4] => { results := [.lit (.bool true)], args := [d1, d2, d3, d4] }
  | _ => none }
def permSignsRow : OpenClaim := { program := "ytnjnndodfdghbaa", sum := "0f382e94cd836be206edda7949f0365d6dae97e026a0877ead9dbe3b4c12ed92", func := "lotcaster/castkeep.PermSigns", spec := "permSigns", unfollowed := true, recurses := true, apart := false }
def PermSignsSaid : Prop := permSignsRow.holds Try.pinned (OpenSpec.ofChange permSignsSpec)

/-- ITS FALSE NEIGHBOUR: 'it returns false'. Refute it at one input. -/
def permSignsWrong : ChangeSpec := { name := "permSigns", fn := fun _ => fun
  | [d1, d2, d3, d4] => { results := [.lit (.bool false)], args := [d1, d2, d3, d4] }
  | _ => none }
def PermSignsWrongFalsely : Prop := permSignsRow.holds Try.pinned (OpenSpec.ofChange permSignsWrong)

/-- 'castkeep.PermOrders': WHATEVER THE INPUT: true; the input reads as it did. -/
def permOrdersSpec : ChangeSpec := { name := "permOrders", fn := fun _ => fun
  | [d1, d2] => { results := [.lit (.bool true)], args := [d1, d2] }
  | _ => none }
def permOrdersRow : OpenClaim := { program := "ytnjnndodfdghbaa", sum := "0f382e94cd836be206edda7949f0365d6dae97e026a0877ead9dbe3b4c12ed92", func := "lotcaster/castkeep.PermOrders", spec := "permOrders", unfollowed := true, recurses := true, apart := false }
def PermOrdersSaid : Prop := permOrdersRow.holds Try.pinned (OpenSpec.ofChange permOrdersSpec)

/-- ITS FALSE NEIGHBOUR: 'it returns false'. Refute it at one input. -/
def permOrdersWrong : ChangeSpec := { name := "permOrders", fn := fun _ => fun
  | [d1, d2] => { results := [.lit (.bool false)], args := [d1, d2] }
  | _ => none }
def PermOrdersWrongFalsely : Prop := permOrdersRow.holds Try.pinned (OpenSpec.ofChange permOrdersWrong)

/- THE SECOND FORM. 'bulk': how many values and letters a reading holds, each counted each time it is reached (what is shared counts as often as it is met; a slice's spare places count too). A statement '..UptoSaid' is the law's where the arguments, and the package variables that the reading takes, are together of bulk at most 1048576: NARROWER than '..Said'. Prove '..Said' where nothing that the law and all that it calls make is longer than what came in: it says more and counts as full. Else prove '..UptoSaid'. A law counts once. -/
mutual
def uptoBulk {H : Type} : DataW H → Nat
  | .lit (.string bytes) => bytes.length + 1
  | .lit _ => 1
  | .nil => 1
  | .ptr d => uptoBulk d + 1
  | .slice elems spare => uptoBulkAll elems + uptoBulkAll spare + 1
  | .agg parts => uptoBulkAll parts + 1
  | .iface _ d => uptoBulk d + 1
  | .map entries => uptoBulkEntries entries + 1
  | .held _ => 1
def uptoBulkAll {H : Type} : List (DataW H) → Nat
  | [] => 0
  | d :: r => uptoBulk d + uptoBulkAll r
def uptoBulkEntries {H : Type} : List (Lit × DataW H) → Nat
  | [] => 0
  | x :: r => uptoBulkEntry x + uptoBulkEntries r
def uptoBulkEntry {H : Type} : Lit × DataW H → Nat
  | (.string bytes, d) => bytes.length + uptoBulk d + 1
  | (_, d) => uptoBulk d + 1
 end
def uptoSmall : (H : Type) → List (DataW H) → Bool := fun _ ds => decide (uptoBulkAll ds ≤ 1048576)
def OpenSpec.upto (s : _root_.Go.ChangeSpec) : _root_.Go.OpenSpec := { _root_.Go.OpenSpec.ofChange s with cond := some uptoSmall }

/-- 'castkeep.RankCode', WHERE WHAT IT READS IS OF BULK AT MOST 1048576: true; the input reads as it did. -/
def rankCodeUptoRow : OpenClaim := { program := "ytnjnndodfdghbaa", sum := "0f382e94cd836be206edda7949f0365d6dae97e026a0877ead9dbe3b4c12ed92", func := "lotcaster/castkeep.RankCode", spec := "rankCode", unfollowed := true, recurses := true, apart := false, narrowed := true }
def RankCodeUptoSaid : Prop := rankCodeUptoRow.holds Try.pinned (OpenSpec.upto rankCodeSpec)

/-- 'castkeep.RankBack', WHERE WHAT IT READS IS OF BULK AT MOST 1048576: true; the input reads as it did. -/
def rankBackUptoRow : OpenClaim := { program := "ytnjnndodfdghbaa", sum := "0f382e94cd836be206edda7949f0365d6dae97e026a0877ead9dbe3b4c12ed92", func := "lotcaster/castkeep.RankBack", spec := "rankBack", unfollowed := true, recurses := true, apart := false, narrowed := true }
def RankBackUptoSaid : Prop := rankBackUptoRow.holds Try.pinned (OpenSpec.upto rankBackSpec)

/-- 'castkeep.RankTurned', WHERE WHAT IT READS IS OF BULK AT MOST 1048576: true; the input reads as it did. -/
def rankTurnedUptoRow : OpenClaim := { program := "ytnjnndodfdghbaa", sum := "0f382e94cd836be206edda7949f0365d6dae97e026a0877ead9dbe3b4c12ed92", func := "lotcaster/castkeep.RankTurned", spec := "rankTurned", unfollowed := true, recurses := true, apart := false, narrowed := true }
def RankTurnedUptoSaid : Prop := rankTurnedUptoRow.holds Try.pinned (OpenSpec.upto rankTurnedSpec)

/-- 'castkeep.RankRises', WHERE WHAT IT READS IS OF BULK AT MOST 1048576: true; the input reads as it did. -/
def rankRisesUptoRow : OpenClaim := { program := "ytnjnndodfdghbaa", sum := "0f382e94cd836be206edda7949f0365d6dae97e026a0877ead9dbe3b4c12ed92", func := "lotcaster/castkeep.RankRises", spec := "rankRises", unfollowed := true, recurses := true, apart := false, narrowed := true }
def RankRisesUptoSaid : Prop := rankRisesUptoRow.holds Try.pinned (OpenSpec.upto rankRisesSpec)

/-- 'castkeep.RankWalk', WHERE WHAT IT READS IS OF BULK AT MOST 1048576: true; the input reads as it did. -/
def rankWalkUptoRow : OpenClaim := { program := "ytnjnndodfdghbaa", sum := "0f382e94cd836be206edda7949f0365d6dae97e026a0877ead9dbe3b4c12ed92", func := "lotcaster/castkeep.RankWalk", spec := "rankWalk", unfollowed := true, recurses := true, apart := false, narrowed := true }
def RankWalkUptoSaid : Prop := rankWalkUptoRow.holds Try.pinned (OpenSpec.upto rankWalkSpec)

/-- 'castkeep.ShuffleBack', WHERE WHAT IT READS IS OF BULK AT MOST 1048576: true; the input reads as it did. -/
def shuffleBackUptoRow : OpenClaim := { program := "ytnjnndodfdghbaa", sum := "0f382e94cd836be206edda7949f0365d6dae97e026a0877ead9dbe3b4c12ed92", func := "lotcaster/castkeep.ShuffleBack", spec := "shuffleBack", unfollowed := true, recurses := true, apart := false, narrowed := true }
def ShuffleBackUptoSaid : Prop := shuffleBackUptoRow.holds Try.pinned (OpenSpec.upto shuffleBackSpec)

/-- 'castkeep.ShuffleEven', WHERE WHAT IT READS IS OF BULK AT MOST 1048576: true; the input reads as it did. -/
def shuffleEvenUptoRow : OpenClaim := { program := "ytnjnndodfdghbaa", sum := "0f382e94cd836be206edda7949f0365d6dae97e026a0877ead9dbe3b4c12ed92", func := "lotcaster/castkeep.ShuffleEven", spec := "shuffleEven", unfollowed := true, recurses := true, apart := false, narrowed := true }
def ShuffleEvenUptoSaid : Prop := shuffleEvenUptoRow.holds Try.pinned (OpenSpec.upto shuffleEvenSpec)

/-- 'castkeep.ShuffleCast', WHERE WHAT IT READS IS OF BULK AT MOST 1048576: true; the input reads as it did. -/
def shuffleCastUptoRow : OpenClaim := { program := "ytnjnndodfdghbaa", sum := "0f382e94cd836be206edda7949f0365d6dae97e026a0877ead9dbe3b4c12ed92", func := "lotcaster/castkeep.ShuffleCast", spec := "shuffleCast", unfollowed := true, recurses := true, apart := false, narrowed := true }
def ShuffleCastUptoSaid : Prop := shuffleCastUptoRow.holds Try.pinned (OpenSpec.upto shuffleCastSpec)

/-- 'castkeep.RisesMacMahon', WHERE WHAT IT READS IS OF BULK AT MOST 1048576: true; the input reads as it did. -/
def risesMacMahonUptoRow : OpenClaim := { program := "ytnjnndodfdghbaa", sum := "0f382e94cd836be206edda7949f0365d6dae97e026a0877ead9dbe3b4c12ed92", func := "lotcaster/castkeep.RisesMacMahon", spec := "risesMacMahon", unfollowed := true, recurses := true, apart := false, narrowed := true }
def RisesMacMahonUptoSaid : Prop := risesMacMahonUptoRow.holds Try.pinned (OpenSpec.upto risesMacMahonSpec)

/-- 'castkeep.PermGroup', WHERE WHAT IT READS IS OF BULK AT MOST 1048576: true; the input reads as it did. -/
def permGroupUptoRow : OpenClaim := { program := "ytnjnndodfdghbaa", sum := "0f382e94cd836be206edda7949f0365d6dae97e026a0877ead9dbe3b4c12ed92", func := "lotcaster/castkeep.PermGroup", spec := "permGroup", unfollowed := true, recurses := true, apart := false, narrowed := true }
def PermGroupUptoSaid : Prop := permGroupUptoRow.holds Try.pinned (OpenSpec.upto permGroupSpec)

/-- 'castkeep.PermSigns', WHERE WHAT IT READS IS OF BULK AT MOST 1048576: true; the input reads as it did. -/
def permSignsUptoRow : OpenClaim := { program := "ytnjnndodfdghbaa", sum := "0f382e94cd836be206edda7949f0365d6dae97e026a0877ead9dbe3b4c12ed92", func := "lotcaster/castkeep.PermSigns", spec := "permSigns", unfollowed := true, recurses := true, apart := false, narrowed := true }
def PermSignsUptoSaid : Prop := permSignsUptoRow.holds Try.pinned (OpenSpec.upto permSignsSpec)

/-- 'castkeep.PermOrders', WHERE WHAT IT READS IS OF BULK AT MOST 1048576: true; the input reads as it did. -/
def permOrdersUptoRow : OpenClaim := { program := "ytnjnndodfdghbaa", sum := "0f382e94cd836be206edda7949f0365d6dae97e026a0877ead9dbe3b4c12ed92", func := "lotcaster/castkeep.PermOrders", spec := "permOrders", unfollowed := true, recurses := true, apart := false, narrowed := true }
def PermOrdersUptoSaid : Prop := permOrdersUptoRow.holds Try.pinned (OpenSpec.upto permOrdersSpec)

end Rows
end Go.Proofs.Ytnjnndodfdghbaa
