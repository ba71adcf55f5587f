/-
  No cell of these rows narrows 'for every input' (looked for: loops, veiled, ifaces, maps, wideKeys, modest, calm, conditions, laid).
  DERIVED. THE GIVEN ROWS OF THIS SEAT. 12 by the template 'for every input the law returns true; each argument reads behind the call as it read before'; 0 by the template 'total and deterministic' (their statements: YtdcekplmmfenlaaTotals.lean).
  GIVEN WITH THE SEED: the statements are not yours to turn. If you find one false, say at which input.
  Laid BY PROGRAM, IN A SANDBOX (cutbox-rows.mjs): the forced cells as the released guide's own fill.sh prints them over the translation a9129ff04bf54987… (all of the seat's roots in one cut). By AI agents, Wed Nov 11 2026. No macro, syntax, notation, axiom, sorry.
-/
import Derived.Test.YtdcekplmmfenlaaChecked
import GoSem.Claim
import GoSem.ClaimJoined
import GoSem.ClaimMapViews
import Derived.JoinedTies
import Derived.KernelRfl
namespace Go.Proofs.Ytdcekplmmfenlaa
/- THE CELL 'sum', in the pinned program and in every row, IS THE sha256 OF THE DUMP (.gsa) THAT YtdcekplmmfenlaaProg.lean LOADS. Nothing in Lean hashes anything: it is a label: what it is worth is what the hold of that sum in a sandbox is worth. -/
noncomputable def Try.pinned : Pinned := { name := "ytdcekplmmfenlaa", sum := "a9129ff04bf54987564e8d20b52521c72041c0aeaf2d3d80d20999df820711d5", checked := Try.checked }
namespace Rows
def none {H : Type} : Left H := { results := [], args := [] }

/-- 'castkeep.NestsSegner': WHATEVER THE INPUT: true; the input reads as it did. -/
def nestsSegnerSpec : ChangeSpec := { name := "nestsSegner", fn := fun _ => fun
  | [d] => { results := [.lit (.bool true)], args := [d] }
  | _ => none }
def nestsSegnerRow : OpenClaim := { program := "ytdcekplmmfenlaa", sum := "a9129ff04bf54987564e8d20b52521c72041c0aeaf2d3d80d20999df820711d5", func := "lotcaster/castkeep.NestsSegner", spec := "nestsSegner", unfollowed := true, recurses := true, apart := false }
def NestsSegnerSaid : Prop := nestsSegnerRow.holds Try.pinned (OpenSpec.ofChange nestsSegnerSpec)

/-- ITS FALSE NEIGHBOUR: 'it returns false'. Refute it at one input. -/
def nestsSegnerWrong : ChangeSpec := { name := "nestsSegner", fn := fun _ => fun
  | [d] => { results := [.lit (.bool false)], args := [d] }
  | _ => none }
def NestsSegnerWrongFalsely : Prop := nestsSegnerRow.holds Try.pinned (OpenSpec.ofChange nestsSegnerWrong)

/-- 'castkeep.NestsBallot': WHATEVER THE INPUT: true; the input reads as it did. -/
def nestsBallotSpec : ChangeSpec := { name := "nestsBallot", fn := fun _ => fun
  | [d1, d2] => { results := [.lit (.bool true)], args := [d1, d2] }
  | _ => none }
def nestsBallotRow : OpenClaim := { program := "ytdcekplmmfenlaa", sum := "a9129ff04bf54987564e8d20b52521c72041c0aeaf2d3d80d20999df820711d5", func := "lotcaster/castkeep.NestsBallot", spec := "nestsBallot", unfollowed := true, recurses := true, apart := false }
def NestsBallotSaid : Prop := nestsBallotRow.holds Try.pinned (OpenSpec.ofChange nestsBallotSpec)

/-- ITS FALSE NEIGHBOUR: 'it returns false'. Refute it at one input. -/
def nestsBallotWrong : ChangeSpec := { name := "nestsBallot", fn := fun _ => fun
  | [d1, d2] => { results := [.lit (.bool false)], args := [d1, d2] }
  | _ => none }
def NestsBallotWrongFalsely : Prop := nestsBallotRow.holds Try.pinned (OpenSpec.ofChange nestsBallotWrong)

/-- 'castkeep.NestsBack': WHATEVER THE INPUT: true; the input reads as it did. -/
def nestsBackSpec : ChangeSpec := { name := "nestsBack", fn := fun _ => fun
  | [d1, d2, d3] => { results := [.lit (.bool true)], args := [d1, d2, d3] }
  | _ => none }
def nestsBackRow : OpenClaim := { program := "ytdcekplmmfenlaa", sum := "a9129ff04bf54987564e8d20b52521c72041c0aeaf2d3d80d20999df820711d5", func := "lotcaster/castkeep.NestsBack", spec := "nestsBack", unfollowed := true, recurses := true, apart := false }
def NestsBackSaid : Prop := nestsBackRow.holds Try.pinned (OpenSpec.ofChange nestsBackSpec)

/-- ITS FALSE NEIGHBOUR: 'it returns false'. Refute it at one input. -/
def nestsBackWrong : ChangeSpec := { name := "nestsBack", fn := fun _ => fun
  | [d1, d2, d3] => { results := [.lit (.bool false)], args := [d1, d2, d3] }
  | _ => none }
def NestsBackWrongFalsely : Prop := nestsBackRow.holds Try.pinned (OpenSpec.ofChange nestsBackWrong)

/-- 'castkeep.NestsNarayana': WHATEVER THE INPUT: true; the input reads as it did. -/
def nestsNarayanaSpec : ChangeSpec := { name := "nestsNarayana", fn := fun _ => fun
  | [d1, d2] => { results := [.lit (.bool true)], args := [d1, d2] }
  | _ => none }
def nestsNarayanaRow : OpenClaim := { program := "ytdcekplmmfenlaa", sum := "a9129ff04bf54987564e8d20b52521c72041c0aeaf2d3d80d20999df820711d5", func := "lotcaster/castkeep.NestsNarayana", spec := "nestsNarayana", inPlace := ["internal/bytealg.CountString", "internal/bytealg.IndexByteString", "internal/bytealg.IndexString"], unfollowed := true, recurses := true, named := ["internal/bytealg.MaxLen"], apart := false }
def NestsNarayanaSaid : Prop := nestsNarayanaRow.holds Try.pinned (OpenSpec.ofChange nestsNarayanaSpec)

/-- ITS FALSE NEIGHBOUR: 'it returns false'. Refute it at one input. -/
def nestsNarayanaWrong : ChangeSpec := { name := "nestsNarayana", fn := fun _ => fun
  | [d1, d2] => { results := [.lit (.bool false)], args := [d1, d2] }
  | _ => none }
def NestsNarayanaWrongFalsely : Prop := nestsNarayanaRow.holds Try.pinned (OpenSpec.ofChange nestsNarayanaWrong)

/-- 'castkeep.NestsJoin': WHATEVER THE INPUT: true; the input reads as it did. -/
def nestsJoinSpec : ChangeSpec := { name := "nestsJoin", fn := fun _ => fun
  | [d1, d2, d3] => { results := [.lit (.bool true)], args := [d1, d2, d3] }
  | _ => none }
def nestsJoinRow : OpenClaim := { program := "ytdcekplmmfenlaa", sum := "a9129ff04bf54987564e8d20b52521c72041c0aeaf2d3d80d20999df820711d5", func := "lotcaster/castkeep.NestsJoin", spec := "nestsJoin", inPlace := ["internal/bytealg.CountString", "internal/bytealg.IndexByteString", "internal/bytealg.IndexString"], unfollowed := true, recurses := true, named := ["internal/bytealg.MaxLen"], apart := false }
def NestsJoinSaid : Prop := nestsJoinRow.holds Try.pinned (OpenSpec.ofChange nestsJoinSpec)

/-- ITS FALSE NEIGHBOUR: 'it returns false'. Refute it at one input. -/
def nestsJoinWrong : ChangeSpec := { name := "nestsJoin", fn := fun _ => fun
  | [d1, d2, d3] => { results := [.lit (.bool false)], args := [d1, d2, d3] }
  | _ => none }
def NestsJoinWrongFalsely : Prop := nestsJoinRow.holds Try.pinned (OpenSpec.ofChange nestsJoinWrong)

/-- 'castkeep.SubsetOther': WHATEVER THE INPUT: true; the input reads as it did. -/
def subsetOtherSpec : ChangeSpec := { name := "subsetOther", fn := fun _ => fun
  | [d1, d2] => { results := [.lit (.bool true)], args := [d1, d2] }
  | _ => none }
def subsetOtherRow : OpenClaim := { program := "ytdcekplmmfenlaa", sum := "a9129ff04bf54987564e8d20b52521c72041c0aeaf2d3d80d20999df820711d5", func := "lotcaster/castkeep.SubsetOther", spec := "subsetOther", unfollowed := true, recurses := true, apart := false }
def SubsetOtherSaid : Prop := subsetOtherRow.holds Try.pinned (OpenSpec.ofChange subsetOtherSpec)

/-- ITS FALSE NEIGHBOUR: 'it returns false'. Refute it at one input. -/
def subsetOtherWrong : ChangeSpec := { name := "subsetOther", fn := fun _ => fun
  | [d1, d2] => { results := [.lit (.bool false)], args := [d1, d2] }
  | _ => none }
def SubsetOtherWrongFalsely : Prop := subsetOtherRow.holds Try.pinned (OpenSpec.ofChange subsetOtherWrong)

/-- 'castkeep.SubsetWalk': WHATEVER THE INPUT: true; the input reads as it did. -/
def subsetWalkSpec : ChangeSpec := { name := "subsetWalk", fn := fun _ => fun
  | [d1, d2] => { results := [.lit (.bool true)], args := [d1, d2] }
  | _ => none }
def subsetWalkRow : OpenClaim := { program := "ytdcekplmmfenlaa", sum := "a9129ff04bf54987564e8d20b52521c72041c0aeaf2d3d80d20999df820711d5", func := "lotcaster/castkeep.SubsetWalk", spec := "subsetWalk", apart := false }
def SubsetWalkSaid : Prop := subsetWalkRow.holds Try.pinned (OpenSpec.ofChange subsetWalkSpec)

/-- ITS FALSE NEIGHBOUR: 'it returns false'. Refute it at one input. -/
def subsetWalkWrong : ChangeSpec := { name := "subsetWalk", fn := fun _ => fun
  | [d1, d2] => { results := [.lit (.bool false)], args := [d1, d2] }
  | _ => none }
def SubsetWalkWrongFalsely : Prop := subsetWalkRow.holds Try.pinned (OpenSpec.ofChange subsetWalkWrong)

/-- 'castkeep.BlocksOf': WHATEVER THE INPUT: true; the input reads as it did. -/
def blocksOfSpec : ChangeSpec := { name := "blocksOf", fn := fun _ => fun
  | [d1, d2] => { results := [.lit (.bool true)], args := [d1, d2] }
  | _ => none }
def blocksOfRow : OpenClaim := { program := "ytdcekplmmfenlaa", sum := "a9129ff04bf54987564e8d20b52521c72041c0aeaf2d3d80d20999df820711d5", func := "lotcaster/castkeep.BlocksOf", spec := "blocksOf", unfollowed := true, recurses := true, apart := false }
def BlocksOfSaid : Prop := blocksOfRow.holds Try.pinned (OpenSpec.ofChange blocksOfSpec)

/-- ITS FALSE NEIGHBOUR: 'it returns false'. Refute it at one input. -/
def blocksOfWrong : ChangeSpec := { name := "blocksOf", fn := fun _ => fun
  | [d1, d2] => { results := [.lit (.bool false)], args := [d1, d2] }
  | _ => none }
def BlocksOfWrongFalsely : Prop := blocksOfRow.holds Try.pinned (OpenSpec.ofChange blocksOfWrong)

/-- 'castkeep.BlocksWalk': WHATEVER THE INPUT: true; the input reads as it did. -/
def blocksWalkSpec : ChangeSpec := { name := "blocksWalk", fn := fun _ => fun
  | [d] => { results := [.lit (.bool true)], args := [d] }
  | _ => none }
def blocksWalkRow : OpenClaim := { program := "ytdcekplmmfenlaa", sum := "a9129ff04bf54987564e8d20b52521c72041c0aeaf2d3d80d20999df820711d5", func := "lotcaster/castkeep.BlocksWalk", spec := "blocksWalk", unfollowed := true, recurses := true, apart := false }
def BlocksWalkSaid : Prop := blocksWalkRow.holds Try.pinned (OpenSpec.ofChange blocksWalkSpec)

/-- ITS FALSE NEIGHBOUR: 'it returns false'. Refute it at one input. -/
def blocksWalkWrong : ChangeSpec := { name := "blocksWalk", fn := fun _ => fun
  | [d] => { results := [.lit (.bool false)], args := [d] }
  | _ => none }
def BlocksWalkWrongFalsely : Prop := blocksWalkRow.holds Try.pinned (OpenSpec.ofChange blocksWalkWrong)

/-- 'castkeep.BlocksNext': WHATEVER THE INPUT: true; the input reads as it did. -/
def blocksNextSpec : ChangeSpec := { name := "blocksNext", fn := fun _ => fun
  | [d1, d2] => { results := [.lit (.bool true)], args := [d1, d2] }
  | _ => none }
def blocksNextRow : OpenClaim := { program := "ytdcekplmmfenlaa", sum := "a9129ff04bf54987564e8d20b52521c72041c0aeaf2d3d80d20999df820711d5", func := "lotcaster/castkeep.BlocksNext", spec := "blocksNext", unfollowed := true, recurses := true, apart := false }
def BlocksNextSaid : Prop := blocksNextRow.holds Try.pinned (OpenSpec.ofChange blocksNextSpec)

/-- ITS FALSE NEIGHBOUR: 'it returns false'. Refute it at one input. -/
def blocksNextWrong : ChangeSpec := { name := "blocksNext", fn := fun _ => fun
  | [d1, d2] => { results := [.lit (.bool false)], args := [d1, d2] }
  | _ => none }
def BlocksNextWrongFalsely : Prop := blocksNextRow.holds Try.pinned (OpenSpec.ofChange blocksNextWrong)

/-- 'castkeep.PartsEuler': WHATEVER THE INPUT: true; the input reads as it did. -/
def partsEulerSpec : ChangeSpec := { name := "partsEuler", fn := fun _ => fun
  | [d1, d2] => { results := [.lit (.bool true)], args := [d1, d2] }
  | _ => none }
def partsEulerRow : OpenClaim := { program := "ytdcekplmmfenlaa", sum := "a9129ff04bf54987564e8d20b52521c72041c0aeaf2d3d80d20999df820711d5", func := "lotcaster/castkeep.PartsEuler", spec := "partsEuler", unfollowed := true, recurses := true, apart := false }
def PartsEulerSaid : Prop := partsEulerRow.holds Try.pinned (OpenSpec.ofChange partsEulerSpec)

/-- ITS FALSE NEIGHBOUR: 'it returns false'. Refute it at one input. -/
def partsEulerWrong : ChangeSpec := { name := "partsEuler", fn := fun _ => fun
  | [d1, d2] => { results := [.lit (.bool false)], args := [d1, d2] }
  | _ => none }
def PartsEulerWrongFalsely : Prop := partsEulerRow.holds Try.pinned (OpenSpec.ofChange partsEulerWrong)

/-- 'castkeep.PartsAll': WHATEVER THE INPUT: true; the input reads as it did. -/
def partsAllSpec : ChangeSpec := { name := "partsAll", fn := fun _ => fun
  | [d1, d2] => { results := [.lit (.bool true)], args := [d1, d2] }
  | _ => none }
def partsAllRow : OpenClaim := { program := "ytdcekplmmfenlaa", sum := "a9129ff04bf54987564e8d20b52521c72041c0aeaf2d3d80d20999df820711d5", func := "lotcaster/castkeep.PartsAll", spec := "partsAll", unfollowed := true, recurses := true, apart := false }
def PartsAllSaid : Prop := partsAllRow.holds Try.pinned (OpenSpec.ofChange partsAllSpec)

/-- ITS FALSE NEIGHBOUR: 'it returns false'. Refute it at one input. -/
def partsAllWrong : ChangeSpec := { name := "partsAll", fn := fun _ => fun
  | [d1, d2] => { results := [.lit (.bool false)], args := [d1, d2] }
  | _ => none }
def PartsAllWrongFalsely : Prop := partsAllRow.holds Try.pinned (OpenSpec.ofChange partsAllWrong)

/- THE SECOND FORM. 'bulk': how many values and letters a reading holds, each counted each time it is reached (what is shared counts as often as it is met; a slice's spare places count too). A statement '..UptoSaid' is the law's where the arguments, and the package variables that the reading takes, are together of bulk at most 1048576: NARROWER than '..Said'. Prove '..Said' where nothing that the law and all that it calls make is longer than what came in: it says more and counts as full. Else prove '..UptoSaid'. A law counts once. -/
mutual
def uptoBulk {H : Type} : DataW H → Nat
  | .lit (.string bytes) => bytes.length + 1
  | .lit _ => 1
  | .nil => 1
  | .ptr d => uptoBulk d + 1
  | .slice elems spare => uptoBulkAll elems + uptoBulkAll spare + 1
  | .agg parts => uptoBulkAll parts + 1
  | .iface _ d => uptoBulk d + 1
  | .map entries => uptoBulkEntries entries + 1
  | .held _ => 1
def uptoBulkAll {H : Type} : List (DataW H) → Nat
  | [] => 0
  | d :: r => uptoBulk d + uptoBulkAll r
def uptoBulkEntries {H : Type} : List (Lit × DataW H) → Nat
  | [] => 0
  | x :: r => uptoBulkEntry x + uptoBulkEntries r
def uptoBulkEntry {H : Type} : Lit × DataW H → Nat
  | (.string bytes, d) => bytes.length + uptoBulk d + 1
  | (_, d) => uptoBulk d + 1
 end
def uptoSmall : (H : Type) → List (DataW H) → Bool := fun _ ds => decide (uptoBulkAll ds ≤ 1048576)
def OpenSpec.upto (s : _root_.Go.ChangeSpec) : _root_.Go.OpenSpec := { _root_.Go.OpenSpec.ofChange s with cond := some uptoSmall }

/-- 'castkeep.NestsSegner', WHERE WHAT IT READS IS OF BULK AT MOST 1048576: true; the input reads as it did. -/
def nestsSegnerUptoRow : OpenClaim := { program := "ytdcekplmmfenlaa", sum := "a9129ff04bf54987564e8d20b52521c72041c0aeaf2d3d80d20999df820711d5", func := "lotcaster/castkeep.NestsSegner", spec := "nestsSegner", unfollowed := true, recurses := true, apart := false, narrowed := true }
def NestsSegnerUptoSaid : Prop := nestsSegnerUptoRow.holds Try.pinned (OpenSpec.upto nestsSegnerSpec)

/-- 'castkeep.NestsBallot', WHERE WHAT IT READS IS OF BULK AT MOST 1048576: true; the input reads as it did. -/
def nestsBallotUptoRow : OpenClaim := { program := "ytdcekplmmfenlaa", sum := "a9129ff04bf54987564e8d20b52521c72041c0aeaf2d3d80d20999df820711d5", func := "lotcaster/castkeep.NestsBallot", spec := "nestsBallot", unfollowed := true, recurses := true, apart := false, narrowed := true }
def NestsBallotUptoSaid : Prop := nestsBallotUptoRow.holds Try.pinned (OpenSpec.upto nestsBallotSpec)

/-- 'castkeep.NestsBack', WHERE WHAT IT READS IS OF BULK AT MOST 1048576: true; the input reads as it did. -/
def nestsBackUptoRow : OpenClaim := { program := "ytdcekplmmfenlaa", sum := "a9129ff04bf54987564e8d20b52521c72041c0aeaf2d3d80d20999df820711d5", func := "lotcaster/castkeep.NestsBack", spec := "nestsBack", unfollowed := true, recurses := true, apart := false, narrowed := true }
def NestsBackUptoSaid : Prop := nestsBackUptoRow.holds Try.pinned (OpenSpec.upto nestsBackSpec)

/-- 'castkeep.NestsNarayana', WHERE WHAT IT READS IS OF BULK AT MOST 1048576: true; the input reads as it did. -/
def nestsNarayanaUptoRow : OpenClaim := { program := "ytdcekplmmfenlaa", sum := "a9129ff04bf54987564e8d20b52521c72041c0aeaf2d3d80d20999df820711d5", func := "lotcaster/castkeep.NestsNarayana", spec := "nestsNarayana", inPlace := ["internal/bytealg.CountString", "internal/bytealg.IndexByteString", "internal/bytealg.IndexString"], unfollowed := true, recurses := true, named := ["internal/bytealg.MaxLen"], apart := false, narrowed := true }
def NestsNarayanaUptoSaid : Prop := nestsNarayanaUptoRow.holds Try.pinned (OpenSpec.upto nestsNarayanaSpec)

/-- 'castkeep.NestsJoin', WHERE WHAT IT READS IS OF BULK AT MOST 1048576: true; the input reads as it did. -/
def nestsJoinUptoRow : OpenClaim := { program := "ytdcekplmmfenlaa", sum := "a9129ff04bf54987564e8d20b52521c72041c0aeaf2d3d80d20999df820711d5", func := "lotcaster/castkeep.NestsJoin", spec := "nestsJoin", inPlace := ["internal/bytealg.CountString", "internal/bytealg.IndexByteString", "internal/bytealg.IndexString"], unfollowed := true, recurses := true, named := ["internal/bytealg.MaxLen"], apart := false, narrowed := true }
def NestsJoinUptoSaid : Prop := nestsJoinUptoRow.holds Try.pinned (OpenSpec.upto nestsJoinSpec)

/-- 'castkeep.SubsetOther', WHERE WHAT IT READS IS OF BULK AT MOST 1048576: true; the input reads as it did. -/
def subsetOtherUptoRow : OpenClaim := { program := "ytdcekplmmfenlaa", sum := "a9129ff04bf54987564e8d20b52521c72041c0aeaf2d3d80d20999df820711d5", func := "lotcaster/castkeep.SubsetOther", spec := "subsetOther", unfollowed := true, recurses := true, apart := false, narrowed := true }
def SubsetOtherUptoSaid : Prop := subsetOtherUptoRow.holds Try.pinned (OpenSpec.upto subsetOtherSpec)

/-- 'castkeep.SubsetWalk', WHERE WHAT IT READS IS OF BULK AT MOST 1048576: true; the input reads as it did. -/
def subsetWalkUptoRow : OpenClaim := { program := "ytdcekplmmfenlaa", sum := "a9129ff04bf54987564e8d20b52521c72041c0aeaf2d3d80d20999df820711d5", func := "lotcaster/castkeep.SubsetWalk", spec := "subsetWalk", apart := false, narrowed := true }
def SubsetWalkUptoSaid : Prop := subsetWalkUptoRow.holds Try.pinned (OpenSpec.upto subsetWalkSpec)

/-- 'castkeep.BlocksOf', WHERE WHAT IT READS IS OF BULK AT MOST 1048576: true; the input reads as it did. -/
def blocksOfUptoRow : OpenClaim := { program := "ytdcekplmmfenlaa", sum := "a9129ff04bf54987564e8d20b52521c72041c0aeaf2d3d80d20999df820711d5", func := "lotcaster/castkeep.BlocksOf", spec := "blocksOf", unfollowed := true, recurses := true, apart := false, narrowed := true }
def BlocksOfUptoSaid : Prop := blocksOfUptoRow.holds Try.pinned (OpenSpec.upto blocksOfSpec)

/-- 'castkeep.BlocksWalk', WHERE WHAT IT READS IS OF BULK AT MOST 1048576: true; the input reads as it did. -/
def blocksWalkUptoRow : OpenClaim := { program := "ytdcekplmmfenlaa", sum := "a9129ff04bf54987564e8d20b52521c72041c0aeaf2d3d80d20999df820711d5", func := "lotcaster/castkeep.BlocksWalk", spec := "blocksWalk", unfollowed := true, recurses := true, apart := false, narrowed := true }
def BlocksWalkUptoSaid : Prop := blocksWalkUptoRow.holds Try.pinned (OpenSpec.upto blocksWalkSpec)

/-- 'castkeep.BlocksNext', WHERE WHAT IT READS IS OF BULK AT MOST 1048576: true; the input reads as it did. -/
def blocksNextUptoRow : OpenClaim := { program := "ytdcekplmmfenlaa", sum := "a9129ff04bf54987564e8d20b52521c72041c0aeaf2d3d80d20999df820711d5", func := "lotcaster/castkeep.BlocksNext", spec := "blocksNext", unfollowed := true, recurses := true, apart := false, narrowed := true }
def BlocksNextUptoSaid : Prop := blocksNextUptoRow.holds Try.pinned (OpenSpec.upto blocksNextSpec)

/-- 'castkeep.PartsEuler', WHERE WHAT IT READS IS OF BULK AT MOST 1048576: true; the input reads as it did. -/
def partsEulerUptoRow : OpenClaim := { program := "ytdcekplmmfenlaa", sum := "a9129ff04bf54987564e8d20b52521c72041c0aeaf2d3d80d20999df820711d5", func := "lotcaster/castkeep.PartsEuler", spec := "partsEuler", unfollowed := true, recurses := true, apart := false, narrowed := true }
def PartsEulerUptoSaid : Prop := partsEulerUptoRow.holds Try.pinned (OpenSpec.upto partsEulerSpec)

/-- 'castkeep.PartsAll', WHERE WHAT IT READS IS OF BULK AT MOST 1048576: true; the input reads as it did. -/
def partsAllUptoRow : OpenClaim := { program := "ytdcekplmmfenlaa", sum := "a9129ff04bf54987564e8d20b52521c72041c0aeaf2d3d80d20999df820711d5", func := "lotcaster/castkeep.PartsAll", spec := "partsAll", unfollowed := true, recurses := true, apart := false, narrowed := true }
def PartsAllUptoSaid : Prop := partsAllUptoRow.holds Try.pinned (OpenSpec.upto partsAllSpec)

end Rows
end Go.Proofs.Ytdcekplmmfenlaa
