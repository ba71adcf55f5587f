/-
  No cell of these rows narrows 'for every input' (looked for: loops, veiled, ifaces, maps, wideKeys, modest, calm, conditions, laid).
  DERIVED. THE GIVEN ROWS OF THIS SEAT. 12 by the template 'for every input the law returns true; each argument reads behind the call as it read before'; 0 by the template 'total and deterministic' (their statements: YtenkeekheaodaaaTotals.lean).
  GIVEN WITH THE SEED: the statements are not yours to turn. If you find one false, say at which input.
  Laid BY PROGRAM, IN A SANDBOX (cutbox-rows.mjs): the forced cells as the released guide's own fill.sh prints them over the translation e494ab5e318c4b4b… (all of the seat's roots in one cut). By AI agents, Wed Nov 11 2026. No macro, syntax, notation, axiom, sorry.
-/
import Derived.Test.YtenkeekheaodaaaChecked
import GoSem.Claim
import GoSem.ClaimJoined
import GoSem.ClaimMapViews
import Derived.JoinedTies
import Derived.KernelRfl
namespace Go.Proofs.Ytenkeekheaodaaa
/- THE CELL 'sum', in the pinned program and in every row, IS THE sha256 OF THE DUMP (.gsa) THAT YtenkeekheaodaaaProg.lean LOADS. Nothing in Lean hashes anything: it is a label: what it is worth is what the hold of that sum in a sandbox is worth. -/
noncomputable def Try.pinned : Pinned := { name := "ytenkeekheaodaaa", sum := "e494ab5e318c4b4bf47ee932fcccfcb8ee9792534bef849ffceeb2a82106b7f4", checked := Try.checked }
namespace Rows
def none {H : Type} : Left H := { results := [], args := [] }

/-- 'castkeep.GraySums': WHATEVER THE INPUT: true; the input reads as it did. -/
def graySumsSpec : ChangeSpec := { name := "graySums", fn := fun _ => fun
  | [d1, d2] => { results := [.lit (.bool true)], args := [d1, d2] }
  | _ => none }
def graySumsRow : OpenClaim := { program := "ytenkeekheaodaaa", sum := "e494ab5e318c4b4bf47ee932fcccfcb8ee9792534bef849ffceeb2a82106b7f4", func := "lotcaster/castkeep.GraySums", spec := "graySums", apart := false }
def GraySumsSaid : Prop := graySumsRow.holds Try.pinned (OpenSpec.ofChange graySumsSpec)

/-- ITS FALSE NEIGHBOUR: 'it returns false'. Refute it at one input. -/
def graySumsWrong : ChangeSpec := { name := "graySums", fn := fun _ => fun
  | [d1, d2] => { results := [.lit (.bool false)], args := [d1, d2] }
  | _ => none }
def GraySumsWrongFalsely : Prop := graySumsRow.holds Try.pinned (OpenSpec.ofChange graySumsWrong)

/-- 'castkeep.GrayOne': WHATEVER THE INPUT: true; the input reads as it did. -/
def grayOneSpec : ChangeSpec := { name := "grayOne", fn := fun _ => fun
  | [d] => { results := [.lit (.bool true)], args := [d] }
  | _ => none }
def grayOneRow : OpenClaim := { program := "ytenkeekheaodaaa", sum := "e494ab5e318c4b4bf47ee932fcccfcb8ee9792534bef849ffceeb2a82106b7f4", func := "lotcaster/castkeep.GrayOne", spec := "grayOne", apart := false }
def GrayOneSaid : Prop := grayOneRow.holds Try.pinned (OpenSpec.ofChange grayOneSpec)

/-- ITS FALSE NEIGHBOUR: 'it returns false'. Refute it at one input. -/
def grayOneWrong : ChangeSpec := { name := "grayOne", fn := fun _ => fun
  | [d] => { results := [.lit (.bool false)], args := [d] }
  | _ => none }
def GrayOneWrongFalsely : Prop := grayOneRow.holds Try.pinned (OpenSpec.ofChange grayOneWrong)

/-- 'castkeep.DerangeNext': WHATEVER THE INPUT: true; the input reads as it did. -/
def derangeNextSpec : ChangeSpec := { name := "derangeNext", fn := fun _ => fun
  | [d] => { results := [.lit (.bool true)], args := [d] }
  | _ => none }
def derangeNextRow : OpenClaim := { program := "ytenkeekheaodaaa", sum := "e494ab5e318c4b4bf47ee932fcccfcb8ee9792534bef849ffceeb2a82106b7f4", func := "lotcaster/castkeep.DerangeNext", spec := "derangeNext", unfollowed := true, recurses := true, apart := false }
def DerangeNextSaid : Prop := derangeNextRow.holds Try.pinned (OpenSpec.ofChange derangeNextSpec)

/-- ITS FALSE NEIGHBOUR: 'it returns false'. Refute it at one input. -/
def derangeNextWrong : ChangeSpec := { name := "derangeNext", fn := fun _ => fun
  | [d] => { results := [.lit (.bool false)], args := [d] }
  | _ => none }
def DerangeNextWrongFalsely : Prop := derangeNextRow.holds Try.pinned (OpenSpec.ofChange derangeNextWrong)

/-- 'castkeep.RisesSums': WHATEVER THE INPUT: true; the input reads as it did. -/
def risesSumsSpec : ChangeSpec := { name := "risesSums", fn := fun _ => fun
  | [d1, d2] => { results := [.lit (.bool true)], args := [d1, d2] }
  | _ => none }
def risesSumsRow : OpenClaim := { program := "ytenkeekheaodaaa", sum := "e494ab5e318c4b4bf47ee932fcccfcb8ee9792534bef849ffceeb2a82106b7f4", func := "lotcaster/castkeep.RisesSums", spec := "risesSums", unfollowed := true, recurses := true, apart := false }
def RisesSumsSaid : Prop := risesSumsRow.holds Try.pinned (OpenSpec.ofChange risesSumsSpec)

/-- ITS FALSE NEIGHBOUR: 'it returns false'. Refute it at one input. -/
def risesSumsWrong : ChangeSpec := { name := "risesSums", fn := fun _ => fun
  | [d1, d2] => { results := [.lit (.bool false)], args := [d1, d2] }
  | _ => none }
def RisesSumsWrongFalsely : Prop := risesSumsRow.holds Try.pinned (OpenSpec.ofChange risesSumsWrong)

/-- 'castkeep.SubsetPascal': WHATEVER THE INPUT: true; the input reads as it did. -/
def subsetPascalSpec : ChangeSpec := { name := "subsetPascal", fn := fun _ => fun
  | [d1, d2, d3] => { results := [.lit (.bool true)], args := [d1, d2, d3] }
  | _ => none }
def subsetPascalRow : OpenClaim := { program := "ytenkeekheaodaaa", sum := "e494ab5e318c4b4bf47ee932fcccfcb8ee9792534bef849ffceeb2a82106b7f4", func := "lotcaster/castkeep.SubsetPascal", spec := "subsetPascal", unfollowed := true, recurses := true, apart := false }
def SubsetPascalSaid : Prop := subsetPascalRow.holds Try.pinned (OpenSpec.ofChange subsetPascalSpec)

/-- ITS FALSE NEIGHBOUR: 'it returns false'. Refute it at one input. -/
def subsetPascalWrong : ChangeSpec := { name := "subsetPascal", fn := fun _ => fun
  | [d1, d2, d3] => { results := [.lit (.bool false)], args := [d1, d2, d3] }
  | _ => none }
def SubsetPascalWrongFalsely : Prop := subsetPascalRow.holds Try.pinned (OpenSpec.ofChange subsetPascalWrong)

/-- 'castkeep.BlocksTouchard': WHATEVER THE INPUT: true; the input reads as it did. -/
def blocksTouchardSpec : ChangeSpec := { name := "blocksTouchard", fn := fun _ => fun
  | [d1, d2] => { results := [.lit (.bool true)], args := [d1, d2] }
  | _ => none }
def blocksTouchardRow : OpenClaim := { program := "ytenkeekheaodaaa", sum := "e494ab5e318c4b4bf47ee932fcccfcb8ee9792534bef849ffceeb2a82106b7f4", func := "lotcaster/castkeep.BlocksTouchard", spec := "blocksTouchard", unfollowed := true, recurses := true, apart := false }
def BlocksTouchardSaid : Prop := blocksTouchardRow.holds Try.pinned (OpenSpec.ofChange blocksTouchardSpec)

/-- ITS FALSE NEIGHBOUR: 'it returns false'. Refute it at one input. -/
def blocksTouchardWrong : ChangeSpec := { name := "blocksTouchard", fn := fun _ => fun
  | [d1, d2] => { results := [.lit (.bool false)], args := [d1, d2] }
  | _ => none }
def BlocksTouchardWrongFalsely : Prop := blocksTouchardRow.holds Try.pinned (OpenSpec.ofChange blocksTouchardWrong)

/-- 'castkeep.DerangeSums': WHATEVER THE INPUT: true; the input reads as it did. -/
def derangeSumsSpec : ChangeSpec := { name := "derangeSums", fn := fun _ => fun
  | [d] => { results := [.lit (.bool true)], args := [d] }
  | _ => none }
def derangeSumsRow : OpenClaim := { program := "ytenkeekheaodaaa", sum := "e494ab5e318c4b4bf47ee932fcccfcb8ee9792534bef849ffceeb2a82106b7f4", func := "lotcaster/castkeep.DerangeSums", spec := "derangeSums", unfollowed := true, recurses := true, apart := false }
def DerangeSumsSaid : Prop := derangeSumsRow.holds Try.pinned (OpenSpec.ofChange derangeSumsSpec)

/-- ITS FALSE NEIGHBOUR: 'it returns false'. Refute it at one input. -/
def derangeSumsWrong : ChangeSpec := { name := "derangeSums", fn := fun _ => fun
  | [d] => { results := [.lit (.bool false)], args := [d] }
  | _ => none }
def DerangeSumsWrongFalsely : Prop := derangeSumsRow.holds Try.pinned (OpenSpec.ofChange derangeSumsWrong)

/-- 'castkeep.RisesWorpitzky': WHATEVER THE INPUT: true; the input reads as it did. -/
def risesWorpitzkySpec : ChangeSpec := { name := "risesWorpitzky", fn := fun _ => fun
  | [d1, d2] => { results := [.lit (.bool true)], args := [d1, d2] }
  | _ => none }
def risesWorpitzkyRow : OpenClaim := { program := "ytenkeekheaodaaa", sum := "e494ab5e318c4b4bf47ee932fcccfcb8ee9792534bef849ffceeb2a82106b7f4", func := "lotcaster/castkeep.RisesWorpitzky", spec := "risesWorpitzky", unfollowed := true, recurses := true, apart := false }
def RisesWorpitzkySaid : Prop := risesWorpitzkyRow.holds Try.pinned (OpenSpec.ofChange risesWorpitzkySpec)

/-- ITS FALSE NEIGHBOUR: 'it returns false'. Refute it at one input. -/
def risesWorpitzkyWrong : ChangeSpec := { name := "risesWorpitzky", fn := fun _ => fun
  | [d1, d2] => { results := [.lit (.bool false)], args := [d1, d2] }
  | _ => none }
def RisesWorpitzkyWrongFalsely : Prop := risesWorpitzkyRow.holds Try.pinned (OpenSpec.ofChange risesWorpitzkyWrong)

/-- 'castkeep.SubsetBack': WHATEVER THE INPUT: true; the input reads as it did. -/
def subsetBackSpec : ChangeSpec := { name := "subsetBack", fn := fun _ => fun
  | [d1, d2, d3] => { results := [.lit (.bool true)], args := [d1, d2, d3] }
  | _ => none }
def subsetBackRow : OpenClaim := { program := "ytenkeekheaodaaa", sum := "e494ab5e318c4b4bf47ee932fcccfcb8ee9792534bef849ffceeb2a82106b7f4", func := "lotcaster/castkeep.SubsetBack", spec := "subsetBack", apart := false }
def SubsetBackSaid : Prop := subsetBackRow.holds Try.pinned (OpenSpec.ofChange subsetBackSpec)

/-- ITS FALSE NEIGHBOUR: 'it returns false'. Refute it at one input. -/
def subsetBackWrong : ChangeSpec := { name := "subsetBack", fn := fun _ => fun
  | [d1, d2, d3] => { results := [.lit (.bool false)], args := [d1, d2, d3] }
  | _ => none }
def SubsetBackWrongFalsely : Prop := subsetBackRow.holds Try.pinned (OpenSpec.ofChange subsetBackWrong)

/-- 'castkeep.RatioOne': WHATEVER THE INPUT: true; the input reads as it did. -/
def ratioOneSpec : ChangeSpec := { name := "ratioOne", fn := fun _ => fun
  | [d1, d2, d3] => { results := [.lit (.bool true)], args := [d1, d2, d3] }
  | _ => none }
def ratioOneRow : OpenClaim := { program := "ytenkeekheaodaaa", sum := "e494ab5e318c4b4bf47ee932fcccfcb8ee9792534bef849ffceeb2a82106b7f4", func := "lotcaster/castkeep.RatioOne", spec := "ratioOne", apart := false }
def RatioOneSaid : Prop := ratioOneRow.holds Try.pinned (OpenSpec.ofChange ratioOneSpec)

/-- ITS FALSE NEIGHBOUR: 'it returns false'. Refute it at one input. -/
def ratioOneWrong : ChangeSpec := { name := "ratioOne", fn := fun _ => fun
  | [d1, d2, d3] => { results := [.lit (.bool false)], args := [d1, d2, d3] }
  | _ => none }
def RatioOneWrongFalsely : Prop := ratioOneRow.holds Try.pinned (OpenSpec.ofChange ratioOneWrong)

/-- 'castkeep.SubsetRises': WHATEVER THE INPUT: true; the input reads as it did. -/
def subsetRisesSpec : ChangeSpec := { name := "subsetRises", fn := fun _ => fun
  | [d1, d2, d3] => { results := [.lit (.bool true)], args := [d1, d2, d3] }
  | _ => none }
def subsetRisesRow : OpenClaim := { program := "ytenkeekheaodaaa", sum := "e494ab5e318c4b4bf47ee932fcccfcb8ee9792534bef849ffceeb2a82106b7f4", func := "lotcaster/castkeep.SubsetRises", spec := "subsetRises", apart := false }
def SubsetRisesSaid : Prop := subsetRisesRow.holds Try.pinned (OpenSpec.ofChange subsetRisesSpec)

/-- ITS FALSE NEIGHBOUR: 'it returns false'. Refute it at one input. -/
def subsetRisesWrong : ChangeSpec := { name := "subsetRises", fn := fun _ => fun
  | [d1, d2, d3] => { results := [.lit (.bool false)], args := [d1, d2, d3] }
  | _ => none }
def SubsetRisesWrongFalsely : Prop := subsetRisesRow.holds Try.pinned (OpenSpec.ofChange subsetRisesWrong)

/-- 'castkeep.BlocksStirling': WHATEVER THE INPUT: true; the input reads as it did. -/
def blocksStirlingSpec : ChangeSpec := { name := "blocksStirling", fn := fun _ => fun
  | [d1, d2] => { results := [.lit (.bool true)], args := [d1, d2] }
  | _ => none }
def blocksStirlingRow : OpenClaim := { program := "ytenkeekheaodaaa", sum := "e494ab5e318c4b4bf47ee932fcccfcb8ee9792534bef849ffceeb2a82106b7f4", func := "lotcaster/castkeep.BlocksStirling", spec := "blocksStirling", unfollowed := true, recurses := true, apart := false }
def BlocksStirlingSaid : Prop := blocksStirlingRow.holds Try.pinned (OpenSpec.ofChange blocksStirlingSpec)

/-- ITS FALSE NEIGHBOUR: 'it returns false'. Refute it at one input. -/
def blocksStirlingWrong : ChangeSpec := { name := "blocksStirling", fn := fun _ => fun
  | [d1, d2] => { results := [.lit (.bool false)], args := [d1, d2] }
  | _ => none }
def BlocksStirlingWrongFalsely : Prop := blocksStirlingRow.holds Try.pinned (OpenSpec.ofChange blocksStirlingWrong)

/- THE SECOND FORM. 'bulk': how many values and letters a reading holds, each counted each time it is reached (what is shared counts as often as it is met; a slice's spare places count too). A statement '..UptoSaid' is the law's where the arguments, and the package variables that the reading takes, are together of bulk at most 1048576: NARROWER than '..Said'. Prove '..Said' where nothing that the law and all that it calls make is longer than what came in: it says more and counts as full. Else prove '..UptoSaid'. A law counts once. -/
mutual
def uptoBulk {H : Type} : DataW H → Nat
  | .lit (.string bytes) => bytes.length + 1
  | .lit _ => 1
  | .nil => 1
  | .ptr d => uptoBulk d + 1
  | .slice elems spare => uptoBulkAll elems + uptoBulkAll spare + 1
  | .agg parts => uptoBulkAll parts + 1
  | .iface _ d => uptoBulk d + 1
  | .map entries => uptoBulkEntries entries + 1
  | .held _ => 1
def uptoBulkAll {H : Type} : List (DataW H) → Nat
  | [] => 0
  | d :: r => uptoBulk d + uptoBulkAll r
def uptoBulkEntries {H : Type} : List (Lit × DataW H) → Nat
  | [] => 0
  | x :: r => uptoBulkEntry x + uptoBulkEntries r
def uptoBulkEntry {H : Type} : Lit × DataW H → Nat
  | (.string bytes, d) => bytes.length + uptoBulk d + 1
  | (_, d) => uptoBulk d + 1
 end
def uptoSmall : (H : Type) → List (DataW H) → Bool := fun _ ds => decide (uptoBulkAll ds ≤ 1048576)
def OpenSpec.upto (s : _root_.Go.ChangeSpec) : _root_.Go.OpenSpec := { _root_.Go.OpenSpec.ofChange s with cond := some uptoSmall }

/-- 'castkeep.GraySums', WHERE WHAT IT READS IS OF BULK AT MOST 1048576: true; the input reads as it did. -/
def graySumsUptoRow : OpenClaim := { program := "ytenkeekheaodaaa", sum := "e494ab5e318c4b4bf47ee932fcccfcb8ee9792534bef849ffceeb2a82106b7f4", func := "lotcaster/castkeep.GraySums", spec := "graySums", apart := false, narrowed := true }
def GraySumsUptoSaid : Prop := graySumsUptoRow.holds Try.pinned (OpenSpec.upto graySumsSpec)

/-- 'castkeep.GrayOne', WHERE WHAT IT READS IS OF BULK AT MOST 1048576: true; the input reads as it did. -/
def grayOneUptoRow : OpenClaim := { program := "ytenkeekheaodaaa", sum := "e494ab5e318c4b4bf47ee932fcccfcb8ee9792534bef849ffceeb2a82106b7f4", func := "lotcaster/castkeep.GrayOne", spec := "grayOne", apart := false, narrowed := true }
def GrayOneUptoSaid : Prop := grayOneUptoRow.holds Try.pinned (OpenSpec.upto grayOneSpec)

/-- 'castkeep.DerangeNext', WHERE WHAT IT READS IS OF BULK AT MOST 1048576: true; the input reads as it did. -/
def derangeNextUptoRow : OpenClaim := { program := "ytenkeekheaodaaa", sum := "e494ab5e318c4b4bf47ee932fcccfcb8ee9792534bef849ffceeb2a82106b7f4", func := "lotcaster/castkeep.DerangeNext", spec := "derangeNext", unfollowed := true, recurses := true, apart := false, narrowed := true }
def DerangeNextUptoSaid : Prop := derangeNextUptoRow.holds Try.pinned (OpenSpec.upto derangeNextSpec)

/-- 'castkeep.RisesSums', WHERE WHAT IT READS IS OF BULK AT MOST 1048576: true; the input reads as it did. -/
def risesSumsUptoRow : OpenClaim := { program := "ytenkeekheaodaaa", sum := "e494ab5e318c4b4bf47ee932fcccfcb8ee9792534bef849ffceeb2a82106b7f4", func := "lotcaster/castkeep.RisesSums", spec := "risesSums", unfollowed := true, recurses := true, apart := false, narrowed := true }
def RisesSumsUptoSaid : Prop := risesSumsUptoRow.holds Try.pinned (OpenSpec.upto risesSumsSpec)

/-- 'castkeep.SubsetPascal', WHERE WHAT IT READS IS OF BULK AT MOST 1048576: true; the input reads as it did. -/
def subsetPascalUptoRow : OpenClaim := { program := "ytenkeekheaodaaa", sum := "e494ab5e318c4b4bf47ee932fcccfcb8ee9792534bef849ffceeb2a82106b7f4", func := "lotcaster/castkeep.SubsetPascal", spec := "subsetPascal", unfollowed := true, recurses := true, apart := false, narrowed := true }
def SubsetPascalUptoSaid : Prop := subsetPascalUptoRow.holds Try.pinned (OpenSpec.upto subsetPascalSpec)

/-- 'castkeep.BlocksTouchard', WHERE WHAT IT READS IS OF BULK AT MOST 1048576: true; the input reads as it did. -/
def blocksTouchardUptoRow : OpenClaim := { program := "ytenkeekheaodaaa", sum := "e494ab5e318c4b4bf47ee932fcccfcb8ee9792534bef849ffceeb2a82106b7f4", func := "lotcaster/castkeep.BlocksTouchard", spec := "blocksTouchard", unfollowed := true, recurses := true, apart := false, narrowed := true }
def BlocksTouchardUptoSaid : Prop := blocksTouchardUptoRow.holds Try.pinned (OpenSpec.upto blocksTouchardSpec)

/-- 'castkeep.DerangeSums', WHERE WHAT IT READS IS OF BULK AT MOST 1048576: true; the input reads as it did. -/
def derangeSumsUptoRow : OpenClaim := { program := "ytenkeekheaodaaa", sum := "e494ab5e318c4b4bf47ee932fcccfcb8ee9792534bef849ffceeb2a82106b7f4", func := "lotcaster/castkeep.DerangeSums", spec := "derangeSums", unfollowed := true, recurses := true, apart := false, narrowed := true }
def DerangeSumsUptoSaid : Prop := derangeSumsUptoRow.holds Try.pinned (OpenSpec.upto derangeSumsSpec)

/-- 'castkeep.RisesWorpitzky', WHERE WHAT IT READS IS OF BULK AT MOST 1048576: true; the input reads as it did. -/
def risesWorpitzkyUptoRow : OpenClaim := { program := "ytenkeekheaodaaa", sum := "e494ab5e318c4b4bf47ee932fcccfcb8ee9792534bef849ffceeb2a82106b7f4", func := "lotcaster/castkeep.RisesWorpitzky", spec := "risesWorpitzky", unfollowed := true, recurses := true, apart := false, narrowed := true }
def RisesWorpitzkyUptoSaid : Prop := risesWorpitzkyUptoRow.holds Try.pinned (OpenSpec.upto risesWorpitzkySpec)

/-- 'castkeep.SubsetBack', WHERE WHAT IT READS IS OF BULK AT MOST 1048576: true; the input reads as it did. -/
def subsetBackUptoRow : OpenClaim := { program := "ytenkeekheaodaaa", sum := "e494ab5e318c4b4bf47ee932fcccfcb8ee9792534bef849ffceeb2a82106b7f4", func := "lotcaster/castkeep.SubsetBack", spec := "subsetBack", apart := false, narrowed := true }
def SubsetBackUptoSaid : Prop := subsetBackUptoRow.holds Try.pinned (OpenSpec.upto subsetBackSpec)

/-- 'castkeep.RatioOne', WHERE WHAT IT READS IS OF BULK AT MOST 1048576: true; the input reads as it did. -/
def ratioOneUptoRow : OpenClaim := { program := "ytenkeekheaodaaa", sum := "e494ab5e318c4b4bf47ee932fcccfcb8ee9792534bef849ffceeb2a82106b7f4", func := "lotcaster/castkeep.RatioOne", spec := "ratioOne", apart := false, narrowed := true }
def RatioOneUptoSaid : Prop := ratioOneUptoRow.holds Try.pinned (OpenSpec.upto ratioOneSpec)

/-- 'castkeep.SubsetRises', WHERE WHAT IT READS IS OF BULK AT MOST 1048576: true; the input reads as it did. -/
def subsetRisesUptoRow : OpenClaim := { program := "ytenkeekheaodaaa", sum := "e494ab5e318c4b4bf47ee932fcccfcb8ee9792534bef849ffceeb2a82106b7f4", func := "lotcaster/castkeep.SubsetRises", spec := "subsetRises", apart := false, narrowed := true }
def SubsetRisesUptoSaid : Prop := subsetRisesUptoRow.holds Try.pinned (OpenSpec.upto subsetRisesSpec)

/-- 'castkeep.BlocksStirling', WHERE WHAT IT READS IS OF BULK AT MOST 1048576: true; the input reads as it did. -/
def blocksStirlingUptoRow : OpenClaim := { program := "ytenkeekheaodaaa", sum := "e494ab5e318c4b4bf47ee932fcccfcb8ee9792534bef849ffceeb2a82106b7f4", func := "lotcaster/castkeep.BlocksStirling", spec := "blocksStirling", unfollowed := true, recurses := true, apart := false, narrowed := true }
def BlocksStirlingUptoSaid : Prop := blocksStirlingUptoRow.holds Try.pinned (OpenSpec.upto blocksStirlingSpec)

end Rows
end Go.Proofs.Ytenkeekheaodaaa
