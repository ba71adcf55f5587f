/-
  No cell of these rows narrows 'for every input' (looked for: loops, veiled, ifaces, maps, wideKeys, modest, calm, conditions, laid).
  DERIVED. THE GIVEN ROWS OF THIS SEAT. 9 by the template 'for every input the law returns true; each argument reads behind the call as it read before'; 0 by the template 'total and deterministic' (their statements: YtefblcchmkmfpaaTotals.lean).
  GIVEN WITH THE SEED: the statements are not yours to turn. If you find one false, say at which input.
  Laid BY PROGRAM, IN A SANDBOX (cutbox-rows.mjs): the forced cells as the released guide's own fill.sh prints them over the translation 4c56c6b7a57dcdc4… (all of the seat's roots in one cut). By AI agents, Wed Nov 11 2026. No macro, syntax, notation, axiom, sorry.
-/
import Derived.Test.YtefblcchmkmfpaaChecked
import GoSem.Claim
import GoSem.ClaimJoined
import GoSem.ClaimMapViews
import Derived.JoinedTies
import Derived.KernelRfl
namespace Go.Proofs.Ytefblcchmkmfpaa
/- THE CELL 'sum', in the pinned program and in every row, IS THE sha256 OF THE DUMP (.gsa) THAT YtefblcchmkmfpaaProg.lean LOADS. Nothing in Lean hashes anything: it is a label: what it is worth is what the hold of that sum in a sandbox is worth. -/
noncomputable def Try.pinned : Pinned := { name := "ytefblcchmkmfpaa", sum := "4c56c6b7a57dcdc483eb180fefc623c69b157edfcf6ff83b45d86d9da38e429d", checked := Try.checked }
namespace Rows
def none {H : Type} : Left H := { results := [], args := [] }

/-- 'castkeep.TableauSquares': WHATEVER THE INPUT: true; the input reads as it did. -/
def tableauSquaresSpec : ChangeSpec := { name := "tableauSquares", fn := fun _ => fun
  | [d1, d2] => { results := [.lit (.bool true)], args := [d1, d2] }
  | _ => none }
def tableauSquaresRow : OpenClaim := { program := "ytefblcchmkmfpaa", sum := "4c56c6b7a57dcdc483eb180fefc623c69b157edfcf6ff83b45d86d9da38e429d", func := "lotcaster/castkeep.TableauSquares", spec := "tableauSquares", unfollowed := true, recurses := true, apart := false }
def TableauSquaresSaid : Prop := tableauSquaresRow.holds Try.pinned (OpenSpec.ofChange tableauSquaresSpec)

/-- ITS FALSE NEIGHBOUR: 'it returns false'. Refute it at one input. -/
def tableauSquaresWrong : ChangeSpec := { name := "tableauSquares", fn := fun _ => fun
  | [d1, d2] => { results := [.lit (.bool false)], args := [d1, d2] }
  | _ => none }
def TableauSquaresWrongFalsely : Prop := tableauSquaresRow.holds Try.pinned (OpenSpec.ofChange tableauSquaresWrong)

/-- 'castkeep.TableauBehind': WHATEVER THE INPUT: true; the input reads as it did. -/
def tableauBehindSpec : ChangeSpec := { name := "tableauBehind", fn := fun _ => fun
  | [d] => { results := [.lit (.bool true)], args := [d] }
  | _ => none }
def tableauBehindRow : OpenClaim := { program := "ytefblcchmkmfpaa", sum := "4c56c6b7a57dcdc483eb180fefc623c69b157edfcf6ff83b45d86d9da38e429d", func := "lotcaster/castkeep.TableauBehind", spec := "tableauBehind", unfollowed := true, recurses := true, apart := false }
def TableauBehindSaid : Prop := tableauBehindRow.holds Try.pinned (OpenSpec.ofChange tableauBehindSpec)

/-- ITS FALSE NEIGHBOUR: 'it returns false'. Refute it at one input. -/
def tableauBehindWrong : ChangeSpec := { name := "tableauBehind", fn := fun _ => fun
  | [d] => { results := [.lit (.bool false)], args := [d] }
  | _ => none }
def TableauBehindWrongFalsely : Prop := tableauBehindRow.holds Try.pinned (OpenSpec.ofChange tableauBehindWrong)

/-- 'castkeep.TableauTurned': WHATEVER THE INPUT: true; the input reads as it did. -/
def tableauTurnedSpec : ChangeSpec := { name := "tableauTurned", fn := fun _ => fun
  | [d] => { results := [.lit (.bool true)], args := [d] }
  | _ => none }
def tableauTurnedRow : OpenClaim := { program := "ytefblcchmkmfpaa", sum := "4c56c6b7a57dcdc483eb180fefc623c69b157edfcf6ff83b45d86d9da38e429d", func := "lotcaster/castkeep.TableauTurned", spec := "tableauTurned", unfollowed := true, recurses := true, apart := false }
def TableauTurnedSaid : Prop := tableauTurnedRow.holds Try.pinned (OpenSpec.ofChange tableauTurnedSpec)

/-- ITS FALSE NEIGHBOUR: 'it returns false'. Refute it at one input. -/
def tableauTurnedWrong : ChangeSpec := { name := "tableauTurned", fn := fun _ => fun
  | [d] => { results := [.lit (.bool false)], args := [d] }
  | _ => none }
def TableauTurnedWrongFalsely : Prop := tableauTurnedRow.holds Try.pinned (OpenSpec.ofChange tableauTurnedWrong)

/-- 'castkeep.TableauFirst': WHATEVER THE INPUT: true; the input reads as it did. -/
def tableauFirstSpec : ChangeSpec := { name := "tableauFirst", fn := fun _ => fun
  | [d] => { results := [.lit (.bool true)], args := [d] }
  | _ => none }
def tableauFirstRow : OpenClaim := { program := "ytefblcchmkmfpaa", sum := "4c56c6b7a57dcdc483eb180fefc623c69b157edfcf6ff83b45d86d9da38e429d", func := "lotcaster/castkeep.TableauFirst", spec := "tableauFirst", unfollowed := true, recurses := true, apart := false }
def TableauFirstSaid : Prop := tableauFirstRow.holds Try.pinned (OpenSpec.ofChange tableauFirstSpec)

/-- ITS FALSE NEIGHBOUR: 'it returns false'. Refute it at one input. -/
def tableauFirstWrong : ChangeSpec := { name := "tableauFirst", fn := fun _ => fun
  | [d] => { results := [.lit (.bool false)], args := [d] }
  | _ => none }
def TableauFirstWrongFalsely : Prop := tableauFirstRow.holds Try.pinned (OpenSpec.ofChange tableauFirstWrong)

/-- 'castkeep.TableauBack': WHATEVER THE INPUT: true; the input reads as it did. -/
def tableauBackSpec : ChangeSpec := { name := "tableauBack", fn := fun _ => fun
  | [d1, d2] => { results := [.lit (.bool true)], args := [d1, d2] }
  | _ => none }
def tableauBackRow : OpenClaim := { program := "ytefblcchmkmfpaa", sum := "4c56c6b7a57dcdc483eb180fefc623c69b157edfcf6ff83b45d86d9da38e429d", func := "lotcaster/castkeep.TableauBack", spec := "tableauBack", unfollowed := true, recurses := true, apart := false }
def TableauBackSaid : Prop := tableauBackRow.holds Try.pinned (OpenSpec.ofChange tableauBackSpec)

/-- ITS FALSE NEIGHBOUR: 'it returns false'. Refute it at one input. -/
def tableauBackWrong : ChangeSpec := { name := "tableauBack", fn := fun _ => fun
  | [d1, d2] => { results := [.lit (.bool false)], args := [d1, d2] }
  | _ => none }
def TableauBackWrongFalsely : Prop := tableauBackRow.holds Try.pinned (OpenSpec.ofChange tableauBackWrong)

/-- 'castkeep.LinesHeaps': WHATEVER THE INPUT: true; the input reads as it did. -/
def linesHeapsSpec : ChangeSpec := { name := "linesHeaps", fn := fun _ => fun
  | [d] => { results := [.lit (.bool true)], args := [d] }
  | _ => none }
def linesHeapsRow : OpenClaim := { program := "ytefblcchmkmfpaa", sum := "4c56c6b7a57dcdc483eb180fefc623c69b157edfcf6ff83b45d86d9da38e429d", func := "lotcaster/castkeep.LinesHeaps", spec := "linesHeaps", unfollowed := true, recurses := true, apart := false }
def LinesHeapsSaid : Prop := linesHeapsRow.holds Try.pinned (OpenSpec.ofChange linesHeapsSpec)

/-- ITS FALSE NEIGHBOUR: 'it returns false'. Refute it at one input. -/
def linesHeapsWrong : ChangeSpec := { name := "linesHeaps", fn := fun _ => fun
  | [d] => { results := [.lit (.bool false)], args := [d] }
  | _ => none }
def LinesHeapsWrongFalsely : Prop := linesHeapsRow.holds Try.pinned (OpenSpec.ofChange linesHeapsWrong)

/-- 'castkeep.LinesLong': WHATEVER THE INPUT: true; the input reads as it did. -/
def linesLongSpec : ChangeSpec := { name := "linesLong", fn := fun _ => fun
  | [d] => { results := [.lit (.bool true)], args := [d] }
  | _ => none }
def linesLongRow : OpenClaim := { program := "ytefblcchmkmfpaa", sum := "4c56c6b7a57dcdc483eb180fefc623c69b157edfcf6ff83b45d86d9da38e429d", func := "lotcaster/castkeep.LinesLong", spec := "linesLong", unfollowed := true, recurses := true, apart := false }
def LinesLongSaid : Prop := linesLongRow.holds Try.pinned (OpenSpec.ofChange linesLongSpec)

/-- ITS FALSE NEIGHBOUR: 'it returns false'. Refute it at one input. -/
def linesLongWrong : ChangeSpec := { name := "linesLong", fn := fun _ => fun
  | [d] => { results := [.lit (.bool false)], args := [d] }
  | _ => none }
def LinesLongWrongFalsely : Prop := linesLongRow.holds Try.pinned (OpenSpec.ofChange linesLongWrong)

/-- 'castkeep.LinesMore': WHATEVER THE INPUT: true; the input reads as it did. -/
def linesMoreSpec : ChangeSpec := { name := "linesMore", fn := fun _ => fun
  | [d1, d2] => { results := [.lit (.bool true)], args := [d1, d2] }
  | _ => none }
def linesMoreRow : OpenClaim := { program := "ytefblcchmkmfpaa", sum := "4c56c6b7a57dcdc483eb180fefc623c69b157edfcf6ff83b45d86d9da38e429d", func := "lotcaster/castkeep.LinesMore", spec := "linesMore", unfollowed := true, recurses := true, apart := false }
def LinesMoreSaid : Prop := linesMoreRow.holds Try.pinned (OpenSpec.ofChange linesMoreSpec)

/-- ITS FALSE NEIGHBOUR: 'it returns false'. Refute it at one input. -/
def linesMoreWrong : ChangeSpec := { name := "linesMore", fn := fun _ => fun
  | [d1, d2] => { results := [.lit (.bool false)], args := [d1, d2] }
  | _ => none }
def LinesMoreWrongFalsely : Prop := linesMoreRow.holds Try.pinned (OpenSpec.ofChange linesMoreWrong)

/-- 'casttop.TopOrders': WHATEVER THE INPUT: true; the input reads as it did. -/
def topOrdersSpec : ChangeSpec := { name := "topOrders", fn := fun _ => fun
  | [d1, d2] => { results := [.lit (.bool true)], args := [d1, d2] }
  | _ => none }
def topOrdersRow : OpenClaim := { program := "ytefblcchmkmfpaa", sum := "4c56c6b7a57dcdc483eb180fefc623c69b157edfcf6ff83b45d86d9da38e429d", func := "lotcaster/casttop.TopOrders", spec := "topOrders", unfollowed := true, recurses := true, apart := false }
def TopOrdersSaid : Prop := topOrdersRow.holds Try.pinned (OpenSpec.ofChange topOrdersSpec)

/-- ITS FALSE NEIGHBOUR: 'it returns false'. Refute it at one input. -/
def topOrdersWrong : ChangeSpec := { name := "topOrders", fn := fun _ => fun
  | [d1, d2] => { results := [.lit (.bool false)], args := [d1, d2] }
  | _ => none }
def TopOrdersWrongFalsely : Prop := topOrdersRow.holds Try.pinned (OpenSpec.ofChange topOrdersWrong)

/- THE SECOND FORM. 'bulk': how many values and letters a reading holds, each counted each time it is reached (what is shared counts as often as it is met; a slice's spare places count too). A statement '..UptoSaid' is the law's where the arguments, and the package variables that the reading takes, are together of bulk at most 1048576: NARROWER than '..Said'. Prove '..Said' where nothing that the law and all that it calls make is longer than what came in: it says more and counts as full. Else prove '..UptoSaid'. A law counts once. -/
mutual
def uptoBulk {H : Type} : DataW H → Nat
  | .lit (.string bytes) => bytes.length + 1
  | .lit _ => 1
  | .nil => 1
  | .ptr d => uptoBulk d + 1
  | .slice elems spare => uptoBulkAll elems + uptoBulkAll spare + 1
  | .agg parts => uptoBulkAll parts + 1
  | .iface _ d => uptoBulk d + 1
  | .map entries => uptoBulkEntries entries + 1
  | .held _ => 1
def uptoBulkAll {H : Type} : List (DataW H) → Nat
  | [] => 0
  | d :: r => uptoBulk d + uptoBulkAll r
def uptoBulkEntries {H : Type} : List (Lit × DataW H) → Nat
  | [] => 0
  | x :: r => uptoBulkEntry x + uptoBulkEntries r
def uptoBulkEntry {H : Type} : Lit × DataW H → Nat
  | (.string bytes, d) => bytes.length + uptoBulk d + 1
  | (_, d) => uptoBulk d + 1
 end
def uptoSmall : (H : Type) → List (DataW H) → Bool := fun _ ds => decide (uptoBulkAll ds ≤ 1048576)
def OpenSpec.upto (s : _root_.Go.ChangeSpec) : _root_.Go.OpenSpec := { _root_.Go.OpenSpec.ofChange s with cond := some uptoSmall }

/-- 'castkeep.TableauSquares', WHERE WHAT IT READS IS OF BULK AT MOST 1048576: true; the input reads as it did. -/
def tableauSquaresUptoRow : OpenClaim := { program := "ytefblcchmkmfpaa", sum := "4c56c6b7a57dcdc483eb180fefc623c69b157edfcf6ff83b45d86d9da38e429d", func := "lotcaster/castkeep.TableauSquares", spec := "tableauSquares", unfollowed := true, recurses := true, apart := false, narrowed := true }
def TableauSquaresUptoSaid : Prop := tableauSquaresUptoRow.holds Try.pinned (OpenSpec.upto tableauSquaresSpec)

/-- 'castkeep.TableauBehind', WHERE WHAT IT READS IS OF BULK AT MOST 1048576: true; the input reads as it did. -/
def tableauBehindUptoRow : OpenClaim := { program := "ytefblcchmkmfpaa", sum := "4c56c6b7a57dcdc483eb180fefc623c69b157edfcf6ff83b45d86d9da38e429d", func := "lotcaster/castkeep.TableauBehind", spec := "tableauBehind", unfollowed := true, recurses := true, apart := false, narrowed := true }
def TableauBehindUptoSaid : Prop := tableauBehindUptoRow.holds Try.pinned (OpenSpec.upto tableauBehindSpec)

/-- 'castkeep.TableauTurned', WHERE WHAT IT READS IS OF BULK AT MOST 1048576: true; the input reads as it did. -/
def tableauTurnedUptoRow : OpenClaim := { program := "ytefblcchmkmfpaa", sum := "4c56c6b7a57dcdc483eb180fefc623c69b157edfcf6ff83b45d86d9da38e429d", func := "lotcaster/castkeep.TableauTurned", spec := "tableauTurned", unfollowed := true, recurses := true, apart := false, narrowed := true }
def TableauTurnedUptoSaid : Prop := tableauTurnedUptoRow.holds Try.pinned (OpenSpec.upto tableauTurnedSpec)

/-- 'castkeep.TableauFirst', WHERE WHAT IT READS IS OF BULK AT MOST 1048576: true; the input reads as it did. -/
def tableauFirstUptoRow : OpenClaim := { program := "ytefblcchmkmfpaa", sum := "4c56c6b7a57dcdc483eb180fefc623c69b157edfcf6ff83b45d86d9da38e429d", func := "lotcaster/castkeep.TableauFirst", spec := "tableauFirst", unfollowed := true, recurses := true, apart := false, narrowed := true }
def TableauFirstUptoSaid : Prop := tableauFirstUptoRow.holds Try.pinned (OpenSpec.upto tableauFirstSpec)

/-- 'castkeep.TableauBack', WHERE WHAT IT READS IS OF BULK AT MOST 1048576: true; the input reads as it did. -/
def tableauBackUptoRow : OpenClaim := { program := "ytefblcchmkmfpaa", sum := "4c56c6b7a57dcdc483eb180fefc623c69b157edfcf6ff83b45d86d9da38e429d", func := "lotcaster/castkeep.TableauBack", spec := "tableauBack", unfollowed := true, recurses := true, apart := false, narrowed := true }
def TableauBackUptoSaid : Prop := tableauBackUptoRow.holds Try.pinned (OpenSpec.upto tableauBackSpec)

/-- 'castkeep.LinesHeaps', WHERE WHAT IT READS IS OF BULK AT MOST 1048576: true; the input reads as it did. -/
def linesHeapsUptoRow : OpenClaim := { program := "ytefblcchmkmfpaa", sum := "4c56c6b7a57dcdc483eb180fefc623c69b157edfcf6ff83b45d86d9da38e429d", func := "lotcaster/castkeep.LinesHeaps", spec := "linesHeaps", unfollowed := true, recurses := true, apart := false, narrowed := true }
def LinesHeapsUptoSaid : Prop := linesHeapsUptoRow.holds Try.pinned (OpenSpec.upto linesHeapsSpec)

/-- 'castkeep.LinesLong', WHERE WHAT IT READS IS OF BULK AT MOST 1048576: true; the input reads as it did. -/
def linesLongUptoRow : OpenClaim := { program := "ytefblcchmkmfpaa", sum := "4c56c6b7a57dcdc483eb180fefc623c69b157edfcf6ff83b45d86d9da38e429d", func := "lotcaster/castkeep.LinesLong", spec := "linesLong", unfollowed := true, recurses := true, apart := false, narrowed := true }
def LinesLongUptoSaid : Prop := linesLongUptoRow.holds Try.pinned (OpenSpec.upto linesLongSpec)

/-- 'castkeep.LinesMore', WHERE WHAT IT READS IS OF BULK AT MOST 1048576: true; the input reads as it did. -/
def linesMoreUptoRow : OpenClaim := { program := "ytefblcchmkmfpaa", sum := "4c56c6b7a57dcdc483eb180fefc623c69b157edfcf6ff83b45d86d9da38e429d", func := "lotcaster/castkeep.LinesMore", spec := "linesMore", unfollowed := true, recurses := true, apart := false, narrowed := true }
def LinesMoreUptoSaid : Prop := linesMoreUptoRow.holds Try.pinned (OpenSpec.upto linesMoreSpec)

/-- 'casttop.TopOrders', WHERE WHAT IT READS IS OF BULK AT MOST 1048576: true; the input reads as it did. -/
def topOrdersUptoRow : OpenClaim := { program := "ytefblcchmkmfpaa", sum := "4c56c6b7a57dcdc483eb180fefc623c69b157edfcf6ff83b45d86d9da38e429d", func := "lotcaster/casttop.TopOrders", spec := "topOrders", unfollowed := true, recurses := true, apart := false, narrowed := true }
def TopOrdersUptoSaid : Prop := topOrdersUptoRow.holds Try.pinned (OpenSpec.upto topOrdersSpec)

end Rows
end Go.Proofs.Ytefblcchmkmfpaa
