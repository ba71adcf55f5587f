/-
  No cell of these rows narrows 'for every input' (looked for: loops, veiled, ifaces, maps, wideKeys, modest, calm, conditions, laid).
  DERIVED. THE GIVEN ROWS OF THIS SEAT. 4 by the template 'for every input the law returns true; each argument reads behind the call as it read before'; 0 by the template 'total and deterministic' (their statements: YtooghdnlaonkaaaTotals.lean).
  GIVEN WITH THE SEED: the statements are not yours to turn. If you find one false, say at which input.
  Laid BY PROGRAM, IN A SANDBOX (cutbox-rows.mjs): the forced cells as the released guide's own fill.sh prints them over the translation 4fd8df9d119eae64… (all of the seat's roots in one cut). By AI agents, Wed Nov 11 2026. No macro, syntax, notation, axiom, sorry.
-/
import Derived.Test.YtooghdnlaonkaaaChecked
import GoSem.Claim
import GoSem.ClaimJoined
import GoSem.ClaimMapViews
import Derived.JoinedTies
import Derived.KernelRfl
namespace Go.Proofs.Ytooghdnlaonkaaa
/- THE CELL 'sum', in the pinned program and in every row, IS THE sha256 OF THE DUMP (.gsa) THAT YtooghdnlaonkaaaProg.lean LOADS. Nothing in Lean hashes anything: it is a label: what it is worth is what the hold of that sum in a sandbox is worth. -/
noncomputable def Try.pinned : Pinned := { name := "ytooghdnlaonkaaa", sum := "4fd8df9d119eae649e227d3382cce806ecc01b51d5d6e7ad06a68e195985c5aa", checked := Try.checked }
namespace Rows
def none {H : Type} : Left H := { results := [], args := [] }

/-- 'castkeep.TurnsOwn': WHATEVER THE INPUT: true; the input reads as it did. -/
def turnsOwnSpec : ChangeSpec := { name := "turnsOwn", fn := fun _ => fun
  | [d1, d2, d3, d4] => { results := [.lit (.bool true)], args := [d1, d2, d3, d4] }
  | _ => none }
def turnsOwnRow : OpenClaim := { program := "ytooghdnlaonkaaa", sum := "4fd8df9d119eae649e227d3382cce806ecc01b51d5d6e7ad06a68e195985c5aa", func := "lotcaster/castkeep.TurnsOwn", spec := "turnsOwn", unfollowed := true, recurses := true, plainKeys := false, apart := false }
def TurnsOwnSaid : Prop := turnsOwnRow.holds Try.pinned (OpenSpec.ofChange turnsOwnSpec)

/-- ITS FALSE NEIGHBOUR: 'it returns false'. Refute it at one input. -/
def turnsOwnWrong : ChangeSpec := { name := "turnsOwn", fn := fun _ => fun
  | [d1, d2, d3, d4] => { results := [.lit (.bool false)], args := [d1, d2, d3, d4] }
  | _ => none }
def TurnsOwnWrongFalsely : Prop := turnsOwnRow.holds Try.pinned (OpenSpec.ofChange turnsOwnWrong)

/-- 'castkeep.RowsOwn': WHATEVER THE INPUT: true; the input reads as it did. -/
def rowsOwnSpec : ChangeSpec := { name := "rowsOwn", fn := fun _ => fun
  | [d1, d2, d3, d4] => { results := [.lit (.bool true)], args := [d1, d2, d3, d4] }
  | _ => none }
def rowsOwnRow : OpenClaim := { program := "ytooghdnlaonkaaa", sum := "4fd8df9d119eae649e227d3382cce806ecc01b51d5d6e7ad06a68e195985c5aa", func := "lotcaster/castkeep.RowsOwn", spec := "rowsOwn", unfollowed := true, recurses := true, plainKeys := false, apart := false }
def RowsOwnSaid : Prop := rowsOwnRow.holds Try.pinned (OpenSpec.ofChange rowsOwnSpec)

/-- ITS FALSE NEIGHBOUR: 'it returns false'. Refute it at one input. -/
def rowsOwnWrong : ChangeSpec := { name := "rowsOwn", fn := fun _ => fun
  | [d1, d2, d3, d4] => { results := [.lit (.bool false)], args := [d1, d2, d3, d4] }
  | _ => none }
def RowsOwnWrongFalsely : Prop := rowsOwnRow.holds Try.pinned (OpenSpec.ofChange rowsOwnWrong)

/-- 'castkeep.DrawsOwn': WHATEVER THE INPUT: true; the input reads as it did. -/
def drawsOwnSpec : ChangeSpec := { name := "drawsOwn", fn := fun _ => fun
  | [d1, d2, d3, d4, d5, d6] => { results := [.lit (.bool true)], args := [d1, d2, d3, d4, d5, d6] }
  | _ => none }
def drawsOwnRow : OpenClaim := { program := "ytooghdnlaonkaaa", sum := "4fd8df9d119eae649e227d3382cce806ecc01b51d5d6e7ad06a68e195985c5aa", func := "lotcaster/castkeep.DrawsOwn", spec := "drawsOwn", unfollowed := true, recurses := true, plainKeys := false, apart := false }
def DrawsOwnSaid : Prop := drawsOwnRow.holds Try.pinned (OpenSpec.ofChange drawsOwnSpec)

/-- ITS FALSE NEIGHBOUR: 'it returns false'. Refute it at one input. -/
def drawsOwnWrong : ChangeSpec := { name := "drawsOwn", fn := fun _ => fun
  | [d1, d2, d3, d4, d5, d6] => { results := [.lit (.bool false)], args := [d1, d2, d3, d4, d5, d6] }
  | _ => none }
def DrawsOwnWrongFalsely : Prop := drawsOwnRow.holds Try.pinned (OpenSpec.ofChange drawsOwnWrong)

/-- 'castkeep.PermsOwn': WHATEVER THE INPUT: true; the input reads as it did. -/
def permsOwnSpec : ChangeSpec := { name := "permsOwn", fn := fun _ => fun
  | [d1, d2] => { results := [.lit (.bool true)], args := [d1, d2] }
  | _ => none }
def permsOwnRow : OpenClaim := { program := "ytooghdnlaonkaaa", sum := "4fd8df9d119eae649e227d3382cce806ecc01b51d5d6e7ad06a68e195985c5aa", func := "lotcaster/castkeep.PermsOwn", spec := "permsOwn", unfollowed := true, recurses := true, plainKeys := false, apart := false }
def PermsOwnSaid : Prop := permsOwnRow.holds Try.pinned (OpenSpec.ofChange permsOwnSpec)

/-- ITS FALSE NEIGHBOUR: 'it returns false'. Refute it at one input. -/
def permsOwnWrong : ChangeSpec := { name := "permsOwn", fn := fun _ => fun
  | [d1, d2] => { results := [.lit (.bool false)], args := [d1, d2] }
  | _ => none }
def PermsOwnWrongFalsely : Prop := permsOwnRow.holds Try.pinned (OpenSpec.ofChange permsOwnWrong)

/- THE SECOND FORM. 'bulk': how many values and letters a reading holds, each counted each time it is reached (what is shared counts as often as it is met; a slice's spare places count too). A statement '..UptoSaid' is the law's where the arguments, and the package variables that the reading takes, are together of bulk at most 1048576: NARROWER than '..Said'. Prove '..Said' where nothing that the law and all that it calls make is longer than what came in: it says more and counts as full. Else prove '..UptoSaid'. A law counts once. -/
mutual
def uptoBulk {H : Type} : DataW H → Nat
  | .lit (.string bytes) => bytes.length + 1
  | .lit _ => 1
  | .nil => 1
  | .ptr d => uptoBulk d + 1
  | .slice elems spare => uptoBulkAll elems + uptoBulkAll spare + 1
  | .agg parts => uptoBulkAll parts + 1
  | .iface _ d => uptoBulk d + 1
  | .map entries => uptoBulkEntries entries + 1
  | .held _ => 1
def uptoBulkAll {H : Type} : List (DataW H) → Nat
  | [] => 0
  | d :: r => uptoBulk d + uptoBulkAll r
def uptoBulkEntries {H : Type} : List (Lit × DataW H) → Nat
  | [] => 0
  | x :: r => uptoBulkEntry x + uptoBulkEntries r
def uptoBulkEntry {H : Type} : Lit × DataW H → Nat
  | (.string bytes, d) => bytes.length + uptoBulk d + 1
  | (_, d) => uptoBulk d + 1
 end
def uptoSmall : (H : Type) → List (DataW H) → Bool := fun _ ds => decide (uptoBulkAll ds ≤ 1048576)
def OpenSpec.upto (s : _root_.Go.ChangeSpec) : _root_.Go.OpenSpec := { _root_.Go.OpenSpec.ofChange s with cond := some uptoSmall }

/-- 'castkeep.TurnsOwn', WHERE WHAT IT READS IS OF BULK AT MOST 1048576: true; the input reads as it did. -/
def turnsOwnUptoRow : OpenClaim := { program := "ytooghdnlaonkaaa", sum := "4fd8df9d119eae649e227d3382cce806ecc01b51d5d6e7ad06a68e195985c5aa", func := "lotcaster/castkeep.TurnsOwn", spec := "turnsOwn", unfollowed := true, recurses := true, plainKeys := false, apart := false, narrowed := true }
def TurnsOwnUptoSaid : Prop := turnsOwnUptoRow.holds Try.pinned (OpenSpec.upto turnsOwnSpec)

/-- 'castkeep.RowsOwn', WHERE WHAT IT READS IS OF BULK AT MOST 1048576: true; the input reads as it did. -/
def rowsOwnUptoRow : OpenClaim := { program := "ytooghdnlaonkaaa", sum := "4fd8df9d119eae649e227d3382cce806ecc01b51d5d6e7ad06a68e195985c5aa", func := "lotcaster/castkeep.RowsOwn", spec := "rowsOwn", unfollowed := true, recurses := true, plainKeys := false, apart := false, narrowed := true }
def RowsOwnUptoSaid : Prop := rowsOwnUptoRow.holds Try.pinned (OpenSpec.upto rowsOwnSpec)

/-- 'castkeep.DrawsOwn', WHERE WHAT IT READS IS OF BULK AT MOST 1048576: true; the input reads as it did. -/
def drawsOwnUptoRow : OpenClaim := { program := "ytooghdnlaonkaaa", sum := "4fd8df9d119eae649e227d3382cce806ecc01b51d5d6e7ad06a68e195985c5aa", func := "lotcaster/castkeep.DrawsOwn", spec := "drawsOwn", unfollowed := true, recurses := true, plainKeys := false, apart := false, narrowed := true }
def DrawsOwnUptoSaid : Prop := drawsOwnUptoRow.holds Try.pinned (OpenSpec.upto drawsOwnSpec)

/-- 'castkeep.PermsOwn', WHERE WHAT IT READS IS OF BULK AT MOST 1048576: true; the input reads as it did. -/
def permsOwnUptoRow : OpenClaim := { program := "ytooghdnlaonkaaa", sum := "4fd8df9d119eae649e227d3382cce806ecc01b51d5d6e7ad06a68e195985c5aa", func := "lotcaster/castkeep.PermsOwn", spec := "permsOwn", unfollowed := true, recurses := true, plainKeys := false, apart := false, narrowed := true }
def PermsOwnUptoSaid : Prop := permsOwnUptoRow.holds Try.pinned (OpenSpec.upto permsOwnSpec)

end Rows
end Go.Proofs.Ytooghdnlaonkaaa
