/-
  No cell of these rows narrows 'for every input' (looked for: loops, veiled, ifaces, maps, wideKeys, modest, calm, conditions, laid).
  DERIVED. THE GIVEN ROWS OF THIS SEAT. 9 by the template 'for every input the law returns true; each argument reads behind the call as it read before'; 0 by the template 'total and deterministic' (their statements: YtfompfaepabpgaaTotals.lean).
  GIVEN WITH THE SEED: the statements are not yours to turn. If you find one false, say at which input.
  Laid BY PROGRAM, IN A SANDBOX (cutbox-rows.mjs): the forced cells as the released guide's own fill.sh prints them over the translation c6632641f78d644d… (all of the seat's roots in one cut). By AI agents, Wed Nov 11 2026. No macro, syntax, notation, axiom, sorry.
-/
import Derived.Test.YtfompfaepabpgaaChecked
import GoSem.Claim
import GoSem.ClaimJoined
import GoSem.ClaimMapViews
import Derived.JoinedTies
import Derived.KernelRfl
namespace Go.Proofs.Ytfompfaepabpgaa
/- THE CELL 'sum', in the pinned program and in every row, IS THE sha256 OF THE DUMP (.gsa) THAT YtfompfaepabpgaaProg.lean LOADS. Nothing in Lean hashes anything: it is a label: what it is worth is what the hold of that sum in a sandbox is worth. -/
noncomputable def Try.pinned : Pinned := { name := "ytfompfaepabpgaa", sum := "c6632641f78d644db6cda20c6c168975ae8343a6e58874da524452dfbf27790f", checked := Try.checked }
namespace Rows
def none {H : Type} : Left H := { results := [], args := [] }

/-- 'castkeep.HallKeeps': WHATEVER THE INPUT: true; the input reads as it did. -/
def hallKeepsSpec : ChangeSpec := { name := "hallKeeps", fn := fun _ => fun
  | [d] => { results := [.lit (.bool true)], args := [d] }
  | _ => none }
def hallKeepsRow : OpenClaim := { program := "ytfompfaepabpgaa", sum := "c6632641f78d644db6cda20c6c168975ae8343a6e58874da524452dfbf27790f", func := "lotcaster/castkeep.HallKeeps", spec := "hallKeeps", unfollowed := true, recurses := true, apart := false }
def HallKeepsSaid : Prop := hallKeepsRow.holds Try.pinned (OpenSpec.ofChange hallKeepsSpec)

/-- ITS FALSE NEIGHBOUR: 'it returns false'. Refute it at one input. -/
def hallKeepsWrong : ChangeSpec := { name := "hallKeeps", fn := fun _ => fun
  | [d] => { results := [.lit (.bool false)], args := [d] }
  | _ => none }
def HallKeepsWrongFalsely : Prop := hallKeepsRow.holds Try.pinned (OpenSpec.ofChange hallKeepsWrong)

/-- 'castkeep.HallLoans': WHATEVER THE INPUT: true; the input reads as it did. -/
def hallLoansSpec : ChangeSpec := { name := "hallLoans", fn := fun _ => fun
  | [d1, d2, d3, d4] => { results := [.lit (.bool true)], args := [d1, d2, d3, d4] }
  | _ => none }
def hallLoansRow : OpenClaim := { program := "ytfompfaepabpgaa", sum := "c6632641f78d644db6cda20c6c168975ae8343a6e58874da524452dfbf27790f", func := "lotcaster/castkeep.HallLoans", spec := "hallLoans", unfollowed := true, recurses := true, apart := false }
def HallLoansSaid : Prop := hallLoansRow.holds Try.pinned (OpenSpec.ofChange hallLoansSpec)

/-- ITS FALSE NEIGHBOUR: 'it returns false'. Refute it at one input. -/
def hallLoansWrong : ChangeSpec := { name := "hallLoans", fn := fun _ => fun
  | [d1, d2, d3, d4] => { results := [.lit (.bool false)], args := [d1, d2, d3, d4] }
  | _ => none }
def HallLoansWrongFalsely : Prop := hallLoansRow.holds Try.pinned (OpenSpec.ofChange hallLoansWrong)

/-- 'castkeep.HallRefuses': WHATEVER THE INPUT: true; the input reads as it did. -/
def hallRefusesSpec : ChangeSpec := { name := "hallRefuses", fn := fun _ => fun
  | [d1, d2, d3] => { results := [.lit (.bool true)], args := [d1, d2, d3] }
  | _ => none }
def hallRefusesRow : OpenClaim := { program := "ytfompfaepabpgaa", sum := "c6632641f78d644db6cda20c6c168975ae8343a6e58874da524452dfbf27790f", func := "lotcaster/castkeep.HallRefuses", spec := "hallRefuses", unfollowed := true, recurses := true, apart := false }
def HallRefusesSaid : Prop := hallRefusesRow.holds Try.pinned (OpenSpec.ofChange hallRefusesSpec)

/-- ITS FALSE NEIGHBOUR: 'it returns false'. Refute it at one input. -/
def hallRefusesWrong : ChangeSpec := { name := "hallRefuses", fn := fun _ => fun
  | [d1, d2, d3] => { results := [.lit (.bool false)], args := [d1, d2, d3] }
  | _ => none }
def HallRefusesWrongFalsely : Prop := hallRefusesRow.holds Try.pinned (OpenSpec.ofChange hallRefusesWrong)

/-- 'castkeep.HallWins': WHATEVER THE INPUT: true; the input reads as it did. -/
def hallWinsSpec : ChangeSpec := { name := "hallWins", fn := fun _ => fun
  | [d] => { results := [.lit (.bool true)], args := [d] }
  | _ => none }
def hallWinsRow : OpenClaim := { program := "ytfompfaepabpgaa", sum := "c6632641f78d644db6cda20c6c168975ae8343a6e58874da524452dfbf27790f", func := "lotcaster/castkeep.HallWins", spec := "hallWins", unfollowed := true, recurses := true, apart := false }
def HallWinsSaid : Prop := hallWinsRow.holds Try.pinned (OpenSpec.ofChange hallWinsSpec)

/-- ITS FALSE NEIGHBOUR: 'it returns false'. Refute it at one input. -/
def hallWinsWrong : ChangeSpec := { name := "hallWins", fn := fun _ => fun
  | [d] => { results := [.lit (.bool false)], args := [d] }
  | _ => none }
def HallWinsWrongFalsely : Prop := hallWinsRow.holds Try.pinned (OpenSpec.ofChange hallWinsWrong)

/-- 'castkeep.BottomLeast': WHATEVER THE INPUT: true; the input reads as it did. -/
def bottomLeastSpec : ChangeSpec := { name := "bottomLeast", fn := fun _ => fun
  | [d1, d2, d3] => { results := [.lit (.bool true)], args := [d1, d2, d3] }
  | _ => none }
def bottomLeastRow : OpenClaim := { program := "ytfompfaepabpgaa", sum := "c6632641f78d644db6cda20c6c168975ae8343a6e58874da524452dfbf27790f", func := "lotcaster/castkeep.BottomLeast", spec := "bottomLeast", unfollowed := true, recurses := true, apart := false }
def BottomLeastSaid : Prop := bottomLeastRow.holds Try.pinned (OpenSpec.ofChange bottomLeastSpec)

/-- ITS FALSE NEIGHBOUR: 'it returns false'. Refute it at one input. -/
def bottomLeastWrong : ChangeSpec := { name := "bottomLeast", fn := fun _ => fun
  | [d1, d2, d3] => { results := [.lit (.bool false)], args := [d1, d2, d3] }
  | _ => none }
def BottomLeastWrongFalsely : Prop := bottomLeastRow.holds Try.pinned (OpenSpec.ofChange bottomLeastWrong)

/-- 'castkeep.BottomJoins': WHATEVER THE INPUT: true; the input reads as it did. -/
def bottomJoinsSpec : ChangeSpec := { name := "bottomJoins", fn := fun _ => fun
  | [d1, d2, d3, d4] => { results := [.lit (.bool true)], args := [d1, d2, d3, d4] }
  | _ => none }
def bottomJoinsRow : OpenClaim := { program := "ytfompfaepabpgaa", sum := "c6632641f78d644db6cda20c6c168975ae8343a6e58874da524452dfbf27790f", func := "lotcaster/castkeep.BottomJoins", spec := "bottomJoins", unfollowed := true, recurses := true, apart := false }
def BottomJoinsSaid : Prop := bottomJoinsRow.holds Try.pinned (OpenSpec.ofChange bottomJoinsSpec)

/-- ITS FALSE NEIGHBOUR: 'it returns false'. Refute it at one input. -/
def bottomJoinsWrong : ChangeSpec := { name := "bottomJoins", fn := fun _ => fun
  | [d1, d2, d3, d4] => { results := [.lit (.bool false)], args := [d1, d2, d3, d4] }
  | _ => none }
def BottomJoinsWrongFalsely : Prop := bottomJoinsRow.holds Try.pinned (OpenSpec.ofChange bottomJoinsWrong)

/-- 'castkeep.BottomAlike': WHATEVER THE INPUT: true; the input reads as it did. -/
def bottomAlikeSpec : ChangeSpec := { name := "bottomAlike", fn := fun _ => fun
  | [d1, d2, d3] => { results := [.lit (.bool true)], args := [d1, d2, d3] }
  | _ => none }
def bottomAlikeRow : OpenClaim := { program := "ytfompfaepabpgaa", sum := "c6632641f78d644db6cda20c6c168975ae8343a6e58874da524452dfbf27790f", func := "lotcaster/castkeep.BottomAlike", spec := "bottomAlike", unfollowed := true, recurses := true, apart := false }
def BottomAlikeSaid : Prop := bottomAlikeRow.holds Try.pinned (OpenSpec.ofChange bottomAlikeSpec)

/-- ITS FALSE NEIGHBOUR: 'it returns false'. Refute it at one input. -/
def bottomAlikeWrong : ChangeSpec := { name := "bottomAlike", fn := fun _ => fun
  | [d1, d2, d3] => { results := [.lit (.bool false)], args := [d1, d2, d3] }
  | _ => none }
def BottomAlikeWrongFalsely : Prop := bottomAlikeRow.holds Try.pinned (OpenSpec.ofChange bottomAlikeWrong)

/-- 'casttop.TopFair': WHATEVER THE INPUT: true; the input reads as it did. -/
def topFairSpec : ChangeSpec := { name := "topFair", fn := fun _ => fun
  | [d] => { results := [.lit (.bool true)], args := [d] }
  | _ => none }
def topFairRow : OpenClaim := { program := "ytfompfaepabpgaa", sum := "c6632641f78d644db6cda20c6c168975ae8343a6e58874da524452dfbf27790f", func := "lotcaster/casttop.TopFair", spec := "topFair", unfollowed := true, recurses := true, apart := false }
def TopFairSaid : Prop := topFairRow.holds Try.pinned (OpenSpec.ofChange topFairSpec)

/-- ITS FALSE NEIGHBOUR: 'it returns false'. Refute it at one input. -/
def topFairWrong : ChangeSpec := { name := "topFair", fn := fun _ => fun
  | [d] => { results := [.lit (.bool false)], args := [d] }
  | _ => none }
def TopFairWrongFalsely : Prop := topFairRow.holds Try.pinned (OpenSpec.ofChange topFairWrong)

/-- 'castkeep.TurnsOwn': WHATEVER THE INPUT: true; the input reads as it did. -/
def turnsOwnSpec : ChangeSpec := { name := "turnsOwn", fn := fun _ => fun
  | [d1, d2, d3, d4] => { results := [.lit (.bool true)], args := [d1, d2, d3, d4] }
  | _ => none }
def turnsOwnRow : OpenClaim := { program := "ytfompfaepabpgaa", sum := "c6632641f78d644db6cda20c6c168975ae8343a6e58874da524452dfbf27790f", func := "lotcaster/castkeep.TurnsOwn", spec := "turnsOwn", unfollowed := true, recurses := true, apart := false }
def TurnsOwnSaid : Prop := turnsOwnRow.holds Try.pinned (OpenSpec.ofChange turnsOwnSpec)

/-- ITS FALSE NEIGHBOUR: 'it returns false'. Refute it at one input. -/
def turnsOwnWrong : ChangeSpec := { name := "turnsOwn", fn := fun _ => fun
  | [d1, d2, d3, d4] => { results := [.lit (.bool false)], args := [d1, d2, d3, d4] }
  | _ => none }
def TurnsOwnWrongFalsely : Prop := turnsOwnRow.holds Try.pinned (OpenSpec.ofChange turnsOwnWrong)

/- THE SECOND FORM. 'bulk': how many values and letters a reading holds, each counted each time it is reached (what is shared counts as often as it is met; a slice's spare places count too). A statement '..UptoSaid' is the law's where the arguments, and the package variables that the reading takes, are together of bulk at most 1048576: NARROWER than '..Said'. Prove '..Said' where nothing that the law and all that it calls make is longer than what came in: it says more and counts as full. Else prove '..UptoSaid'. A law counts once. -/
mutual
def uptoBulk {H : Type} : DataW H → Nat
  | .lit (.string bytes) => bytes.length + 1
  | .lit _ => 1
  | .nil => 1
  | .ptr d => uptoBulk d + 1
  | .slice elems spare => uptoBulkAll elems + uptoBulkAll spare + 1
  | .agg parts => uptoBulkAll parts + 1
  | .iface _ d => uptoBulk d + 1
  | .map entries => uptoBulkEntries entries + 1
  | .held _ => 1
def uptoBulkAll {H : Type} : List (DataW H) → Nat
  | [] => 0
  | d :: r => uptoBulk d + uptoBulkAll r
def uptoBulkEntries {H : Type} : List (Lit × DataW H) → Nat
  | [] => 0
  | x :: r => uptoBulkEntry x + uptoBulkEntries r
def uptoBulkEntry {H : Type} : Lit × DataW H → Nat
  | (.string bytes, d) => bytes.length + uptoBulk d + 1
  | (_, d) => uptoBulk d + 1
 end
def uptoSmall : (H : Type) → List (DataW H) → Bool := fun _ ds => decide (uptoBulkAll ds ≤ 1048576)
def OpenSpec.upto (s : _root_.Go.ChangeSpec) : _root_.Go.OpenSpec := { _root_.Go.OpenSpec.ofChange s with cond := some uptoSmall }

/-- 'castkeep.HallKeeps', WHERE WHAT IT READS IS OF BULK AT MOST 1048576: true; the input reads as it did. -/
def hallKeepsUptoRow : OpenClaim := { program := "ytfompfaepabpgaa", sum := "c6632641f78d644db6cda20c6c168975ae8343a6e58874da524452dfbf27790f", func := "lotcaster/castkeep.HallKeeps", spec := "hallKeeps", unfollowed := true, recurses := true, apart := false, narrowed := true }
def HallKeepsUptoSaid : Prop := hallKeepsUptoRow.holds Try.pinned (OpenSpec.upto hallKeepsSpec)

/-- 'castkeep.HallLoans', WHERE WHAT IT READS IS OF BULK AT MOST 1048576: true; the input reads as it did. -/
def hallLoansUptoRow : OpenClaim := { program := "ytfompfaepabpgaa", sum := "c6632641f78d644db6cda20c6c168975ae8343a6e58874da524452dfbf27790f", func := "lotcaster/castkeep.HallLoans", spec := "hallLoans", unfollowed := true, recurses := true, apart := false, narrowed := true }
def HallLoansUptoSaid : Prop := hallLoansUptoRow.holds Try.pinned (OpenSpec.upto hallLoansSpec)

/-- 'castkeep.HallRefuses', WHERE WHAT IT READS IS OF BULK AT MOST 1048576: true; the input reads as it did. -/
def hallRefusesUptoRow : OpenClaim := { program := "ytfompfaepabpgaa", sum := "c6632641f78d644db6cda20c6c168975ae8343a6e58874da524452dfbf27790f", func := "lotcaster/castkeep.HallRefuses", spec := "hallRefuses", unfollowed := true, recurses := true, apart := false, narrowed := true }
def HallRefusesUptoSaid : Prop := hallRefusesUptoRow.holds Try.pinned (OpenSpec.upto hallRefusesSpec)

/-- 'castkeep.HallWins', WHERE WHAT IT READS IS OF BULK AT MOST 1048576: true; the input reads as it did. -/
def hallWinsUptoRow : OpenClaim := { program := "ytfompfaepabpgaa", sum := "c6632641f78d644db6cda20c6c168975ae8343a6e58874da524452dfbf27790f", func := "lotcaster/castkeep.HallWins", spec := "hallWins", unfollowed := true, recurses := true, apart := false, narrowed := true }
def HallWinsUptoSaid : Prop := hallWinsUptoRow.holds Try.pinned (OpenSpec.upto hallWinsSpec)

/-- 'castkeep.BottomLeast', WHERE WHAT IT READS IS OF BULK AT MOST 1048576: true; the input reads as it did. -/
def bottomLeastUptoRow : OpenClaim := { program := "ytfompfaepabpgaa", sum := "c6632641f78d644db6cda20c6c168975ae8343a6e58874da524452dfbf27790f", func := "lotcaster/castkeep.BottomLeast", spec := "bottomLeast", unfollowed := true, recurses := true, apart := false, narrowed := true }
def BottomLeastUptoSaid : Prop := bottomLeastUptoRow.holds Try.pinned (OpenSpec.upto bottomLeastSpec)

/-- 'castkeep.BottomJoins', WHERE WHAT IT READS IS OF BULK AT MOST 1048576: true; the input reads as it did. -/
def bottomJoinsUptoRow : OpenClaim := { program := "ytfompfaepabpgaa", sum := "c6632641f78d644db6cda20c6c168975ae8343a6e58874da524452dfbf27790f", func := "lotcaster/castkeep.BottomJoins", spec := "bottomJoins", unfollowed := true, recurses := true, apart := false, narrowed := true }
def BottomJoinsUptoSaid : Prop := bottomJoinsUptoRow.holds Try.pinned (OpenSpec.upto bottomJoinsSpec)

/-- 'castkeep.BottomAlike', WHERE WHAT IT READS IS OF BULK AT MOST 1048576: true; the input reads as it did. -/
def bottomAlikeUptoRow : OpenClaim := { program := "ytfompfaepabpgaa", sum := "c6632641f78d644db6cda20c6c168975ae8343a6e58874da524452dfbf27790f", func := "lotcaster/castkeep.BottomAlike", spec := "bottomAlike", unfollowed := true, recurses := true, apart := false, narrowed := true }
def BottomAlikeUptoSaid : Prop := bottomAlikeUptoRow.holds Try.pinned (OpenSpec.upto bottomAlikeSpec)

/-- 'casttop.TopFair', WHERE WHAT IT READS IS OF BULK AT MOST 1048576: true; the input reads as it did. -/
def topFairUptoRow : OpenClaim := { program := "ytfompfaepabpgaa", sum := "c6632641f78d644db6cda20c6c168975ae8343a6e58874da524452dfbf27790f", func := "lotcaster/casttop.TopFair", spec := "topFair", unfollowed := true, recurses := true, apart := false, narrowed := true }
def TopFairUptoSaid : Prop := topFairUptoRow.holds Try.pinned (OpenSpec.upto topFairSpec)

/-- 'castkeep.TurnsOwn', WHERE WHAT IT READS IS OF BULK AT MOST 1048576: true; the input reads as it did. -/
def turnsOwnUptoRow : OpenClaim := { program := "ytfompfaepabpgaa", sum := "c6632641f78d644db6cda20c6c168975ae8343a6e58874da524452dfbf27790f", func := "lotcaster/castkeep.TurnsOwn", spec := "turnsOwn", unfollowed := true, recurses := true, apart := false, narrowed := true }
def TurnsOwnUptoSaid : Prop := turnsOwnUptoRow.holds Try.pinned (OpenSpec.upto turnsOwnSpec)

end Rows
end Go.Proofs.Ytfompfaepabpgaa
