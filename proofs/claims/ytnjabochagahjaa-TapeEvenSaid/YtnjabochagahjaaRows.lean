/-
  No cell of these rows narrows 'for every input' (looked for: loops, veiled, ifaces, maps, wideKeys, modest, calm, conditions, laid).
  DERIVED. THE GIVEN ROWS OF THIS SEAT. 12 by the template 'for every input the law returns true; each argument reads behind the call as it read before'; 0 by the template 'total and deterministic' (their statements: YtnjabochagahjaaTotals.lean).
  GIVEN WITH THE SEED: the statements are not yours to turn. If you find one false, say at which input.
  Laid BY PROGRAM, IN A SANDBOX (cutbox-rows.mjs): the forced cells as the released guide's own fill.sh prints them over the translation 7930709a68238f93… (all of the seat's roots in one cut). By AI agents, Wed Nov 11 2026. No macro, syntax, notation, axiom, sorry.
-/
import Derived.Test.YtnjabochagahjaaChecked
import GoSem.Claim
import GoSem.ClaimJoined
import GoSem.ClaimMapViews
import Derived.JoinedTies
import Derived.KernelRfl
namespace Go.Proofs.Ytnjabochagahjaa
/- THE CELL 'sum', in the pinned program and in every row, IS THE sha256 OF THE DUMP (.gsa) THAT YtnjabochagahjaaProg.lean LOADS. Nothing in Lean hashes anything: it is a label: what it is worth is what the hold of that sum in a sandbox is worth. -/
noncomputable def Try.pinned : Pinned := { name := "ytnjabochagahjaa", sum := "7930709a68238f9355c2c0138482f925407c8c5e1c2a9322a13b62b20d202306", checked := Try.checked }
namespace Rows
def none {H : Type} : Left H := { results := [], args := [] }

/-- 'castkeep.TapeEven': WHATEVER THE INPUT: true; the input reads as it did. -/
def tapeEvenSpec : ChangeSpec := { name := "tapeEven", fn := fun _ => fun
  | [d] => { results := [.lit (.bool true)], args := [d] }
  | _ => none }
def tapeEvenRow : OpenClaim := { program := "ytnjabochagahjaa", sum := "7930709a68238f9355c2c0138482f925407c8c5e1c2a9322a13b62b20d202306", func := "lotcaster/castkeep.TapeEven", spec := "tapeEven", apart := false }
def TapeEvenSaid : Prop := tapeEvenRow.holds Try.pinned (OpenSpec.ofChange tapeEvenSpec)

/-- ITS FALSE NEIGHBOUR: 'it returns false'. Refute it at one input. -/
def tapeEvenWrong : ChangeSpec := { name := "tapeEven", fn := fun _ => fun
  | [d] => { results := [.lit (.bool false)], args := [d] }
  | _ => none }
def TapeEvenWrongFalsely : Prop := tapeEvenRow.holds Try.pinned (OpenSpec.ofChange tapeEvenWrong)

/-- 'castkeep.TapeOn': WHATEVER THE INPUT: true; the input reads as it did. -/
def tapeOnSpec : ChangeSpec := { name := "tapeOn", fn := fun _ => fun
  | [d1, d2, d3] => { results := [.lit (.bool true)], args := [d1, d2, d3] }
  | _ => none }
def tapeOnRow : OpenClaim := { program := "ytnjabochagahjaa", sum := "7930709a68238f9355c2c0138482f925407c8c5e1c2a9322a13b62b20d202306", func := "lotcaster/castkeep.TapeOn", spec := "tapeOn", apart := false }
def TapeOnSaid : Prop := tapeOnRow.holds Try.pinned (OpenSpec.ofChange tapeOnSpec)

/-- ITS FALSE NEIGHBOUR: 'it returns false'. Refute it at one input. -/
def tapeOnWrong : ChangeSpec := { name := "tapeOn", fn := fun _ => fun
  | [d1, d2, d3] => { results := [.lit (.bool false)], args := [d1, d2, d3] }
  | _ => none }
def TapeOnWrongFalsely : Prop := tapeOnRow.holds Try.pinned (OpenSpec.ofChange tapeOnWrong)

/-- 'castkeep.TapeRow': WHATEVER THE INPUT: true; the input reads as it did. -/
def tapeRowSpec : ChangeSpec := { name := "tapeRow", fn := fun _ => fun
  | [d1, d2, d3] => { results := [.lit (.bool true)], args := [d1, d2, d3] }
  | _ => none }
def tapeRowRow : OpenClaim := { program := "ytnjabochagahjaa", sum := "7930709a68238f9355c2c0138482f925407c8c5e1c2a9322a13b62b20d202306", func := "lotcaster/castkeep.TapeRow", spec := "tapeRow", apart := false }
def TapeRowSaid : Prop := tapeRowRow.holds Try.pinned (OpenSpec.ofChange tapeRowSpec)

/-- ITS FALSE NEIGHBOUR: 'it returns false'. Refute it at one input. -/
def tapeRowWrong : ChangeSpec := { name := "tapeRow", fn := fun _ => fun
  | [d1, d2, d3] => { results := [.lit (.bool false)], args := [d1, d2, d3] }
  | _ => none }
def TapeRowWrongFalsely : Prop := tapeRowRow.holds Try.pinned (OpenSpec.ofChange tapeRowWrong)

/-- 'castkeep.LotteryEven': WHATEVER THE INPUT: true; the input reads as it did. -/
def lotteryEvenSpec : ChangeSpec := { name := "lotteryEven", fn := fun _ => fun
  | [d] => { results := [.lit (.bool true)], args := [d] }
  | _ => none }
def lotteryEvenRow : OpenClaim := { program := "ytnjabochagahjaa", sum := "7930709a68238f9355c2c0138482f925407c8c5e1c2a9322a13b62b20d202306", func := "lotcaster/castkeep.LotteryEven", spec := "lotteryEven", apart := false }
def LotteryEvenSaid : Prop := lotteryEvenRow.holds Try.pinned (OpenSpec.ofChange lotteryEvenSpec)

/-- ITS FALSE NEIGHBOUR: 'it returns false'. Refute it at one input. -/
def lotteryEvenWrong : ChangeSpec := { name := "lotteryEven", fn := fun _ => fun
  | [d] => { results := [.lit (.bool false)], args := [d] }
  | _ => none }
def LotteryEvenWrongFalsely : Prop := lotteryEvenRow.holds Try.pinned (OpenSpec.ofChange lotteryEvenWrong)

/-- 'castkeep.LotteryTurned': WHATEVER THE INPUT: true; the input reads as it did. -/
def lotteryTurnedSpec : ChangeSpec := { name := "lotteryTurned", fn := fun _ => fun
  | [d1, d2] => { results := [.lit (.bool true)], args := [d1, d2] }
  | _ => none }
def lotteryTurnedRow : OpenClaim := { program := "ytnjabochagahjaa", sum := "7930709a68238f9355c2c0138482f925407c8c5e1c2a9322a13b62b20d202306", func := "lotcaster/castkeep.LotteryTurned", spec := "lotteryTurned", unfollowed := true, recurses := true, apart := false }
def LotteryTurnedSaid : Prop := lotteryTurnedRow.holds Try.pinned (OpenSpec.ofChange lotteryTurnedSpec)

/-- ITS FALSE NEIGHBOUR: 'it returns false'. Refute it at one input. -/
def lotteryTurnedWrong : ChangeSpec := { name := "lotteryTurned", fn := fun _ => fun
  | [d1, d2] => { results := [.lit (.bool false)], args := [d1, d2] }
  | _ => none }
def LotteryTurnedWrongFalsely : Prop := lotteryTurnedRow.holds Try.pinned (OpenSpec.ofChange lotteryTurnedWrong)

/-- 'castkeep.LotteryLend': WHATEVER THE INPUT: true; the input reads as it did. -/
def lotteryLendSpec : ChangeSpec := { name := "lotteryLend", fn := fun _ => fun
  | [d1, d2, d3, d4] => { results := [.lit (.bool true)], args := [d1, d2, d3, d4] }
  | _ => none }
def lotteryLendRow : OpenClaim := { program := "ytnjabochagahjaa", sum := "7930709a68238f9355c2c0138482f925407c8c5e1c2a9322a13b62b20d202306", func := "lotcaster/castkeep.LotteryLend", spec := "lotteryLend", unfollowed := true, recurses := true, apart := false }
def LotteryLendSaid : Prop := lotteryLendRow.holds Try.pinned (OpenSpec.ofChange lotteryLendSpec)

/-- ITS FALSE NEIGHBOUR: 'it returns false'. Refute it at one input. -/
def lotteryLendWrong : ChangeSpec := { name := "lotteryLend", fn := fun _ => fun
  | [d1, d2, d3, d4] => { results := [.lit (.bool false)], args := [d1, d2, d3, d4] }
  | _ => none }
def LotteryLendWrongFalsely : Prop := lotteryLendRow.holds Try.pinned (OpenSpec.ofChange lotteryLendWrong)

/-- 'castkeep.LotteryRun': WHATEVER THE INPUT: true; the input reads as it did. -/
def lotteryRunSpec : ChangeSpec := { name := "lotteryRun", fn := fun _ => fun
  | [d1, d2, d3] => { results := [.lit (.bool true)], args := [d1, d2, d3] }
  | _ => none }
def lotteryRunRow : OpenClaim := { program := "ytnjabochagahjaa", sum := "7930709a68238f9355c2c0138482f925407c8c5e1c2a9322a13b62b20d202306", func := "lotcaster/castkeep.LotteryRun", spec := "lotteryRun", unfollowed := true, recurses := true, apart := false }
def LotteryRunSaid : Prop := lotteryRunRow.holds Try.pinned (OpenSpec.ofChange lotteryRunSpec)

/-- ITS FALSE NEIGHBOUR: 'it returns false'. Refute it at one input. -/
def lotteryRunWrong : ChangeSpec := { name := "lotteryRun", fn := fun _ => fun
  | [d1, d2, d3] => { results := [.lit (.bool false)], args := [d1, d2, d3] }
  | _ => none }
def LotteryRunWrongFalsely : Prop := lotteryRunRow.holds Try.pinned (OpenSpec.ofChange lotteryRunWrong)

/-- 'castkeep.StrideFair': WHATEVER THE INPUT: true; the input reads as it did. -/
def strideFairSpec : ChangeSpec := { name := "strideFair", fn := fun _ => fun
  | [d1, d2] => { results := [.lit (.bool true)], args := [d1, d2] }
  | _ => none }
def strideFairRow : OpenClaim := { program := "ytnjabochagahjaa", sum := "7930709a68238f9355c2c0138482f925407c8c5e1c2a9322a13b62b20d202306", func := "lotcaster/castkeep.StrideFair", spec := "strideFair", apart := false }
def StrideFairSaid : Prop := strideFairRow.holds Try.pinned (OpenSpec.ofChange strideFairSpec)

/-- ITS FALSE NEIGHBOUR: 'it returns false'. Refute it at one input. -/
def strideFairWrong : ChangeSpec := { name := "strideFair", fn := fun _ => fun
  | [d1, d2] => { results := [.lit (.bool false)], args := [d1, d2] }
  | _ => none }
def StrideFairWrongFalsely : Prop := strideFairRow.holds Try.pinned (OpenSpec.ofChange strideFairWrong)

/-- 'castkeep.StrideRound': WHATEVER THE INPUT: true; the input reads as it did. -/
def strideRoundSpec : ChangeSpec := { name := "strideRound", fn := fun _ => fun
  | [d1, d2] => { results := [.lit (.bool true)], args := [d1, d2] }
  | _ => none }
def strideRoundRow : OpenClaim := { program := "ytnjabochagahjaa", sum := "7930709a68238f9355c2c0138482f925407c8c5e1c2a9322a13b62b20d202306", func := "lotcaster/castkeep.StrideRound", spec := "strideRound", apart := false }
def StrideRoundSaid : Prop := strideRoundRow.holds Try.pinned (OpenSpec.ofChange strideRoundSpec)

/-- ITS FALSE NEIGHBOUR: 'it returns false'. Refute it at one input. -/
def strideRoundWrong : ChangeSpec := { name := "strideRound", fn := fun _ => fun
  | [d1, d2] => { results := [.lit (.bool false)], args := [d1, d2] }
  | _ => none }
def StrideRoundWrongFalsely : Prop := strideRoundRow.holds Try.pinned (OpenSpec.ofChange strideRoundWrong)

/-- 'castkeep.StrideMore': WHATEVER THE INPUT: true; the input reads as it did. -/
def strideMoreSpec : ChangeSpec := { name := "strideMore", fn := fun _ => fun
  | [d1, d2] => { results := [.lit (.bool true)], args := [d1, d2] }
  | _ => none }
def strideMoreRow : OpenClaim := { program := "ytnjabochagahjaa", sum := "7930709a68238f9355c2c0138482f925407c8c5e1c2a9322a13b62b20d202306", func := "lotcaster/castkeep.StrideMore", spec := "strideMore", apart := false }
def StrideMoreSaid : Prop := strideMoreRow.holds Try.pinned (OpenSpec.ofChange strideMoreSpec)

/-- ITS FALSE NEIGHBOUR: 'it returns false'. Refute it at one input. -/
def strideMoreWrong : ChangeSpec := { name := "strideMore", fn := fun _ => fun
  | [d1, d2] => { results := [.lit (.bool false)], args := [d1, d2] }
  | _ => none }
def StrideMoreWrongFalsely : Prop := strideMoreRow.holds Try.pinned (OpenSpec.ofChange strideMoreWrong)

/-- 'castkeep.StrideNext': WHATEVER THE INPUT: true; the input reads as it did. -/
def strideNextSpec : ChangeSpec := { name := "strideNext", fn := fun _ => fun
  | [d1, d2, d3] => { results := [.lit (.bool true)], args := [d1, d2, d3] }
  | _ => none }
def strideNextRow : OpenClaim := { program := "ytnjabochagahjaa", sum := "7930709a68238f9355c2c0138482f925407c8c5e1c2a9322a13b62b20d202306", func := "lotcaster/castkeep.StrideNext", spec := "strideNext", apart := false }
def StrideNextSaid : Prop := strideNextRow.holds Try.pinned (OpenSpec.ofChange strideNextSpec)

/-- ITS FALSE NEIGHBOUR: 'it returns false'. Refute it at one input. -/
def strideNextWrong : ChangeSpec := { name := "strideNext", fn := fun _ => fun
  | [d1, d2, d3] => { results := [.lit (.bool false)], args := [d1, d2, d3] }
  | _ => none }
def StrideNextWrongFalsely : Prop := strideNextRow.holds Try.pinned (OpenSpec.ofChange strideNextWrong)

/-- 'casttop.TopFair': WHATEVER THE INPUT: true; the input reads as it did. -/
def topFairSpec : ChangeSpec := { name := "topFair", fn := fun _ => fun
  | [d] => { results := [.lit (.bool true)], args := [d] }
  | _ => none }
def topFairRow : OpenClaim := { program := "ytnjabochagahjaa", sum := "7930709a68238f9355c2c0138482f925407c8c5e1c2a9322a13b62b20d202306", func := "lotcaster/casttop.TopFair", spec := "topFair", unfollowed := true, recurses := true, apart := false }
def TopFairSaid : Prop := topFairRow.holds Try.pinned (OpenSpec.ofChange topFairSpec)

/-- ITS FALSE NEIGHBOUR: 'it returns false'. Refute it at one input. -/
def topFairWrong : ChangeSpec := { name := "topFair", fn := fun _ => fun
  | [d] => { results := [.lit (.bool false)], args := [d] }
  | _ => none }
def TopFairWrongFalsely : Prop := topFairRow.holds Try.pinned (OpenSpec.ofChange topFairWrong)

/- THE SECOND FORM. 'bulk': how many values and letters a reading holds, each counted each time it is reached (what is shared counts as often as it is met; a slice's spare places count too). A statement '..UptoSaid' is the law's where the arguments, and the package variables that the reading takes, are together of bulk at most 1048576: NARROWER than '..Said'. Prove '..Said' where nothing that the law and all that it calls make is longer than what came in: it says more and counts as full. Else prove '..UptoSaid'. A law counts once. -/
mutual
def uptoBulk {H : Type} : DataW H → Nat
  | .lit (.string bytes) => bytes.length + 1
  | .lit _ => 1
  | .nil => 1
  | .ptr d => uptoBulk d + 1
  | .slice elems spare => uptoBulkAll elems + uptoBulkAll spare + 1
  | .agg parts => uptoBulkAll parts + 1
  | .iface _ d => uptoBulk d + 1
  | .map entries => uptoBulkEntries entries + 1
  | .held _ => 1
def uptoBulkAll {H : Type} : List (DataW H) → Nat
  | [] => 0
  | d :: r => uptoBulk d + uptoBulkAll r
def uptoBulkEntries {H : Type} : List (Lit × DataW H) → Nat
  | [] => 0
  | x :: r => uptoBulkEntry x + uptoBulkEntries r
def uptoBulkEntry {H : Type} : Lit × DataW H → Nat
  | (.string bytes, d) => bytes.length + uptoBulk d + 1
  | (_, d) => uptoBulk d + 1
 end
def uptoSmall : (H : Type) → List (DataW H) → Bool := fun _ ds => decide (uptoBulkAll ds ≤ 1048576)
def OpenSpec.upto (s : _root_.Go.ChangeSpec) : _root_.Go.OpenSpec := { _root_.Go.OpenSpec.ofChange s with cond := some uptoSmall }

/-- 'castkeep.TapeEven', WHERE WHAT IT READS IS OF BULK AT MOST 1048576: true; the input reads as it did. -/
def tapeEvenUptoRow : OpenClaim := { program := "ytnjabochagahjaa", sum := "7930709a68238f9355c2c0138482f925407c8c5e1c2a9322a13b62b20d202306", func := "lotcaster/castkeep.TapeEven", spec := "tapeEven", apart := false, narrowed := true }
def TapeEvenUptoSaid : Prop := tapeEvenUptoRow.holds Try.pinned (OpenSpec.upto tapeEvenSpec)

/-- 'castkeep.TapeOn', WHERE WHAT IT READS IS OF BULK AT MOST 1048576: true; the input reads as it did. -/
def tapeOnUptoRow : OpenClaim := { program := "ytnjabochagahjaa", sum := "7930709a68238f9355c2c0138482f925407c8c5e1c2a9322a13b62b20d202306", func := "lotcaster/castkeep.TapeOn", spec := "tapeOn", apart := false, narrowed := true }
def TapeOnUptoSaid : Prop := tapeOnUptoRow.holds Try.pinned (OpenSpec.upto tapeOnSpec)

/-- 'castkeep.TapeRow', WHERE WHAT IT READS IS OF BULK AT MOST 1048576: true; the input reads as it did. -/
def tapeRowUptoRow : OpenClaim := { program := "ytnjabochagahjaa", sum := "7930709a68238f9355c2c0138482f925407c8c5e1c2a9322a13b62b20d202306", func := "lotcaster/castkeep.TapeRow", spec := "tapeRow", apart := false, narrowed := true }
def TapeRowUptoSaid : Prop := tapeRowUptoRow.holds Try.pinned (OpenSpec.upto tapeRowSpec)

/-- 'castkeep.LotteryEven', WHERE WHAT IT READS IS OF BULK AT MOST 1048576: true; the input reads as it did. -/
def lotteryEvenUptoRow : OpenClaim := { program := "ytnjabochagahjaa", sum := "7930709a68238f9355c2c0138482f925407c8c5e1c2a9322a13b62b20d202306", func := "lotcaster/castkeep.LotteryEven", spec := "lotteryEven", apart := false, narrowed := true }
def LotteryEvenUptoSaid : Prop := lotteryEvenUptoRow.holds Try.pinned (OpenSpec.upto lotteryEvenSpec)

/-- 'castkeep.LotteryTurned', WHERE WHAT IT READS IS OF BULK AT MOST 1048576: true; the input reads as it did. -/
def lotteryTurnedUptoRow : OpenClaim := { program := "ytnjabochagahjaa", sum := "7930709a68238f9355c2c0138482f925407c8c5e1c2a9322a13b62b20d202306", func := "lotcaster/castkeep.LotteryTurned", spec := "lotteryTurned", unfollowed := true, recurses := true, apart := false, narrowed := true }
def LotteryTurnedUptoSaid : Prop := lotteryTurnedUptoRow.holds Try.pinned (OpenSpec.upto lotteryTurnedSpec)

/-- 'castkeep.LotteryLend', WHERE WHAT IT READS IS OF BULK AT MOST 1048576: true; the input reads as it did. -/
def lotteryLendUptoRow : OpenClaim := { program := "ytnjabochagahjaa", sum := "7930709a68238f9355c2c0138482f925407c8c5e1c2a9322a13b62b20d202306", func := "lotcaster/castkeep.LotteryLend", spec := "lotteryLend", unfollowed := true, recurses := true, apart := false, narrowed := true }
def LotteryLendUptoSaid : Prop := lotteryLendUptoRow.holds Try.pinned (OpenSpec.upto lotteryLendSpec)

/-- 'castkeep.LotteryRun', WHERE WHAT IT READS IS OF BULK AT MOST 1048576: true; the input reads as it did. -/
def lotteryRunUptoRow : OpenClaim := { program := "ytnjabochagahjaa", sum := "7930709a68238f9355c2c0138482f925407c8c5e1c2a9322a13b62b20d202306", func := "lotcaster/castkeep.LotteryRun", spec := "lotteryRun", unfollowed := true, recurses := true, apart := false, narrowed := true }
def LotteryRunUptoSaid : Prop := lotteryRunUptoRow.holds Try.pinned (OpenSpec.upto lotteryRunSpec)

/-- 'castkeep.StrideFair', WHERE WHAT IT READS IS OF BULK AT MOST 1048576: true; the input reads as it did. -/
def strideFairUptoRow : OpenClaim := { program := "ytnjabochagahjaa", sum := "7930709a68238f9355c2c0138482f925407c8c5e1c2a9322a13b62b20d202306", func := "lotcaster/castkeep.StrideFair", spec := "strideFair", apart := false, narrowed := true }
def StrideFairUptoSaid : Prop := strideFairUptoRow.holds Try.pinned (OpenSpec.upto strideFairSpec)

/-- 'castkeep.StrideRound', WHERE WHAT IT READS IS OF BULK AT MOST 1048576: true; the input reads as it did. -/
def strideRoundUptoRow : OpenClaim := { program := "ytnjabochagahjaa", sum := "7930709a68238f9355c2c0138482f925407c8c5e1c2a9322a13b62b20d202306", func := "lotcaster/castkeep.StrideRound", spec := "strideRound", apart := false, narrowed := true }
def StrideRoundUptoSaid : Prop := strideRoundUptoRow.holds Try.pinned (OpenSpec.upto strideRoundSpec)

/-- 'castkeep.StrideMore', WHERE WHAT IT READS IS OF BULK AT MOST 1048576: true; the input reads as it did. -/
def strideMoreUptoRow : OpenClaim := { program := "ytnjabochagahjaa", sum := "7930709a68238f9355c2c0138482f925407c8c5e1c2a9322a13b62b20d202306", func := "lotcaster/castkeep.StrideMore", spec := "strideMore", apart := false, narrowed := true }
def StrideMoreUptoSaid : Prop := strideMoreUptoRow.holds Try.pinned (OpenSpec.upto strideMoreSpec)

/-- 'castkeep.StrideNext', WHERE WHAT IT READS IS OF BULK AT MOST 1048576: true; the input reads as it did. -/
def strideNextUptoRow : OpenClaim := { program := "ytnjabochagahjaa", sum := "7930709a68238f9355c2c0138482f925407c8c5e1c2a9322a13b62b20d202306", func := "lotcaster/castkeep.StrideNext", spec := "strideNext", apart := false, narrowed := true }
def StrideNextUptoSaid : Prop := strideNextUptoRow.holds Try.pinned (OpenSpec.upto strideNextSpec)

/-- 'casttop.TopFair', WHERE WHAT IT READS IS OF BULK AT MOST 1048576: true; the input reads as it did. -/
def topFairUptoRow : OpenClaim := { program := "ytnjabochagahjaa", sum := "7930709a68238f9355c2c0138482f925407c8c5e1c2a9322a13b62b20d202306", func := "lotcaster/casttop.TopFair", spec := "topFair", unfollowed := true, recurses := true, apart := false, narrowed := true }
def TopFairUptoSaid : Prop := topFairUptoRow.holds Try.pinned (OpenSpec.upto topFairSpec)

end Rows
end Go.Proofs.Ytnjabochagahjaa
