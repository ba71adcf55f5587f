/-
  No cell of these rows narrows 'for every input' (looked for: loops, veiled, ifaces, maps, wideKeys, modest, calm, conditions, laid).
  DERIVED. THE GIVEN ROWS OF THIS SEAT. 10 by the template 'for every input the law returns true; each argument reads behind the call as it read before'; 0 by the template 'total and deterministic' (their statements: YtgblmbhbbjgdiaaTotals.lean).
  GIVEN WITH THE SEED: the statements are not yours to turn. If you find one false, say at which input.
  Laid BY PROGRAM, IN A SANDBOX (cutbox-rows.mjs): the forced cells as the released guide's own fill.sh prints them over the translation 47238dc8724fce29… (all of the seat's roots in one cut). By AI agents, Wed Nov 11 2026. No macro, syntax, notation, axiom, sorry.
-/
import Derived.Test.YtgblmbhbbjgdiaaChecked
import GoSem.Claim
import GoSem.ClaimJoined
import GoSem.ClaimMapViews
import Derived.JoinedTies
import Derived.KernelRfl
namespace Go.Proofs.Ytgblmbhbbjgdiaa
/- THE CELL 'sum', in the pinned program and in every row, IS THE sha256 OF THE DUMP (.gsa) THAT YtgblmbhbbjgdiaaProg.lean LOADS. Nothing in Lean hashes anything: it is a label: what it is worth is what the hold of that sum in a sandbox is worth. -/
noncomputable def Try.pinned : Pinned := { name := "ytgblmbhbbjgdiaa", sum := "47238dc8724fce292f284ed9234975f82037630b7fd380f59d80297005725ae2", checked := Try.checked }
namespace Rows
def none {H : Type} : Left H := { results := [], args := [] }

/-- 'castkeep.SumsFind': WHATEVER THE INPUT: true; the input reads as it did. -/
def sumsFindSpec : ChangeSpec := { name := "sumsFind", fn := fun _ => fun
  | [d1, d2, d3] => { results := [.lit (.bool true)], args := [d1, d2, d3] }
  | _ => none }
def sumsFindRow : OpenClaim := { program := "ytgblmbhbbjgdiaa", sum := "47238dc8724fce292f284ed9234975f82037630b7fd380f59d80297005725ae2", func := "lotcaster/castkeep.SumsFind", spec := "sumsFind", unfollowed := true, recurses := true, apart := false }
def SumsFindSaid : Prop := sumsFindRow.holds Try.pinned (OpenSpec.ofChange sumsFindSpec)

/-- ITS FALSE NEIGHBOUR: 'it returns false'. Refute it at one input. -/
def sumsFindWrong : ChangeSpec := { name := "sumsFind", fn := fun _ => fun
  | [d1, d2, d3] => { results := [.lit (.bool false)], args := [d1, d2, d3] }
  | _ => none }
def SumsFindWrongFalsely : Prop := sumsFindRow.holds Try.pinned (OpenSpec.ofChange sumsFindWrong)

/-- 'castkeep.SumsOrder': WHATEVER THE INPUT: true; the input reads as it did. -/
def sumsOrderSpec : ChangeSpec := { name := "sumsOrder", fn := fun _ => fun
  | [d1, d2, d3, d4] => { results := [.lit (.bool true)], args := [d1, d2, d3, d4] }
  | _ => none }
def sumsOrderRow : OpenClaim := { program := "ytgblmbhbbjgdiaa", sum := "47238dc8724fce292f284ed9234975f82037630b7fd380f59d80297005725ae2", func := "lotcaster/castkeep.SumsOrder", spec := "sumsOrder", unfollowed := true, recurses := true, apart := false }
def SumsOrderSaid : Prop := sumsOrderRow.holds Try.pinned (OpenSpec.ofChange sumsOrderSpec)

/-- ITS FALSE NEIGHBOUR: 'it returns false'. Refute it at one input. -/
def sumsOrderWrong : ChangeSpec := { name := "sumsOrder", fn := fun _ => fun
  | [d1, d2, d3, d4] => { results := [.lit (.bool false)], args := [d1, d2, d3, d4] }
  | _ => none }
def SumsOrderWrongFalsely : Prop := sumsOrderRow.holds Try.pinned (OpenSpec.ofChange sumsOrderWrong)

/-- 'castkeep.AliasOne': WHATEVER THE INPUT: true; the input reads as it did. -/
def aliasOneSpec : ChangeSpec := { name := "aliasOne", fn := fun _ => fun
  | [d1, d2, d3] => { results := [.lit (.bool true)], args := [d1, d2, d3] }
  | _ => none }
def aliasOneRow : OpenClaim := { program := "ytgblmbhbbjgdiaa", sum := "47238dc8724fce292f284ed9234975f82037630b7fd380f59d80297005725ae2", func := "lotcaster/castkeep.AliasOne", spec := "aliasOne", apart := false }
def AliasOneSaid : Prop := aliasOneRow.holds Try.pinned (OpenSpec.ofChange aliasOneSpec)

/-- ITS FALSE NEIGHBOUR: 'it returns false'. Refute it at one input. -/
def aliasOneWrong : ChangeSpec := { name := "aliasOne", fn := fun _ => fun
  | [d1, d2, d3] => { results := [.lit (.bool false)], args := [d1, d2, d3] }
  | _ => none }
def AliasOneWrongFalsely : Prop := aliasOneRow.holds Try.pinned (OpenSpec.ofChange aliasOneWrong)

/-- 'castkeep.AliasEven': WHATEVER THE INPUT: true; the input reads as it did. -/
def aliasEvenSpec : ChangeSpec := { name := "aliasEven", fn := fun _ => fun
  | [d] => { results := [.lit (.bool true)], args := [d] }
  | _ => none }
def aliasEvenRow : OpenClaim := { program := "ytgblmbhbbjgdiaa", sum := "47238dc8724fce292f284ed9234975f82037630b7fd380f59d80297005725ae2", func := "lotcaster/castkeep.AliasEven", spec := "aliasEven", apart := false }
def AliasEvenSaid : Prop := aliasEvenRow.holds Try.pinned (OpenSpec.ofChange aliasEvenSpec)

/-- ITS FALSE NEIGHBOUR: 'it returns false'. Refute it at one input. -/
def aliasEvenWrong : ChangeSpec := { name := "aliasEven", fn := fun _ => fun
  | [d] => { results := [.lit (.bool false)], args := [d] }
  | _ => none }
def AliasEvenWrongFalsely : Prop := aliasEvenRow.holds Try.pinned (OpenSpec.ofChange aliasEvenWrong)

/-- 'castkeep.WarpBound': WHATEVER THE INPUT: true; the input reads as it did. -/
def warpBoundSpec : ChangeSpec := { name := "warpBound", fn := fun _ => fun
  | [d1, d2, d3] => { results := [.lit (.bool true)], args := [d1, d2, d3] }
  | _ => none }
def warpBoundRow : OpenClaim := { program := "ytgblmbhbbjgdiaa", sum := "47238dc8724fce292f284ed9234975f82037630b7fd380f59d80297005725ae2", func := "lotcaster/castkeep.WarpBound", spec := "warpBound", apart := false }
def WarpBoundSaid : Prop := warpBoundRow.holds Try.pinned (OpenSpec.ofChange warpBoundSpec)

/-- ITS FALSE NEIGHBOUR: 'it returns false'. Refute it at one input. -/
def warpBoundWrong : ChangeSpec := { name := "warpBound", fn := fun _ => fun
  | [d1, d2, d3] => { results := [.lit (.bool false)], args := [d1, d2, d3] }
  | _ => none }
def WarpBoundWrongFalsely : Prop := warpBoundRow.holds Try.pinned (OpenSpec.ofChange warpBoundWrong)

/-- 'castkeep.WarpFront': WHATEVER THE INPUT: true; the input reads as it did. -/
def warpFrontSpec : ChangeSpec := { name := "warpFront", fn := fun _ => fun
  | [d1, d2, d3, d4] => { results := [.lit (.bool true)], args := [d1, d2, d3, d4] }
  | _ => none }
def warpFrontRow : OpenClaim := { program := "ytgblmbhbbjgdiaa", sum := "47238dc8724fce292f284ed9234975f82037630b7fd380f59d80297005725ae2", func := "lotcaster/castkeep.WarpFront", spec := "warpFront", apart := false }
def WarpFrontSaid : Prop := warpFrontRow.holds Try.pinned (OpenSpec.ofChange warpFrontSpec)

/-- ITS FALSE NEIGHBOUR: 'it returns false'. Refute it at one input. -/
def warpFrontWrong : ChangeSpec := { name := "warpFront", fn := fun _ => fun
  | [d1, d2, d3, d4] => { results := [.lit (.bool false)], args := [d1, d2, d3, d4] }
  | _ => none }
def WarpFrontWrongFalsely : Prop := warpFrontRow.holds Try.pinned (OpenSpec.ofChange warpFrontWrong)

/-- 'castkeep.WarpRuns': WHATEVER THE INPUT: true; the input reads as it did. -/
def warpRunsSpec : ChangeSpec := { name := "warpRuns", fn := fun _ => fun
  | [d1, d2, d3] => { results := [.lit (.bool true)], args := [d1, d2, d3] }
  | _ => none }
def warpRunsRow : OpenClaim := { program := "ytgblmbhbbjgdiaa", sum := "47238dc8724fce292f284ed9234975f82037630b7fd380f59d80297005725ae2", func := "lotcaster/castkeep.WarpRuns", spec := "warpRuns", apart := false }
def WarpRunsSaid : Prop := warpRunsRow.holds Try.pinned (OpenSpec.ofChange warpRunsSpec)

/-- ITS FALSE NEIGHBOUR: 'it returns false'. Refute it at one input. -/
def warpRunsWrong : ChangeSpec := { name := "warpRuns", fn := fun _ => fun
  | [d1, d2, d3] => { results := [.lit (.bool false)], args := [d1, d2, d3] }
  | _ => none }
def WarpRunsWrongFalsely : Prop := warpRunsRow.holds Try.pinned (OpenSpec.ofChange warpRunsWrong)

/-- 'castkeep.WarpStride': WHATEVER THE INPUT: true; the input reads as it did. -/
def warpStrideSpec : ChangeSpec := { name := "warpStride", fn := fun _ => fun
  | [d1, d2] => { results := [.lit (.bool true)], args := [d1, d2] }
  | _ => none }
def warpStrideRow : OpenClaim := { program := "ytgblmbhbbjgdiaa", sum := "47238dc8724fce292f284ed9234975f82037630b7fd380f59d80297005725ae2", func := "lotcaster/castkeep.WarpStride", spec := "warpStride", unfollowed := true, recurses := true, apart := false }
def WarpStrideSaid : Prop := warpStrideRow.holds Try.pinned (OpenSpec.ofChange warpStrideSpec)

/-- ITS FALSE NEIGHBOUR: 'it returns false'. Refute it at one input. -/
def warpStrideWrong : ChangeSpec := { name := "warpStride", fn := fun _ => fun
  | [d1, d2] => { results := [.lit (.bool false)], args := [d1, d2] }
  | _ => none }
def WarpStrideWrongFalsely : Prop := warpStrideRow.holds Try.pinned (OpenSpec.ofChange warpStrideWrong)

/-- 'castkeep.PoolEven': WHATEVER THE INPUT: true; the input reads as it did. -/
def poolEvenSpec : ChangeSpec := { name := "poolEven", fn := fun _ => fun
  | [d1, d2] => { results := [.lit (.bool true)], args := [d1, d2] }
  | _ => none }
def poolEvenRow : OpenClaim := { program := "ytgblmbhbbjgdiaa", sum := "47238dc8724fce292f284ed9234975f82037630b7fd380f59d80297005725ae2", func := "lotcaster/castkeep.PoolEven", spec := "poolEven", unfollowed := true, recurses := true, apart := false }
def PoolEvenSaid : Prop := poolEvenRow.holds Try.pinned (OpenSpec.ofChange poolEvenSpec)

/-- ITS FALSE NEIGHBOUR: 'it returns false'. Refute it at one input. -/
def poolEvenWrong : ChangeSpec := { name := "poolEven", fn := fun _ => fun
  | [d1, d2] => { results := [.lit (.bool false)], args := [d1, d2] }
  | _ => none }
def PoolEvenWrongFalsely : Prop := poolEvenRow.holds Try.pinned (OpenSpec.ofChange poolEvenWrong)

/-- 'castkeep.PoolGrows': WHATEVER THE INPUT: true; the input reads as it did. -/
def poolGrowsSpec : ChangeSpec := { name := "poolGrows", fn := fun _ => fun
  | [d1, d2] => { results := [.lit (.bool true)], args := [d1, d2] }
  | _ => none }
def poolGrowsRow : OpenClaim := { program := "ytgblmbhbbjgdiaa", sum := "47238dc8724fce292f284ed9234975f82037630b7fd380f59d80297005725ae2", func := "lotcaster/castkeep.PoolGrows", spec := "poolGrows", unfollowed := true, recurses := true, apart := false }
def PoolGrowsSaid : Prop := poolGrowsRow.holds Try.pinned (OpenSpec.ofChange poolGrowsSpec)

/-- ITS FALSE NEIGHBOUR: 'it returns false'. Refute it at one input. -/
def poolGrowsWrong : ChangeSpec := { name := "poolGrows", fn := fun _ => fun
  | [d1, d2] => { results := [.lit (.bool false)], args := [d1, d2] }
  | _ => none }
def PoolGrowsWrongFalsely : Prop := poolGrowsRow.holds Try.pinned (OpenSpec.ofChange poolGrowsWrong)

/- THE SECOND FORM. 'bulk': how many values and letters a reading holds, each counted each time it is reached (what is shared counts as often as it is met; a slice's spare places count too). A statement '..UptoSaid' is the law's where the arguments, and the package variables that the reading takes, are together of bulk at most 1048576: NARROWER than '..Said'. Prove '..Said' where nothing that the law and all that it calls make is longer than what came in: it says more and counts as full. Else prove '..UptoSaid'. A law counts once. -/
mutual
def uptoBulk {H : Type} : DataW H → Nat
  | .lit (.string bytes) => bytes.length + 1
  | .lit _ => 1
  | .nil => 1
  | .ptr d => uptoBulk d + 1
  | .slice elems spare => uptoBulkAll elems + uptoBulkAll spare + 1
  | .agg parts => uptoBulkAll parts + 1
  | .iface _ d => uptoBulk d + 1
  | .map entries => uptoBulkEntries entries + 1
  | .held _ => 1
def uptoBulkAll {H : Type} : List (DataW H) → Nat
  | [] => 0
  | d :: r => uptoBulk d + uptoBulkAll r
def uptoBulkEntries {H : Type} : List (Lit × DataW H) → Nat
  | [] => 0
  | x :: r => uptoBulkEntry x + uptoBulkEntries r
def uptoBulkEntry {H : Type} : Lit × DataW H → Nat
  | (.string bytes, d) => bytes.length + uptoBulk d + 1
  | (_, d) => uptoBulk d + 1
 end
def uptoSmall : (H : Type) → List (DataW H) → Bool := fun _ ds => decide (uptoBulkAll ds ≤ 1048576)
def OpenSpec.upto (s : _root_.Go.ChangeSpec) : _root_.Go.OpenSpec := { _root_.Go.OpenSpec.ofChange s with cond := some uptoSmall }

/-- 'castkeep.SumsFind', WHERE WHAT IT READS IS OF BULK AT MOST 1048576: true; the input reads as it did. -/
def sumsFindUptoRow : OpenClaim := { program := "ytgblmbhbbjgdiaa", sum := "47238dc8724fce292f284ed9234975f82037630b7fd380f59d80297005725ae2", func := "lotcaster/castkeep.SumsFind", spec := "sumsFind", unfollowed := true, recurses := true, apart := false, narrowed := true }
def SumsFindUptoSaid : Prop := sumsFindUptoRow.holds Try.pinned (OpenSpec.upto sumsFindSpec)

/-- 'castkeep.SumsOrder', WHERE WHAT IT READS IS OF BULK AT MOST 1048576: true; the input reads as it did. -/
def sumsOrderUptoRow : OpenClaim := { program := "ytgblmbhbbjgdiaa", sum := "47238dc8724fce292f284ed9234975f82037630b7fd380f59d80297005725ae2", func := "lotcaster/castkeep.SumsOrder", spec := "sumsOrder", unfollowed := true, recurses := true, apart := false, narrowed := true }
def SumsOrderUptoSaid : Prop := sumsOrderUptoRow.holds Try.pinned (OpenSpec.upto sumsOrderSpec)

/-- 'castkeep.AliasOne', WHERE WHAT IT READS IS OF BULK AT MOST 1048576: true; the input reads as it did. -/
def aliasOneUptoRow : OpenClaim := { program := "ytgblmbhbbjgdiaa", sum := "47238dc8724fce292f284ed9234975f82037630b7fd380f59d80297005725ae2", func := "lotcaster/castkeep.AliasOne", spec := "aliasOne", apart := false, narrowed := true }
def AliasOneUptoSaid : Prop := aliasOneUptoRow.holds Try.pinned (OpenSpec.upto aliasOneSpec)

/-- 'castkeep.AliasEven', WHERE WHAT IT READS IS OF BULK AT MOST 1048576: true; the input reads as it did. -/
def aliasEvenUptoRow : OpenClaim := { program := "ytgblmbhbbjgdiaa", sum := "47238dc8724fce292f284ed9234975f82037630b7fd380f59d80297005725ae2", func := "lotcaster/castkeep.AliasEven", spec := "aliasEven", apart := false, narrowed := true }
def AliasEvenUptoSaid : Prop := aliasEvenUptoRow.holds Try.pinned (OpenSpec.upto aliasEvenSpec)

/-- 'castkeep.WarpBound', WHERE WHAT IT READS IS OF BULK AT MOST 1048576: true; the input reads as it did. -/
def warpBoundUptoRow : OpenClaim := { program := "ytgblmbhbbjgdiaa", sum := "47238dc8724fce292f284ed9234975f82037630b7fd380f59d80297005725ae2", func := "lotcaster/castkeep.WarpBound", spec := "warpBound", apart := false, narrowed := true }
def WarpBoundUptoSaid : Prop := warpBoundUptoRow.holds Try.pinned (OpenSpec.upto warpBoundSpec)

/-- 'castkeep.WarpFront', WHERE WHAT IT READS IS OF BULK AT MOST 1048576: true; the input reads as it did. -/
def warpFrontUptoRow : OpenClaim := { program := "ytgblmbhbbjgdiaa", sum := "47238dc8724fce292f284ed9234975f82037630b7fd380f59d80297005725ae2", func := "lotcaster/castkeep.WarpFront", spec := "warpFront", apart := false, narrowed := true }
def WarpFrontUptoSaid : Prop := warpFrontUptoRow.holds Try.pinned (OpenSpec.upto warpFrontSpec)

/-- 'castkeep.WarpRuns', WHERE WHAT IT READS IS OF BULK AT MOST 1048576: true; the input reads as it did. -/
def warpRunsUptoRow : OpenClaim := { program := "ytgblmbhbbjgdiaa", sum := "47238dc8724fce292f284ed9234975f82037630b7fd380f59d80297005725ae2", func := "lotcaster/castkeep.WarpRuns", spec := "warpRuns", apart := false, narrowed := true }
def WarpRunsUptoSaid : Prop := warpRunsUptoRow.holds Try.pinned (OpenSpec.upto warpRunsSpec)

/-- 'castkeep.WarpStride', WHERE WHAT IT READS IS OF BULK AT MOST 1048576: true; the input reads as it did. -/
def warpStrideUptoRow : OpenClaim := { program := "ytgblmbhbbjgdiaa", sum := "47238dc8724fce292f284ed9234975f82037630b7fd380f59d80297005725ae2", func := "lotcaster/castkeep.WarpStride", spec := "warpStride", unfollowed := true, recurses := true, apart := false, narrowed := true }
def WarpStrideUptoSaid : Prop := warpStrideUptoRow.holds Try.pinned (OpenSpec.upto warpStrideSpec)

/-- 'castkeep.PoolEven', WHERE WHAT IT READS IS OF BULK AT MOST 1048576: true; the input reads as it did. -/
def poolEvenUptoRow : OpenClaim := { program := "ytgblmbhbbjgdiaa", sum := "47238dc8724fce292f284ed9234975f82037630b7fd380f59d80297005725ae2", func := "lotcaster/castkeep.PoolEven", spec := "poolEven", unfollowed := true, recurses := true, apart := false, narrowed := true }
def PoolEvenUptoSaid : Prop := poolEvenUptoRow.holds Try.pinned (OpenSpec.upto poolEvenSpec)

/-- 'castkeep.PoolGrows', WHERE WHAT IT READS IS OF BULK AT MOST 1048576: true; the input reads as it did. -/
def poolGrowsUptoRow : OpenClaim := { program := "ytgblmbhbbjgdiaa", sum := "47238dc8724fce292f284ed9234975f82037630b7fd380f59d80297005725ae2", func := "lotcaster/castkeep.PoolGrows", spec := "poolGrows", unfollowed := true, recurses := true, apart := false, narrowed := true }
def PoolGrowsUptoSaid : Prop := poolGrowsUptoRow.holds Try.pinned (OpenSpec.upto poolGrowsSpec)

end Rows
end Go.Proofs.Ytgblmbhbbjgdiaa
