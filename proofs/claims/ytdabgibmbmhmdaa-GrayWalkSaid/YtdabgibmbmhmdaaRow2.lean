/- More on a block known whole. -/
import Derived.Test.YtdabgibmbmhmdaaRow
namespace Go.Proofs.Ytdabgibmbmhmdaa
open Go.RowKit
theorem RowAt.other {w : World} {B T n : Nat} {f : Nat → Int} (h : RowAt w B T n f) (a : Addr) (v : Value) (hne : B ≠ a.block) : RowAt (w.setCell a v) B T n f := by
  unfold RowAt at *
  rw [Below.heap_setCell w a v B hne, h]
end Go.Proofs.Ytdabgibmbmhmdaa
