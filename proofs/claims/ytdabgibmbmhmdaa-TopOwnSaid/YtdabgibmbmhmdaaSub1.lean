/- Contracts of subset.choose and subset.Choose. -/
import Derived.Test.YtdabgibmbmhmdaaBase
import Derived.Test.YtdabgibmbmhmdaaMathCh
namespace Go.Proofs.Ytdabgibmbmhmdaa
open Go.RowKit

theorem choose_mul (n i x : Nat) (h : i ≤ n) : ((x * chN n i : Nat) : Int) * ((n : Int) - (i : Int)) = ((x * chN n i * (n - i) : Nat) : Int) := by
  rw [Int.natCast_mul (x * chN n i) (n - i), Int.natCast_sub h]
theorem choose_div (n i x : Nat) (h : i ≤ n) : ((x * chN n i * (n - i) : Nat) : Int) / ((i : Int) + 1) = ((x * chN n (i + 1) : Nat) : Int) := by
  rw [show (i : Int) + 1 = ((i + 1 : Nat) : Int) from rfl, ← Int.natCast_ediv, Nat.mul_assoc, chN_step n i h, ← Nat.mul_assoc, Nat.mul_div_cancel _ (by omega)]

end Go.Proofs.Ytdabgibmbmhmdaa
