/- Plain mathematics: sums over 0 .. k-1, factorials. -/
import Derived.Test.YtdcekplmmfenlaaRows
namespace Go.Proofs.Ytdcekplmmfenlaa
def sumTo (f : Nat → Nat) : Nat → Nat
  | 0 => 0
  | k + 1 => sumTo f k + f k
def facN : Nat → Nat
  | 0 => 1
  | n + 1 => facN n * (n + 1)
theorem sumTo_succ (f : Nat → Nat) (k : Nat) : sumTo f (k + 1) = sumTo f k + f k := rfl
theorem sumTo_le (f : Nat → Nat) {a b : Nat} (h : a ≤ b) : sumTo f a ≤ sumTo f b := by
  induction b with
  | zero => rw [show a = 0 from by omega]; exact Nat.le_refl _
  | succ b ih =>
    by_cases hb : a = b + 1
    · subst hb; exact Nat.le_refl _
    · have := ih (by omega); rw [sumTo_succ]; omega
theorem sumTo_bound (f : Nat → Nat) (B : Nat) : ∀ k, (∀ i, i < k → f i ≤ B) → sumTo f k ≤ k * B
  | 0, _ => by simp [sumTo]
  | k + 1, h => by
    have h1 := sumTo_bound f B k (fun i hi => h i (by omega))
    have h2 := h k (by omega)
    rw [sumTo_succ, Nat.succ_mul]; omega
theorem sumTo_congr (f g : Nat → Nat) : ∀ k, (∀ i, i < k → f i = g i) → sumTo f k = sumTo g k
  | 0, _ => rfl
  | k + 1, h => by rw [sumTo_succ, sumTo_succ, sumTo_congr f g k (fun i hi => h i (by omega)), h k (by omega)]
theorem sumTo_pair (f : Nat → Nat) {j n B : Nat} (h : j < n) (hB : sumTo f n ≤ B) : sumTo f j + f j ≤ B := Nat.le_trans (sumTo_le f (a := j + 1) h) hB
theorem natMul (a b : Nat) : (a : Int) * (b : Int) = ((a * b : Nat) : Int) := by simp
end Go.Proofs.Ytdcekplmmfenlaa
