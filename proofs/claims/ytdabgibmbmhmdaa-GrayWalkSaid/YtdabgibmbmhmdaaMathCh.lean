/- Plain mathematics: binomial coefficients. -/
import Derived.Test.YtdabgibmbmhmdaaRows
namespace Go.Proofs.Ytdabgibmbmhmdaa

def chN : Nat → Nat → Nat
  | _, 0 => 1
  | 0, _ + 1 => 0
  | n + 1, k + 1 => chN n k + chN n (k + 1)
theorem chN_zero (n : Nat) : chN n 0 = 1 := by cases n <;> rfl
theorem chN_ss (n k : Nat) : chN (n + 1) (k + 1) = chN n k + chN n (k + 1) := rfl
theorem chN_gt : ∀ n k, n < k → chN n k = 0
  | 0, 0, h => by omega
  | 0, k + 1, _ => rfl
  | n + 1, 0, h => by omega
  | n + 1, k + 1, h => by rw [chN_ss, chN_gt n k (by omega), chN_gt n (k + 1) (by omega)]
theorem chN_self : ∀ n, chN n n = 1
  | 0 => rfl
  | n + 1 => by rw [chN_ss, chN_self n, chN_gt n (n + 1) (by omega)]
theorem chN_succ : ∀ n k, (n + 1) * chN n k = chN (n + 1) (k + 1) * (k + 1)
  | 0, 0 => rfl
  | 0, k + 1 => by simp [chN]
  | n + 1, 0 => by
    have h := chN_succ n 0
    simp only [chN_ss, chN_zero] at h ⊢
    grind
  | n + 1, k + 1 => by
    have h1 := chN_succ n k
    have h2 := chN_succ n (k + 1)
    simp only [chN_ss] at h1 h2 ⊢
    grind
theorem chN_step (n k : Nat) (h : k ≤ n) : chN n k * (n - k) = chN n (k + 1) * (k + 1) := by
  have h1 := chN_succ n k
  rw [chN_ss] at h1
  obtain ⟨d, rfl⟩ : ∃ d, n = k + d := ⟨n - k, by omega⟩
  rw [Nat.add_sub_cancel_left]
  grind
theorem chN_le : ∀ n k, chN n k ≤ 2 ^ n
  | n, 0 => by rw [chN_zero]; exact Nat.one_le_two_pow
  | 0, k + 1 => by simp [chN]
  | n + 1, k + 1 => by
    have := chN_le n k
    have := chN_le n (k + 1)
    rw [chN_ss, Nat.pow_succ]; omega
theorem chN_le16 (n k : Nat) (h : n ≤ 16) : chN n k ≤ 65536 := Nat.le_trans (chN_le n k) (Nat.pow_le_pow_right (by omega) h)
theorem chN_pos : ∀ n k, k ≤ n → 0 < chN n k
  | n, 0, _ => by rw [chN_zero]; omega
  | 0, k + 1, h => by omega
  | n + 1, k + 1, h => by
    have := chN_pos n k (by omega)
    rw [chN_ss]; omega
theorem chN_symm : ∀ n k, k ≤ n → chN n (n - k) = chN n k
  | 0, 0, _ => rfl
  | 0, k + 1, h => by omega
  | n + 1, 0, _ => by rw [chN_zero, Nat.sub_zero, chN_self]
  | n + 1, k + 1, h => by
    rw [chN_ss]
    by_cases hk : k = n
    · subst hk
      simp [chN_zero, chN_self, chN_gt]
    · have e1 := chN_symm n k (by omega)
      have e2 := chN_symm n (k + 1) (by omega)
      rw [show n + 1 - (k + 1) = (n - (k + 1)) + 1 from by omega, chN_ss, e2, show n - (k + 1) + 1 = n - k from by omega, e1, Nat.add_comm]
end Go.Proofs.Ytdabgibmbmhmdaa
