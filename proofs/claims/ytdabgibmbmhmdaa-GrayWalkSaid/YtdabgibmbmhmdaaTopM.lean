/- Plain laws of TopWalk. -/
import Derived.Test.YtdabgibmbmhmdaaGrayW
import Derived.Test.YtdabgibmbmhmdaaGray
import Derived.Test.YtdabgibmbmhmdaaEvtM
import Derived.Test.YtdabgibmbmhmdaaSubS
namespace Go.Proofs.Ytdabgibmbmhmdaa
open Go.RowKit

theorem xm2 (a b : Nat) : (a ^^^ b) % 2 = (a + b) % 2 := by
  have h := Nat.xor_mod_two_eq_one (a := a) (b := b)
  rcases Nat.mod_two_eq_zero_or_one a with c1 | c1 <;> rcases Nat.mod_two_eq_zero_or_one b with c2 | c2 <;> rcases Nat.mod_two_eq_zero_or_one (a ^^^ b) with c3 | c3 <;> rw [c1, c2, c3] at h <;> simp at h <;> omega
theorem wtL_flip : ∀ (l : List Int) (s k : Nat), k < l.length → wtL l (s ^^^ 2 ^ k) = wtL l s + (if s / 2 ^ k % 2 = 1 then - nth l k else nth l k)
  | [], _, _, h => by simp at h
  | x :: r, s, 0, _ => by
    have h1 : (s ^^^ 2 ^ 0) / 2 = s / 2 := by rw [Nat.pow_zero, Nat.xor_div_two]; simp
    have h2 : (s ^^^ 2 ^ 0) % 2 = (s + 1) % 2 := by rw [Nat.pow_zero, xm2]
    have h3 : nth (x :: r) 0 = x := rfl
    rw [wtL, wtL, h1, h2, h3, Nat.pow_zero, Nat.div_one]
    rcases Nat.mod_two_eq_zero_or_one s with c | c
    · rw [if_pos (by omega), if_neg (by omega), if_neg (by omega)]; omega
    · rw [if_neg (by omega), if_pos c, if_pos c]; omega
  | x :: r, s, k + 1, h => by
    have hp : (2 ^ (k + 1)) / 2 = 2 ^ k := by rw [Nat.pow_succ]; omega
    have h1 : (s ^^^ 2 ^ (k + 1)) / 2 = s / 2 ^^^ 2 ^ k := by rw [Nat.xor_div_two, hp]
    have h2 : (s ^^^ 2 ^ (k + 1)) % 2 = s % 2 := by rw [xm2, Nat.pow_succ]; omega
    have h3 : nth (x :: r) (k + 1) = nth r k := rfl
    have h4 : s / 2 ^ (k + 1) = s / 2 / 2 ^ k := by rw [Nat.div_div_eq_div_mul, Nat.pow_succ, Nat.mul_comm]
    rw [wtL, wtL, h1, h2, h3, h4, wtL_flip r (s / 2) k (by simpa using h)]
    omega
theorem wtL_high : ∀ (l : List Int) (s k : Nat), l.length ≤ k → wtL l (s + 2 ^ k) = wtL l s
  | [], _, _, _ => rfl
  | x :: r, s, 0, h => by simp at h
  | x :: r, s, k + 1, h => by
    have h1 : (s + 2 ^ (k + 1)) % 2 = s % 2 := by rw [Nat.pow_succ]; omega
    have h2 : (s + 2 ^ (k + 1)) / 2 = s / 2 + 2 ^ k := by rw [Nat.pow_succ]; omega
    rw [wtL, wtL, h1, h2, wtL_high r (s / 2) k (by simpa using h)]
theorem isum_snoc : ∀ (l : List Int) (x : Int), isum (l ++ [x]) = isum l + x
  | [], x => by simp [isum]
  | y :: r, x => by rw [List.cons_append, isum, isum, isum_snoc r x]; omega
/-- the sum of the weights of some sets -/
def sumW (l : List Int) : List Nat → Int
  | [] => 0
  | s :: r => wtL l s + sumW l r
theorem sumW_app (l : List Int) : ∀ a b, sumW l (a ++ b) = sumW l a + sumW l b
  | [], b => by simp [sumW]
  | s :: a, b => by rw [List.cons_append, sumW, sumW, sumW_app l a b]; omega
theorem sumW_rev (l : List Int) : ∀ a, sumW l a.reverse = sumW l a
  | [] => rfl
  | s :: a => by rw [List.reverse_cons, sumW_app, sumW_rev l a, sumW, sumW, sumW]; omega
theorem sumW_low (l : List Int) (y : Int) (k : Nat) (hk : l.length = k) : ∀ a : List Nat, (∀ s ∈ a, s < 2 ^ k) → sumW (l ++ [y]) a = sumW l a
  | [], _ => rfl
  | s :: a, h => by
    have h1 := h s (by simp)
    rw [sumW, sumW, sumW_low l y k hk a (fun t ht => h t (by simp [ht])), wtL_snoc, hk, Nat.div_eq_of_lt h1]; simp
theorem sumW_up (l : List Int) (y : Int) (k : Nat) (hk : l.length = k) : ∀ a : List Nat, (∀ s ∈ a, s < 2 ^ k) → sumW (l ++ [y]) (a.map (· ||| 2 ^ k)) = sumW l a + a.length * y
  | [], _ => by simp [sumW]
  | s :: a, h => by
    have h1 := h s (by simp)
    have h2 : s ||| 2 ^ k = s + 2 ^ k := by have := Nat.two_pow_add_eq_or_of_lt h1 1; rw [Nat.mul_one] at this; rw [Nat.or_comm, ← this, Nat.add_comm]
    have h3 : (s + 2 ^ k) / 2 ^ k = 1 := by rw [Nat.add_div_right _ (Nat.two_pow_pos k), Nat.div_eq_of_lt h1]
    rw [List.map_cons, sumW, sumW, sumW_up l y k hk a (fun t ht => h t (by simp [ht])), wtL_snoc, hk, h2, h3, wtL_high l s k (by omega)]
    rw [List.length_cons, Int.natCast_add, Int.add_mul]
    simp
    omega
theorem sumW_all : ∀ (m : Nat) (l : List Int), l.length = m → 2 * sumW l (grayL m) = isum l * ((2 ^ m : Nat) : Int)
  | 0, l, h => by
    obtain rfl : l = [] := by simpa using h
    rfl
  | m + 1, l, h => by
    have hl : l = l.take m ++ [nth l m] := by rw [← take_nth l m (by omega), List.take_of_length_le (by omega)]
    have hk : (l.take m).length = m := by rw [List.length_take]; omega
    have ih := sumW_all m (l.take m) hk
    rw [hl, isum_snoc, grayL, sumW_app, sumW_low _ _ m hk _ (grayL_lt m), sumW_up _ _ m hk _ (fun s hs => grayL_lt m s (List.mem_reverse.1 hs)), sumW_rev, List.length_reverse, grayL_len, Nat.pow_succ]
    generalize sumW (l.take m) (grayL m) = S at *
    generalize isum (l.take m) = T at *
    generalize 2 ^ m = Q at *
    generalize nth l m = y at *
    have e1 : (T + y) * ((Q * 2 : Nat) : Int) = 2 * (T * (Q : Int)) + 2 * ((Q : Int) * y) := by
      rw [Int.natCast_mul, Int.add_mul, Int.mul_comm y, ← Int.mul_assoc, Int.mul_comm (T * (Q : Int)), Int.mul_comm (Q : Int) ((2 : Nat) : Int), Int.mul_assoc ((2 : Nat) : Int) (Q : Int) y]; rfl
    rw [e1]
    generalize T * (Q : Int) = P at *
    generalize (Q : Int) * y = R at *
    omega
/-- the code at i -/
theorem grayL_at : ∀ m : Nat, m ≤ 8 → ∀ i, i < 2 ^ m → (grayL m).getD i 0 = i ^^^ i / 2 := by decide +kernel
theorem ones_pow : ∀ k, k < 16 → onesB (2 ^ k) 16 = 1 := by decide +kernel
theorem gray_next (m i k : Nat) (hm : m ≤ 8) (hi : i + 1 < 2 ^ m) (h : FirstZero i k) : k < m ∧ (grayL m).getD (i + 1) 0 = (grayL m).getD i 0 ^^^ 2 ^ k := by
  have hk : k < m := by
    rcases Nat.lt_or_ge k m with c | c
    · exact c
    · exfalso
      have h1 : 2 ^ m ≤ 2 ^ k := Nat.pow_le_pow_right (by omega) c
      have h2 := h.2.1
      rw [Nat.mod_eq_of_lt (by omega)] at h2
      omega
  refine ⟨hk, ?_⟩
  rw [grayL_at m hm _ hi, grayL_at m hm _ (by omega), ← firstZero_flip i k h, ← Nat.xor_assoc, Nat.xor_self, Nat.zero_xor]
end Go.Proofs.Ytdabgibmbmhmdaa
