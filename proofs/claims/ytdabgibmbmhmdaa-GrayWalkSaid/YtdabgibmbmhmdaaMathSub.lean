/- Plain mathematics: sets of bits, their sizes and their ranks among the sets of one size (the combinatorial number system). -/
import Derived.Test.YtdabgibmbmhmdaaMathCh
namespace Go.Proofs.Ytdabgibmbmhmdaa

def bitAt (s b : Nat) : Nat := s / 2 ^ b % 2
theorem bitAt_01 (s b : Nat) : bitAt s b = 0 ∨ bitAt s b = 1 := by unfold bitAt; omega
/-- how many of the lowest b bits are set -/
def onesB (s : Nat) : Nat → Nat
  | 0 => 0
  | b + 1 => onesB s b + bitAt s b
/-- the rank of the lowest b bits -/
def rkB (s : Nat) : Nat → Nat
  | 0 => 0
  | b + 1 => rkB s b + bitAt s b * chN b (onesB s (b + 1))
theorem onesB_succ (s b : Nat) : onesB s (b + 1) = onesB s b + bitAt s b := rfl
theorem rkB_succ (s b : Nat) : rkB s (b + 1) = rkB s b + bitAt s b * chN b (onesB s (b + 1)) := rfl
theorem onesB_le (s : Nat) : ∀ b, onesB s b ≤ b
  | 0 => Nat.le_refl _
  | b + 1 => by have := onesB_le s b; have := bitAt_01 s b; rw [onesB_succ]; omega
theorem onesB_congr (s t : Nat) : ∀ b, (∀ i, i < b → bitAt s i = bitAt t i) → onesB s b = onesB t b
  | 0, _ => rfl
  | b + 1, h => by rw [onesB_succ, onesB_succ, onesB_congr s t b (fun i hi => h i (by omega)), h b (by omega)]
theorem rkB_congr (s t : Nat) : ∀ b, (∀ i, i < b → bitAt s i = bitAt t i) → rkB s b = rkB t b
  | 0, _ => rfl
  | b + 1, h => by rw [rkB_succ, rkB_succ, rkB_congr s t b (fun i hi => h i (by omega)), onesB_congr s t (b + 1) h, h b (by omega)]
theorem rkB_lt (s : Nat) : ∀ b, rkB s b < chN b (onesB s b)
  | 0 => by simp [rkB, onesB, chN]
  | b + 1 => by
    have ih := rkB_lt s b
    rcases bitAt_01 s b with h | h
    · rw [rkB_succ, onesB_succ, h]
      simp only [Nat.zero_mul, Nat.add_zero]
      cases hk : onesB s b with
      | zero => rw [hk, chN_zero] at ih; rw [chN_zero]; exact ih
      | succ k => rw [hk] at ih; rw [chN_ss]; omega
    · rw [rkB_succ, onesB_succ, h, chN_ss]; omega
theorem split_low (s b : Nat) : s % 2 ^ (b + 1) = s % 2 ^ b + 2 ^ b * bitAt s b := by
  unfold bitAt
  rw [Nat.pow_succ, Nat.mod_mul]
theorem low_zero (s : Nat) : ∀ b, onesB s b = 0 → s % 2 ^ b = 0
  | 0, _ => by simp [Nat.mod_one]
  | b + 1, h => by
    rw [onesB_succ] at h
    rw [split_low, low_zero s b (by omega), show bitAt s b = 0 from by omega]; simp
theorem bitAt_add_high (x b i : Nat) (hi : i < b) (t : Nat) : bitAt (x + 2 ^ b * t) i = bitAt x i := by
  unfold bitAt
  obtain ⟨d, rfl⟩ : ∃ d, b = i + d + 1 := ⟨b - i - 1, by omega⟩
  have e : 2 ^ (i + d + 1) * t = 2 ^ i * (2 * (2 ^ d * t)) := by
    rw [Nat.pow_succ, Nat.pow_add]; grind
  rw [e, Nat.add_mul_div_left _ _ (Nat.two_pow_pos i)]; omega
theorem bitAt_top (x b : Nat) (hx : x < 2 ^ b) : bitAt (x + 2 ^ b * 1) b = 1 := by
  unfold bitAt
  rw [Nat.add_mul_div_left _ _ (Nat.two_pow_pos b), Nat.div_eq_of_lt hx]
theorem bitAt_big (x b : Nat) (hx : x < 2 ^ b) : bitAt x b = 0 := by
  unfold bitAt; rw [Nat.div_eq_of_lt hx]
theorem set_exists : ∀ b k r, r < chN b k → ∃ s, s < 2 ^ b ∧ onesB s b = k ∧ rkB s b = r
  | 0, 0, r, h => ⟨0, by simp, rfl, by simp [chN] at h; simp [rkB, h]⟩
  | 0, k + 1, r, h => by simp [chN] at h
  | b + 1, 0, r, h => by
    rw [chN_zero] at h
    obtain ⟨s, h1, h2, h3⟩ := set_exists b 0 r (by rw [chN_zero]; exact h)
    refine ⟨s, by rw [Nat.pow_succ]; omega, ?_, ?_⟩
    · rw [onesB_succ, h2, bitAt_big s b h1]
    · rw [rkB_succ, h3, bitAt_big s b h1]; simp
  | b + 1, k + 1, r, h => by
    rw [chN_ss] at h
    by_cases hr : r < chN b (k + 1)
    · obtain ⟨s, h1, h2, h3⟩ := set_exists b (k + 1) r hr
      refine ⟨s, by rw [Nat.pow_succ]; omega, ?_, ?_⟩
      · rw [onesB_succ, h2, bitAt_big s b h1]
      · rw [rkB_succ, h3, bitAt_big s b h1]; simp
    · obtain ⟨s, h1, h2, h3⟩ := set_exists b k (r - chN b (k + 1)) (by omega)
      have hb : ∀ i, i < b → bitAt (s + 2 ^ b * 1) i = bitAt s i := fun i hi => bitAt_add_high s b i hi 1
      have ho : onesB (s + 2 ^ b * 1) (b + 1) = k + 1 := by
        rw [onesB_succ, onesB_congr _ s b hb, h2, bitAt_top s b h1]
      refine ⟨s + 2 ^ b * 1, by rw [Nat.pow_succ]; omega, ho, ?_⟩
      rw [rkB_succ, ho, rkB_congr _ s b hb, h3, bitAt_top s b h1]; omega
theorem rkB_mono (s t : Nat) : ∀ b, onesB s b = onesB t b → s % 2 ^ b < t % 2 ^ b → rkB s b < rkB t b
  | 0, _, h => by simp [Nat.mod_one] at h
  | b + 1, ho, h => by
    have hs := Nat.mod_lt s (Nat.two_pow_pos b)
    have ht := Nat.mod_lt t (Nat.two_pow_pos b)
    rw [split_low, split_low] at h
    rw [rkB_succ, rkB_succ, ← ho]
    rw [onesB_succ, onesB_succ] at ho
    rcases bitAt_01 s b with h1 | h1 <;> rcases bitAt_01 t b with h2 | h2
    · rw [h1, h2] at h ho
      have := rkB_mono s t b (by omega) (by omega)
      rw [h1, h2]; omega
    · have := rkB_lt s b
      rw [h1, h2, onesB_succ, h1]; simp; omega
    · rw [h1, h2] at h; omega
    · rw [h1, h2] at h ho
      have := rkB_mono s t b (by omega) (by omega)
      rw [h1, h2]; omega
theorem low_eq (s t : Nat) : ∀ b, s % 2 ^ b = t % 2 ^ b → ∀ i, i < b → bitAt s i = bitAt t i := by
  intro b h i hi
  have e : ∀ x, bitAt x i = bitAt (x % 2 ^ b) i := by
    intro x
    have := bitAt_add_high (x % 2 ^ b) b i hi (x / 2 ^ b)
    rw [Nat.mod_add_div] at this
    exact this
  rw [e s, e t, h]
/-- of one size, the order of the sets is that of their ranks -/
theorem rkB_lt_iff (s t : Nat) (hs : s < 65536) (ht : t < 65536) (ho : onesB s 16 = onesB t 16) : s < t ↔ rkB s 16 < rkB t 16 := by
  have es : s % 2 ^ 16 = s := Nat.mod_eq_of_lt hs
  have et : t % 2 ^ 16 = t := Nat.mod_eq_of_lt ht
  constructor
  · intro h; exact rkB_mono s t 16 ho (by rw [es, et]; exact h)
  · intro h
    rcases Nat.lt_trichotomy s t with h1 | h1 | h1
    · exact h1
    · subst h1; omega
    · have := rkB_mono t s 16 ho.symm (by rw [es, et]; exact h1); omega
theorem chN_mono (k : Nat) : ∀ n m, n ≤ m → chN n k ≤ chN m k := by
  intro n m h
  induction m with
  | zero => rw [show n = 0 from by omega]; exact Nat.le_refl _
  | succ m ih =>
    by_cases e : n = m + 1
    · subst e; exact Nat.le_refl _
    · have := ih (by omega)
      cases k with
      | zero => simp [chN_zero]
      | succ k => rw [chN_ss]; omega
/-- the size of a set that lies within n bits -/
theorem ones_within (s n : Nat) (h : s < 2 ^ n) : ∀ b, n ≤ b → onesB s b = onesB s n := by
  intro b hb
  induction b with
  | zero => rw [show n = 0 from by omega]
  | succ b ih =>
    by_cases e : n = b + 1
    · rw [e]
    · rw [onesB_succ, ih (by omega), bitAt_big s b (Nat.lt_of_lt_of_le h (Nat.pow_le_pow_right (by omega) (by omega)))]; rfl
theorem rk_within (s n : Nat) (h : s < 2 ^ n) : ∀ b, n ≤ b → rkB s b = rkB s n := by
  intro b hb
  induction b with
  | zero => rw [show n = 0 from by omega]
  | succ b ih =>
    by_cases e : n = b + 1
    · rw [e]
    · rw [rkB_succ, ih (by omega), bitAt_big s b (Nat.lt_of_lt_of_le h (Nat.pow_le_pow_right (by omega) (by omega)))]; simp

/-! the count by which Size goes: the lowest set bit away -/
def pcN : Nat → Nat → Nat
  | 0, _ => 0
  | f + 1, s => s % 2 + pcN f (s / 2)
theorem pc_eq_ones (s : Nat) : ∀ b, pcN b s = onesB s b := by
  have key : ∀ b s, onesB s (b + 1) = s % 2 + onesB (s / 2) b := by
    intro b
    induction b with
    | zero => intro s; simp [onesB, bitAt]
    | succ b ih =>
      intro s
      rw [onesB_succ, ih s, onesB_succ]
      have : bitAt s (b + 1) = bitAt (s / 2) b := by
        unfold bitAt; rw [Nat.div_div_eq_div_mul, Nat.pow_succ, Nat.mul_comm 2]
      rw [this]; omega
  intro b
  induction b generalizing s with
  | zero => rfl
  | succ b ih => rw [pcN, key, ih (s / 2)]
theorem and_pred_div (s : Nat) (h : s % 2 = 0) : (s &&& (s - 1)) / 2 = s / 2 &&& (s / 2 - 1) := by
  rw [Nat.and_div_two]; congr 1; omega
theorem and_mod2 (a b : Nat) : (a &&& b) % 2 = (a % 2) &&& (b % 2) := by
  have := Nat.and_mod_two_pow (a := a) (b := b) (n := 1)
  simpa using this
theorem pc_and_pred : ∀ f s, 0 < s → s < 2 ^ f → pcN f (s &&& (s - 1)) + 1 = pcN f s
  | 0, s, h, h2 => by simp at h2; omega
  | f + 1, s, h, h2 => by
    rw [Nat.pow_succ] at h2
    rcases Nat.mod_two_eq_zero_or_one s with hm | hm
    · have := pc_and_pred f (s / 2) (by omega) (by omega)
      rw [pcN, pcN, and_pred_div s hm, and_mod2, hm]
      simp; exact this
    · have e : s &&& (s - 1) = s - 1 := by
        apply Nat.eq_of_testBit_eq
        intro i
        rw [Nat.testBit_and]
        cases i with
        | zero =>
          have h1 : (s - 1).testBit 0 = false := by rw [Nat.testBit_zero]; simp; omega
          rw [h1]; simp
        | succ i =>
          rw [Nat.testBit_succ, Nat.testBit_succ, show (s - 1) / 2 = s / 2 from by omega]; simp
      rw [e, pcN, pcN, hm, show (s - 1) % 2 = 0 from by omega, show (s - 1) / 2 = s / 2 from by omega]; omega
theorem ones_and_pred (s : Nat) (h : 0 < s) (h2 : s < 65536) : onesB (s &&& (s - 1)) 16 + 1 = onesB s 16 := by
  rw [← pc_eq_ones, ← pc_eq_ones]; exact pc_and_pred 16 s h h2
theorem ones_zero_iff (s : Nat) (h : s < 65536) : onesB s 16 = 0 ↔ s = 0 := by
  constructor
  · intro h1; have := low_zero s 16 h1; rw [Nat.mod_eq_of_lt h] at this; exact this
  · intro h1; subst h1; decide
end Go.Proofs.Ytdabgibmbmhmdaa
