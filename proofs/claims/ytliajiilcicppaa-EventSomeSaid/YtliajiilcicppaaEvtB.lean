/- Plain law of EventSome: inclusion and exclusion, cut short, by cases. -/
import Derived.Test.YtliajiilcicppaaEvt5
namespace Go.Proofs.Ytliajiilcicppaa
open Go.RowKit

/-- a weighted sum over the cases -/
def wsum : List Int → (Nat → Int) → Int
  | [], _ => 0
  | x :: r, G => x * G 0 + wsum r fun k => G (k + 1)
theorem wsum_add : ∀ (l : List Int) (G H : Nat → Int), wsum l (fun k => G k + H k) = wsum l G + wsum l H
  | [], _, _ => rfl
  | x :: r, G, H => by rw [wsum, wsum, wsum, wsum_add r, Int.mul_add]; omega
theorem wsum_congr : ∀ (l : List Int) (G H : Nat → Int), (∀ k, k < l.length → G k = H k) → wsum l G = wsum l H
  | [], _, _, _ => rfl
  | x :: r, G, H, h => by
    rw [wsum, wsum, h 0 (by simp), wsum_congr r _ (fun k => H (k + 1)) (fun k hk => h (k + 1) (by simpa using hk))]
theorem wsum_mono : ∀ (l : List Int) (G H : Nat → Int), (∀ x ∈ l, 0 ≤ x) → (∀ k, k < l.length → G k ≤ H k) → wsum l G ≤ wsum l H
  | [], _, _, _, _ => Int.le_refl _
  | x :: r, G, H, hp, h => by
    have h1 : x * G 0 ≤ x * H 0 := Int.mul_le_mul_of_nonneg_left (h 0 (by simp)) (hp x (by simp))
    have h2 := wsum_mono r (fun k => G (k + 1)) (fun k => H (k + 1)) (fun y hy => hp y (by simp [hy])) (fun k hk => h (k + 1) (by simpa using hk))
    rw [wsum, wsum]; omega
theorem wsum_neg : ∀ (l : List Int) (G : Nat → Int), wsum l (fun k => - G k) = - wsum l G
  | [], _ => rfl
  | x :: r, G => by rw [wsum, wsum, wsum_neg r, Int.mul_neg]; omega
theorem wsum_zero : ∀ (l : List Int), wsum l (fun _ => 0) = 0
  | [] => rfl
  | x :: r => by rw [wsum, wsum_zero r]; omega
theorem wtL_wsum : ∀ (l : List Int) (s : Nat), wtL l s = wsum l (fun k => ((s / 2 ^ k % 2 : Nat) : Int))
  | [], _ => rfl
  | x :: r, s => by
    have e : ∀ k, s / 2 ^ (k + 1) = s / 2 / 2 ^ k := fun k => by rw [Nat.div_div_eq_div_mul, Nat.pow_succ, Nat.mul_comm]
    rw [wtL, wsum, wtL_wsum r (s / 2), Nat.pow_zero, Nat.div_one]
    simp only [e]
    rcases Nat.mod_two_eq_zero_or_one s with c | c
    · rw [if_neg (by omega), c]; simp
    · rw [if_pos c, c]; simp
/-- which of the first m sets hold case k -/
def ptn (ss : List Nat) (k : Nat) : Nat → Nat
  | 0 => 0
  | i + 1 => ptn ss k i + ss.getD i 0 / 2 ^ k % 2 * 2 ^ i
/-- the members of the first m -/
def popM (s : Nat) : Nat → Nat
  | 0 => 0
  | i + 1 => popM s i + s / 2 ^ i % 2
/-- is each of the first m that s names held by p? -/
def subM (s p : Nat) : Nat → Bool
  | 0 => true
  | i + 1 => subM s p i && (decide (s / 2 ^ i % 2 = 0) || decide (p / 2 ^ i % 2 = 1))
def sgnZ (z : Nat) : Int := if z % 2 = 1 then 1 else -1
def gS (m p z : Nat) : Nat → Int
  | 0 => 0
  | s + 1 => gS m p z s + if popM s m = z ∧ subM s p m = true then sgnZ z else 0
def gZ (m p : Nat) : Nat → Int
  | 0 => 0
  | z + 1 => gZ m p z + gS m p (z + 1) (2 ^ m)
def anyP (p : Nat) : Int := if p = 0 then 0 else 1
def bonfB (m p : Nat) : Bool := ((List.range m).all fun z => if (z + 1) % 2 = 1 then decide (anyP p ≤ gZ m p (z + 1)) else decide (gZ m p (z + 1) ≤ anyP p)) && decide (gZ m p m = anyP p)
theorem bonf_all : ∀ m, m < 7 → ∀ p, p < 2 ^ m → bonfB m p = true := by decide +kernel
theorem bonf_odd (m p z : Nat) (hm : m < 7) (hp : p < 2 ^ m) (hz : z < m) (h : (z + 1) % 2 = 1) : anyP p ≤ gZ m p (z + 1) := by
  have := bonf_all m hm p hp
  unfold bonfB at this
  rw [Bool.and_eq_true, List.all_eq_true] at this
  have := this.1 z (List.mem_range.2 hz)
  rw [if_pos h] at this
  exact of_decide_eq_true this
theorem bonf_even (m p z : Nat) (hm : m < 7) (hp : p < 2 ^ m) (hz : z < m) (h : ¬ (z + 1) % 2 = 1) : gZ m p (z + 1) ≤ anyP p := by
  have := bonf_all m hm p hp
  unfold bonfB at this
  rw [Bool.and_eq_true, List.all_eq_true] at this
  have := this.1 z (List.mem_range.2 hz)
  rw [if_neg h] at this
  exact of_decide_eq_true this
theorem bonf_end (m p : Nat) (hm : m < 7) (hp : p < 2 ^ m) : gZ m p m = anyP p := by
  have := bonf_all m hm p hp
  unfold bonfB at this
  rw [Bool.and_eq_true] at this
  exact of_decide_eq_true this.2
theorem ptn_lt (ss : List Nat) (k : Nat) : ∀ m, ptn ss k m < 2 ^ m
  | 0 => by rw [ptn]; omega
  | m + 1 => by
    have h1 := ptn_lt ss k m
    have h2 : ss.getD m 0 / 2 ^ k % 2 * 2 ^ m ≤ 1 * 2 ^ m := Nat.mul_le_mul_right _ (by omega)
    rw [ptn, Nat.pow_succ]; omega
theorem ptn_at (ss : List Nat) (k i : Nat) : ∀ m, i < m → ptn ss k m / 2 ^ i % 2 = ss.getD i 0 / 2 ^ k % 2
  | 0, h => by omega
  | m + 1, h => by
    have h1 := ptn_lt ss k m
    rw [ptn]
    by_cases c : i = m
    · subst c
      rw [Nat.add_mul_div_right _ _ (Nat.two_pow_pos i), Nat.div_eq_of_lt h1]; omega
    · have e : 2 ^ m = 2 ^ (m - 1 - i) * 2 * 2 ^ i := by rw [← Nat.pow_succ, ← Nat.pow_add]; congr 1; omega
      rw [e, ← Nat.mul_assoc, Nat.add_mul_div_right _ _ (Nat.two_pow_pos i), ← Nat.mul_assoc, Nat.add_mul_mod_self_right]
      exact ptn_at ss k i m (by omega)
theorem bit_and (a b k : Nat) : (a &&& b) / 2 ^ k % 2 = if a / 2 ^ k % 2 = 1 ∧ b / 2 ^ k % 2 = 1 then 1 else 0 := by
  have h := Nat.testBit_and a b k
  simp only [Nat.testBit_eq_decide_div_mod_eq] at h
  by_cases c : a / 2 ^ k % 2 = 1 ∧ b / 2 ^ k % 2 = 1
  · rw [if_pos c]
    rw [c.1, c.2] at h
    simpa using h
  · rw [if_neg c]
    have : ¬ (a &&& b) / 2 ^ k % 2 = 1 := fun e => c (by rw [e] at h; simpa using h)
    omega
/-- all that the sets named by s have in common -/
def capM (ss : List Nat) (all s : Nat) : Nat → Nat
  | 0 => all
  | i + 1 => if s / 2 ^ i % 2 = 1 then capM ss all s i &&& ss.getD i 0 else capM ss all s i
theorem cap_bit (ss : List Nat) (all s k : Nat) (ha : all / 2 ^ k % 2 = 1) : ∀ m, capM ss all s m / 2 ^ k % 2 = if subM s (ptn ss k m) m = true then 1 else 0 := by
  have gen : ∀ (p : Nat), ∀ m, (∀ i, i < m → p / 2 ^ i % 2 = ss.getD i 0 / 2 ^ k % 2) → capM ss all s m / 2 ^ k % 2 = if subM s p m = true then 1 else 0 := by
    intro p m
    induction m with
    | zero => intro _; rw [capM, subM, ha]; rfl
    | succ m ih =>
      intro h
      have ih := ih (fun i hi => h i (by omega))
      have hm := h m (by omega)
      rw [capM, subM]
      by_cases c : s / 2 ^ m % 2 = 1
      · rw [if_pos c, bit_and, ih, hm]
        cases subM s p m <;> by_cases c2 : ss.getD m 0 / 2 ^ k % 2 = 1 <;> simp [c]
      · rw [if_neg c, ih]
        have c0 : s / 2 ^ m % 2 = 0 := by omega
        cases subM s p m <;> simp [c0]
  exact fun m => gen _ m fun i hi => ptn_at ss k i m hi
theorem some_bit (ss : List Nat) (k : Nat) : ∀ n, k < n → someIn ss n / 2 ^ k % 2 = if 1 ≤ someCnt ss k ss.length then 1 else 0
  | 0, h => by omega
  | n + 1, h => by
    have h1 := someIn_lt ss n
    have e0 : someIn ss n ||| 2 ^ n = someIn ss n + 1 * 2 ^ n := by have := Nat.two_pow_add_eq_or_of_lt h1 1; rw [Nat.mul_one] at this; rw [Nat.or_comm, ← this]; omega
    rw [someIn]
    by_cases c : k = n
    · subst c
      by_cases c2 : 1 ≤ someCnt ss k ss.length
      · rw [if_pos c2, if_pos c2, e0, Nat.add_mul_div_right _ _ (Nat.two_pow_pos k), Nat.div_eq_of_lt h1]
      · rw [if_neg c2, if_neg c2, Nat.div_eq_of_lt h1]
    · have ih := some_bit ss k n (by omega)
      by_cases c2 : 1 ≤ someCnt ss n ss.length
      · rw [if_pos c2, e0, ← ih]
        have e : 1 * 2 ^ n = 2 ^ (n - 1 - k) * 2 * 2 ^ k := by rw [Nat.one_mul, ← Nat.pow_succ, ← Nat.pow_add]; congr 1; omega
        rw [e, Nat.add_mul_div_right _ _ (Nat.two_pow_pos k), Nat.add_mul_mod_self_right]
      · rw [if_neg c2, ih]
theorem cnt_ptn (ss : List Nat) (k : Nat) : ∀ m, 1 ≤ someCnt ss k m ↔ ptn ss k m ≠ 0
  | 0 => by rw [someCnt, ptn]; omega
  | m + 1 => by
    have ih := cnt_ptn ss k m
    have hp := Nat.two_pow_pos m
    rw [someCnt, ptn]
    rcases Nat.mod_two_eq_zero_or_one (ss.getD m 0 / 2 ^ k) with c | c
    · rw [c, Nat.zero_mul]; omega
    · rw [c, Nat.one_mul]; omega
theorem any_sum (l : List Int) (ss : List Nat) (n m : Nat) (hn : l.length = n) (hm : ss.length = m) : wtL l (someIn ss n) = wsum l fun k => anyP (ptn ss k m) := by
  rw [wtL_wsum]
  refine wsum_congr l _ _ fun k hk => ?_
  rw [some_bit ss k n (by omega), hm]
  have h := cnt_ptn ss k m
  unfold anyP
  by_cases c : ptn ss k m = 0
  · rw [if_pos c, if_neg (fun e => h.1 e c)]; rfl
  · rw [if_neg c, if_pos (h.2 c)]; rfl
theorem cap_le (ss : List Nat) (all s : Nat) : ∀ i, capM ss all s i ≤ all
  | 0 => Nat.le_refl _
  | i + 1 => by
    rw [capM]
    split
    · exact Nat.le_trans Nat.and_le_left (cap_le ss all s i)
    · exact cap_le ss all s i
/-- the sum when s sets of sets of size z + 1 have been looked at -/
def stZ (l : List Int) (ss : List Nat) (m z s : Nat) : Int := wsum l fun k => gZ m (ptn ss k m) z + gS m (ptn ss k m) (z + 1) s
theorem st_skip (l : List Int) (ss : List Nat) (m z s : Nat) (h : popM s m ≠ z + 1) : stZ l ss m z (s + 1) = stZ l ss m z s :=
  wsum_congr l _ _ fun k _ => by rw [gS, if_neg (fun e => h e.1), Int.add_zero]
theorem all_bit (n k : Nat) (h : k < n) : (2 ^ n - 1) / 2 ^ k % 2 = 1 := by
  have := Nat.testBit_two_pow_sub_one n k
  rw [Nat.testBit_eq_decide_div_mod_eq] at this
  simpa [h] using this
theorem st_add (l : List Int) (ss : List Nat) (n m z s : Nat) (hn : l.length = n) (h : popM s m = z + 1) :
    stZ l ss m z (s + 1) = stZ l ss m z s + (if (z + 1) % 2 = 1 then wtL l (capM ss (2 ^ n - 1) s m) else - wtL l (capM ss (2 ^ n - 1) s m)) := by
  have e : (if (z + 1) % 2 = 1 then wtL l (capM ss (2 ^ n - 1) s m) else - wtL l (capM ss (2 ^ n - 1) s m)) = wsum l fun k => if subM s (ptn ss k m) m = true then sgnZ (z + 1) else 0 := by
    by_cases c : (z + 1) % 2 = 1
    · rw [if_pos c, wtL_wsum]
      refine wsum_congr l _ _ fun k hk => ?_
      rw [cap_bit ss _ s k (all_bit n k (by omega)) m]
      unfold sgnZ; rw [if_pos c]; split <;> rfl
    · rw [if_neg c, wtL_wsum, ← wsum_neg]
      refine wsum_congr l _ _ fun k hk => ?_
      rw [cap_bit ss _ s k (all_bit n k (by omega)) m]
      unfold sgnZ; rw [if_neg c]; split <;> rfl
  rw [e]
  unfold stZ
  rw [← wsum_add]
  refine wsum_congr l _ _ fun k _ => ?_
  rw [gS]
  simp only [h, true_and]
  omega
theorem st_next (l : List Int) (ss : List Nat) (m z : Nat) : stZ l ss m z (2 ^ m) = stZ l ss m (z + 1) 0 :=
  wsum_congr l _ _ fun k _ => by rw [gS, Int.add_zero]; rfl
theorem st_zero (l : List Int) (ss : List Nat) (m : Nat) : stZ l ss m 0 0 = 0 := by
  have : stZ l ss m 0 0 = wsum l fun _ => 0 := wsum_congr l _ _ fun k _ => rfl
  rw [this, wsum_zero]
theorem st_odd (l : List Int) (ss : List Nat) (n m z : Nat) (hn : l.length = n) (hm : ss.length = m) (h7 : m < 7) (hp : ∀ x ∈ l, 0 ≤ x) (hz : z < m) (h : (z + 1) % 2 = 1) : wtL l (someIn ss n) ≤ stZ l ss m (z + 1) 0 := by
  rw [any_sum l ss n m hn hm]
  refine wsum_mono l _ _ hp fun k _ => ?_
  rw [gS, Int.add_zero]
  exact bonf_odd m _ z h7 (ptn_lt ss k m) hz h
theorem st_even (l : List Int) (ss : List Nat) (n m z : Nat) (hn : l.length = n) (hm : ss.length = m) (h7 : m < 7) (hp : ∀ x ∈ l, 0 ≤ x) (hz : z < m) (h : ¬ (z + 1) % 2 = 1) : stZ l ss m (z + 1) 0 ≤ wtL l (someIn ss n) := by
  rw [any_sum l ss n m hn hm]
  refine wsum_mono l _ _ hp fun k _ => ?_
  rw [gS, Int.add_zero]
  exact bonf_even m _ z h7 (ptn_lt ss k m) hz h
theorem st_end (l : List Int) (ss : List Nat) (n m : Nat) (hn : l.length = n) (hm : ss.length = m) (h7 : m < 7) : stZ l ss m m 0 = wtL l (someIn ss n) := by
  rw [any_sum l ss n m hn hm]
  refine wsum_congr l _ _ fun k _ => ?_
  rw [gS, Int.add_zero]
  exact bonf_end m _ h7 (ptn_lt ss k m)
end Go.Proofs.Ytliajiilcicppaa
