/- Plain laws of weights of sets. -/
import Derived.Test.YtdabgibmbmhmdaaArr3
import Derived.Test.YtdabgibmbmhmdaaRat3
namespace Go.Proofs.Ytdabgibmbmhmdaa
open Go.RowKit

def isum : List Int → Int
  | [] => 0
  | x :: r => x + isum r
def wtL : List Int → Nat → Int
  | [], _ => 0
  | x :: r, s => (if s % 2 = 1 then x else 0) + wtL r (s / 2)
theorem wtL_snoc : ∀ (l : List Int) (x : Int) (s : Nat), wtL (l ++ [x]) s = wtL l s + if s / 2 ^ l.length % 2 = 1 then x else 0
  | [], x, s => by simp [wtL]
  | y :: r, x, s => by
    rw [List.cons_append, wtL, wtL, wtL_snoc r x (s / 2), List.length_cons, Nat.div_div_eq_div_mul, Nat.pow_succ, Nat.mul_comm 2]
    omega
theorem and_mod2' (a b : Nat) : (a &&& b) % 2 = if a % 2 = 1 ∧ b % 2 = 1 then 1 else 0 := by
  have h : (a &&& b) % 2 = (a % 2) &&& (b % 2) := by
    have := Nat.and_mod_two_pow (a := a) (b := b) (n := 1)
    simpa using this
  rw [h]
  rcases Nat.mod_two_eq_zero_or_one a with h1 | h1 <;> rcases Nat.mod_two_eq_zero_or_one b with h2 | h2 <;> rw [h1, h2] <;> rfl
theorem and_div2 (a b : Nat) : (a &&& b) / 2 = (a / 2) &&& (b / 2) := by
  have := Nat.and_div_two_pow (a := a) (b := b) (n := 1)
  simpa using this
theorem wtL_split : ∀ (l : List Int) (f a b : Nat), l.length ≤ f → b < 2 ^ f → wtL l (a &&& (2 ^ f - 1 - b)) + wtL l (a &&& b) = wtL l a
  | [], _, _, _, _, _ => by simp [wtL]
  | x :: r, 0, a, b, h, _ => by simp at h
  | x :: r, f + 1, a, b, h, hb => by
    have ih := wtL_split r f (a / 2) (b / 2) (by simpa using h) (by rw [Nat.pow_succ] at hb; omega)
    rw [wtL, wtL, wtL, and_div2, and_div2, and_mod2', and_mod2']
    have e1 : (2 ^ (f + 1) - 1 - b) / 2 = 2 ^ f - 1 - b / 2 := by rw [Nat.pow_succ] at *; generalize 2 ^ f = P at *; omega
    have e2 : (2 ^ (f + 1) - 1 - b) % 2 = 1 - b % 2 := by rw [Nat.pow_succ] at *; generalize 2 ^ f = P at *; omega
    rw [e1, e2]
    rcases Nat.mod_two_eq_zero_or_one a with h1 | h1 <;> rcases Nat.mod_two_eq_zero_or_one b with h2 | h2 <;> simp [h1, h2] <;> omega
theorem wtL_all : ∀ (l : List Int), wtL l (2 ^ l.length - 1) = isum l
  | [] => rfl
  | x :: r => by
    rw [wtL, isum, List.length_cons]
    have e1 : (2 ^ (r.length + 1) - 1) % 2 = 1 := by rw [Nat.pow_succ]; have := Nat.one_le_two_pow (n := r.length); omega
    have e2 : (2 ^ (r.length + 1) - 1) / 2 = 2 ^ r.length - 1 := by rw [Nat.pow_succ]; have := Nat.one_le_two_pow (n := r.length); omega
    rw [if_pos e1, e2, wtL_all r]
theorem wtL_comm (l : List Int) (a b : Nat) : wtL l (a &&& b) = wtL l (b &&& a) := by rw [Nat.and_comm]
theorem wtL_zero : ∀ l : List Int, wtL l 0 = 0
  | [] => rfl
  | x :: r => by rw [wtL]; simp [wtL_zero r]
def Pos (l : List Int) : Prop := ∀ x ∈ l, 1 ≤ x ∧ x ≤ 100
theorem wtL_bd : ∀ (l : List Int) (s : Nat), Pos l → 0 ≤ wtL l s ∧ wtL l s ≤ 100 * l.length
  | [], _, _ => by simp [wtL]
  | x :: r, s, h => by
    have h1 := h x (by simp)
    have h2 := wtL_bd r (s / 2) (fun y hy => h y (by simp [hy]))
    rw [wtL, List.length_cons]; split <;> omega
theorem wtL_pos : ∀ (l : List Int) (s : Nat), Pos l → 0 < s → s < 2 ^ l.length → 0 < wtL l s
  | [], s, _, h, h2 => by simp at h2; omega
  | x :: r, s, h, h0, h2 => by
    have h1 := h x (by simp)
    have hr : Pos r := fun y hy => h y (by simp [hy])
    rw [wtL]
    rw [List.length_cons, Nat.pow_succ] at h2
    rcases Nat.mod_two_eq_zero_or_one s with h3 | h3
    · rw [if_neg (by omega)]
      have := wtL_pos r (s / 2) hr (by omega) (by omega)
      omega
    · rw [if_pos h3]
      have := (wtL_bd r (s / 2) hr).1
      omega
theorem isum_bdP (l : List Int) (h : Pos l) (h0 : 0 < l.length) : 0 < isum l ∧ isum l ≤ 100 * l.length := by
  rw [← wtL_all]
  refine ⟨wtL_pos l _ h ?_ ?_, (wtL_bd l _ h).2⟩
  · have := Nat.one_lt_two_pow (n := l.length) (by omega); omega
  · have := Nat.one_le_two_pow (n := l.length); omega
theorem and_all (n a : Nat) (h : a < 2 ^ n) : (2 ^ n - 1) &&& a = a := by
  rw [Nat.and_comm, Nat.and_two_pow_sub_one_eq_mod, Nat.mod_eq_of_lt h]
/-- a without b, as the machine says it -/
def less16 (a b : Nat) : Nat := a &&& (65535 - b)
theorem wtL_less (l : List Int) (a b : Nat) (h : l.length ≤ 12) (hb : b < 65536) : wtL l (less16 a b) + wtL l (a &&& b) = wtL l a := wtL_split l 16 a b (by omega) hb
theorem less16_lt (n a b : Nat) (h : a < 2 ^ n) : less16 a b < 2 ^ n := Nat.lt_of_le_of_lt Nat.and_le_left h
theorem and_lt' (n a b : Nat) (h : a < 2 ^ n) : a &&& b < 2 ^ n := Nat.lt_of_le_of_lt Nat.and_le_left h

/-! Check -/
def chkE (l : List Int) (ss : List Nat) : Int :=
  if l.length < 1 ∨ 12 < l.length then 2 else if l.any (fun x => decide (x < 1 ∨ 100 < x)) then 1 else if ss.any (fun s => decide (2 ^ l.length ≤ s)) then 3 else 0
theorem chkE_ok {l : List Int} {ss : List Nat} (h : chkE l ss = 0) : 1 ≤ l.length ∧ l.length ≤ 12 ∧ Pos l ∧ ∀ s ∈ ss, s < 2 ^ l.length := by
  unfold chkE at h
  split at h
  · cases h
  · split at h
    · cases h
    · split at h
      · cases h
      · next h1 h2 h3 =>
        refine ⟨by omega, by omega, fun x hx => ?_, fun s hs => ?_⟩
        · simp only [List.any_eq_true, not_exists, not_and] at h2
          have := h2 x hx
          simp at this; omega
        · simp only [List.any_eq_true, not_exists, not_and] at h3
          have := h3 s hs
          simpa using this
theorem chkE_yes {l : List Int} {ss : List Nat} (h1 : 1 ≤ l.length) (h2 : l.length ≤ 12) (h3 : Pos l) (h4 : ∀ s ∈ ss, s < 2 ^ l.length) : chkE l ss = 0 := by
  unfold chkE
  rw [if_neg (by omega), if_neg, if_neg]
  · simp only [List.any_eq_true, not_exists, not_and]; intro s hs; have := h4 s hs; simpa using this
  · simp only [List.any_eq_true, not_exists, not_and]; intro x hx; have := h3 x hx; simp; omega
theorem chkE_swap (l : List Int) (a b : Nat) : chkE l [a, b] = chkE l [b, a] := by
  unfold chkE
  have : [a, b].any (fun s => decide (2 ^ l.length ≤ s)) = [b, a].any (fun s => decide (2 ^ l.length ≤ s)) := by simp [Bool.or_comm]
  rw [this]
theorem chkE_bd (l : List Int) (ss : List Nat) : 0 ≤ chkE l ss ∧ chkE l ss ≤ 3 := by unfold chkE; split <;> (try split) <;> (try split) <;> omega
end Go.Proofs.Ytdabgibmbmhmdaa
