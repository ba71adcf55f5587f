/- Several of my texts in one: RankM. -/
import Derived.Test.YtbolgfiafbhicaaDoorDF10
/- Plain laws of Lehmer codes and ranks. -/
namespace Go.Proofs.YtbolgfiafbhicaaDoor
open Go.RowKit

def isumR : List Int → Int
  | [] => 0
  | x :: r => x + isumR r
theorem isumR_snoc (l : List Int) (x : Int) : isumR (l ++ [x]) = isumR l + x := by
  induction l with
  | nil => simp [isumR]
  | cons a l ih => rw [List.cons_append, isumR, isumR, ih]; omega
def lessC (x : Int) (l : List Int) : Nat := l.countP (fun y => decide (y < x))
theorem lessC_le (x : Int) (l : List Int) : lessC x l ≤ l.length := List.countP_le_length
theorem lessC_cons (x y : Int) (l : List Int) : lessC x (y :: l) = lessC x l + if y < x then 1 else 0 := by
  unfold lessC
  rw [List.countP_cons]; by_cases h : y < x <;> simp [h]
theorem lessC_snoc (x y : Int) (l : List Int) : lessC x (l ++ [y]) = lessC x l + if y < x then 1 else 0 := by
  unfold lessC
  rw [List.countP_append, List.countP_singleton]; by_cases h : y < x <;> simp [h]
def codeL : List Int → List Int
  | [] => []
  | x :: r => ((lessC x r : Nat) : Int) :: codeL r
theorem codeL_len : ∀ l, (codeL l).length = l.length
  | [] => rfl
  | x :: r => by rw [codeL, List.length_cons, List.length_cons, codeL_len r]
theorem codeL_nth : ∀ (l : List Int) (i : Nat), i < l.length → nth (codeL l) i = (lessC (nth l i) (l.drop (i + 1)) : Nat)
  | [], i, h => by simp at h
  | x :: r, 0, _ => by simp [codeL, nth]
  | x :: r, i + 1, h => by
    have := codeL_nth r i (by simpa using h)
    rw [codeL]
    have e1 : nth (((lessC x r : Nat) : Int) :: codeL r) (i + 1) = nth (codeL r) i := by simp [nth]
    have e2 : nth (x :: r) (i + 1) = nth r i := by simp [nth]
    rw [e1, e2, this]; rfl
theorem codeL_bd (l : List Int) (i : Nat) (h : i < l.length) : 0 ≤ nth (codeL l) i ∧ nth (codeL l) i ≤ (l.length : Int) - 1 - i := by
  rw [codeL_nth l i h]
  have := lessC_le (nth l i) (l.drop (i + 1))
  rw [List.length_drop] at this
  omega
/-- crossed pairs -/
def crossA : List Int → List Int → Int
  | _, [] => 0
  | pre, x :: r => ((pre.countP (fun y => decide (x < y)) : Nat) : Int) + crossA (pre ++ [x]) r
def upA : List Int → List Int → Int
  | _, [] => 0
  | pre, y :: r => ((pre.countP (fun z => decide (y < z)) : Nat) : Int) + upA pre r
theorem upA_snoc (pre : List Int) (x : Int) : ∀ r, upA (pre ++ [x]) r = upA pre r + (lessC x r : Nat)
  | [] => by simp [upA, lessC]
  | y :: r => by
    rw [upA, upA, upA_snoc pre x r, lessC_cons, List.countP_append, List.countP_singleton]
    by_cases h : y < x <;> simp [h] <;> omega
theorem crossA_code : ∀ (r pre : List Int), crossA pre r = upA pre r + isumR (codeL r)
  | [], _ => by simp [crossA, upA, codeL, isumR]
  | x :: r, pre => by
    rw [crossA, upA, codeL, isumR, crossA_code r (pre ++ [x]), upA_snoc]; omega
theorem upA_nil : ∀ r, upA [] r = 0
  | [] => rfl
  | y :: r => by rw [upA, upA_nil r]; rfl
theorem cross_code (l : List Int) : crossA [] l = isumR (codeL l) := by rw [crossA_code, upA_nil]; omega
/-! an order's numbers -/
theorem lessC_app (x : Int) (a b : List Int) : lessC x (a ++ b) = lessC x a + lessC x b := by simp [lessC]
theorem lessC_set (x : Int) : ∀ (l : List Int) (i : Nat) (v : Int), i < l.length → lessC x (l.set i v) + (if nth l i < x then 1 else 0) = lessC x l + if v < x then 1 else 0
  | [], _, _, h => by simp at h
  | y :: r, 0, v, _ => by
    rw [List.set_cons_zero, lessC_cons, lessC_cons]
    have : nth (y :: r) 0 = y := by simp [nth]
    rw [this]; omega
  | y :: r, i + 1, v, h => by
    rw [List.set_cons_succ, lessC_cons, lessC_cons]
    have : nth (y :: r) (i + 1) = nth r i := by simp [nth]
    rw [this]
    have := lessC_set x r i v (by simpa using h)
    omega
theorem lessC_swp (x : Int) (p : List Int) (a b : Nat) (ha : a < p.length) (hb : b < p.length) : lessC x (swp p a b) = lessC x p := by
  unfold swp
  have h1 := lessC_set x p a (nth p b) ha
  have h2 := lessC_set x (p.set a (nth p b)) b (nth p a) (by simpa using hb)
  rw [nth_set _ _ _ _ ha] at h2
  by_cases e : b = a
  · subst e; rw [if_pos rfl] at h2; omega
  · rw [if_neg e] at h2; omega
theorem lessC_isP : ∀ (n : Nat) (p : List Int), p.length = n → IsP p → ∀ x : Nat, x ≤ n → lessC x p = x
  | 0, p, hl, _, x, hx => by
    rw [List.eq_nil_of_length_eq_zero hl]
    have : x = 0 := by omega
    subst this; rfl
  | n + 1, p, hl, h, x, hx => by
    obtain ⟨a1, a2, a3, a4, a5⟩ := sw_unsw p n hl h
    have e : sw (unsw p n) n (idxL p n) = swp (unsw p n ++ [((unsw p n).length : Int)]) (unsw p n).length (idxL p n) := by
      rw [← sw_swp, a3]
    rw [← a5, e, lessC_swp _ _ _ _ (by simp) (by simp; omega), lessC_snoc, a3]
    by_cases hx2 : x ≤ n
    · rw [lessC_isP n _ a3 a4 x hx2, if_neg (by omega)]; rfl
    · obtain rfl : x = n + 1 := by omega
      rw [if_pos (by omega)]
      have : lessC ((n + 1 : Nat) : Int) (unsw p n) = (unsw p n).length := by
        unfold lessC
        rw [List.countP_eq_length]
        intro y hy
        obtain ⟨i, hi, e⟩ := List.getElem_of_mem hy
        have := (a4.bd i hi).2
        rw [a3] at this
        have e2 : nth (unsw p n) i = y := by rw [← e]; simp [nth, hi]
        rw [e2] at this
        simp; omega
      rw [this, a3]
/-- the numbers behind a place, told by those ahead of it -/
theorem lessC_drop {p : List Int} (h : IsP p) (i : Nat) (x : Nat) (hx : x ≤ p.length) : lessC x (p.take i) + lessC x (p.drop i) = x := by
  rw [← lessC_app, List.take_append_drop]; exact lessC_isP p.length p rfl h x hx
/-- unlike orders have unlike codes -/
theorem code_inj {a b : List Int} (ha : IsP a) (hb : IsP b) (hl : a.length = b.length) (he : codeL a = codeL b) : a = b := by
  -- all numbers ahead of i are the same, then so is the one at i
  have key : ∀ i, i ≤ a.length → a.take i = b.take i := by
    intro i
    induction i with
    | zero => intro _; rfl
    | succ i ih =>
      intro hi
      have e1 := ih (by omega)
      have c1 := codeL_nth a i (by omega)
      have c2 := codeL_nth b i (by omega)
      rw [he, c2] at c1
      obtain ⟨x1, hx1⟩ : ∃ x : Nat, nth a i = x := ⟨(nth a i).toNat, by have := ha.bd i (by omega); omega⟩
      obtain ⟨x2, hx2⟩ : ∃ x : Nat, nth b i = x := ⟨(nth b i).toNat, by have := hb.bd i (by omega); omega⟩
      have b1 := (ha.bd i (by omega)).2
      have b2 := (hb.bd i (by omega)).2
      have d1 := lessC_drop ha i x1 (by omega)
      have d2 := lessC_drop hb i x2 (by omega)
      have dr : ∀ (l : List Int), i < l.length → l.drop i = nth l i :: l.drop (i + 1) := fun l h => by
        rw [List.drop_eq_getElem_cons h]; simp [nth, h]
      rw [dr a (by omega), lessC_cons, hx1] at d1
      rw [dr b (by omega), lessC_cons, hx2] at d2
      rw [if_neg (by omega)] at d1 d2
      rw [hx1, hx2] at c1
      rw [e1] at d1
      -- the code is the same: the numbers left that are less are as many
      have : x1 = x2 := by
        rcases Nat.lt_trichotomy x1 x2 with hlt | heq | hgt
        · exfalso
          have hmono : lessC x2 (b.take i) ≤ lessC x1 (b.take i) + (x2 - x1) := by
            have e3 := lessC_drop hb i x1 (by omega)
            have e4 := lessC_drop hb i x2 (by omega)
            have : lessC x1 (b.drop i) ≤ lessC x2 (b.drop i) := by
              unfold lessC
              exact List.countP_mono_left (fun y _ h => by simp at h ⊢; omega)
            omega
          -- the places i.. of a: x1 itself is less than x2
          have e5 := lessC_drop ha i x2 (by omega)
          rw [dr a (by omega), lessC_cons, hx1, if_pos (by omega), e1] at e5
          have e6 : lessC x1 (a.drop (i + 1)) ≤ lessC x2 (a.drop (i + 1)) := by
            unfold lessC
            exact List.countP_mono_left (fun y _ h => by simp at h ⊢; omega)
          omega
        · exact heq
        · exfalso
          have e5 := lessC_drop hb i x1 (by omega)
          rw [dr b (by omega), lessC_cons, hx2, if_pos (by omega)] at e5
          have e6 : lessC x2 (b.drop (i + 1)) ≤ lessC x1 (b.drop (i + 1)) := by
            unfold lessC
            exact List.countP_mono_left (fun y _ h => by simp at h ⊢; omega)
          omega
      rw [take_nth a i (by omega), take_nth b i (by omega), e1, hx1, hx2, this]
  have := key a.length (Nat.le_refl _)
  rw [List.take_length, hl, List.take_length] at this
  exact this

/-! ranks -/
def facN : Nat → Nat
  | 0 => 1
  | n + 1 => (n + 1) * facN n
theorem facN_pos : ∀ n, 0 < facN n
  | 0 => by decide
  | n + 1 => by rw [facN]; exact Nat.mul_pos (by omega) (facN_pos n)
theorem facN_10 : ∀ n, n ≤ 10 → facN n ≤ 3628800 := by decide
def ofC : List Int → Int
  | [] => 0
  | c :: r => c * facN r.length + ofC r
def CodeOk : List Int → Prop
  | [] => True
  | c :: r => (0 ≤ c ∧ c ≤ r.length) ∧ CodeOk r
theorem codeL_ok : ∀ l, CodeOk (codeL l)
  | [] => trivial
  | x :: r => ⟨⟨by omega, by rw [codeL_len]; have := lessC_le x r; omega⟩, codeL_ok r⟩
theorem ofC_bd : ∀ c, CodeOk c → 0 ≤ ofC c ∧ ofC c < facN c.length
  | [], _ => by simp [ofC, facN]
  | c :: r, h => by
    obtain ⟨⟨h1, h2⟩, h3⟩ := h
    have ih := ofC_bd r h3
    rw [ofC, List.length_cons, facN]
    have hf := facN_pos r.length
    have m1 : 0 ≤ c * (facN r.length : Int) := Int.mul_nonneg h1 (by omega)
    have m2 : c * (facN r.length : Int) ≤ (r.length : Int) * facN r.length := Int.mul_le_mul_of_nonneg_right h2 (by omega)
    rw [Int.natCast_mul, Int.natCast_add, Int.add_mul]
    simp only [Int.natCast_one, Int.one_mul]
    omega
/-- ranks tell codes apart -/
theorem ofC_inj : ∀ a b, CodeOk a → CodeOk b → a.length = b.length → ofC a = ofC b → a = b
  | [], [], _, _, _, _ => rfl
  | [], _ :: _, _, _, h, _ => by simp at h
  | _ :: _, [], _, _, h, _ => by simp at h
  | x :: r, y :: s, ha, hb, hl, he => by
    have hl' : r.length = s.length := by simpa using hl
    have h1 := ofC_bd r ha.2
    have h2 := ofC_bd s hb.2
    rw [ofC, ofC, hl'] at he
    rw [hl'] at h1
    have hf := facN_pos s.length
    have hxy : x = y := by
      rcases Int.lt_trichotomy x y with h | h | h
      · exfalso
        have : (x + 1) * (facN s.length : Int) ≤ y * facN s.length := Int.mul_le_mul_of_nonneg_right (by omega) (by omega)
        rw [Int.add_mul] at this; omega
      · exact h
      · exfalso
        have : (y + 1) * (facN s.length : Int) ≤ x * facN s.length := Int.mul_le_mul_of_nonneg_right (by omega) (by omega)
        rw [Int.add_mul] at this; omega
    subst hxy
    rw [ofC_inj r s ha.2 hb.2 hl' (by omega)]
/-- each number m - 1 - v for v: the code turns -/
theorem code_turn (m : Int) : ∀ l : List Int, (∀ i j, i < l.length → j < l.length → nth l i = nth l j → i = j) → ofC (codeL (l.map (fun v => m - v))) + ofC (codeL l) = facN l.length - 1
  | [], _ => by simp [ofC, codeL, facN]
  | x :: r, h => by
    have hr : ∀ i j, i < r.length → j < r.length → nth r i = nth r j → i = j := fun i j hi hj e => by
      have := h (i + 1) (j + 1) (by simpa using hi) (by simpa using hj) (by simpa [nth] using e)
      omega
    have ih := code_turn m r hr
    rw [List.map_cons, codeL, codeL, ofC, ofC, codeL_len, codeL_len, List.length_map, List.length_cons, facN]
    have hne : ∀ y ∈ r, y ≠ x := fun y hy e => by
      obtain ⟨i, hi, e2⟩ := List.getElem_of_mem hy
      have := h 0 (i + 1) (by simp) (by simpa using hi) (by simp [nth, hi]; rw [e2, e])
      omega
    have hc : lessC (m - x) (r.map (fun v => m - v)) + lessC x r = r.length := by
      clear h ih hr
      induction r with
      | nil => rfl
      | cons y r ihr =>
        have := ihr (fun z hz => hne z (by simp [hz]))
        have hy := hne y (by simp)
        rw [List.map_cons, lessC_cons, lessC_cons, List.length_cons]
        by_cases h1 : y < x
        · rw [if_neg (by omega), if_pos h1]; omega
        · rw [if_pos (by omega), if_neg h1]; omega
    have e1 : ((lessC (m - x) (r.map (fun v => m - v)) : Nat) : Int) = (r.length : Int) - (lessC x r : Nat) := by omega
    rw [e1, Int.sub_mul, Int.natCast_mul, Int.natCast_add, Int.add_mul]
    simp only [Int.natCast_one, Int.one_mul]
    omega
/-- the forward sum of rank.Of -/
def horn (n : Nat) : List Int → Nat → Int → Int
  | [], _, out => out
  | c :: r, i, out => horn n r (i + 1) (out * ((n : Int) - i) + c)
theorem horn_of : ∀ (c : List Int) (n i : Nat) (out : Int), i + c.length = n → horn n c i out = out * facN c.length + ofC c
  | [], n, i, out, h => by simp [horn, facN, ofC]
  | x :: r, n, i, out, h => by
    rw [List.length_cons] at h
    rw [horn, horn_of r n (i + 1) _ (by omega), ofC, List.length_cons, facN]
    have e : (n : Int) - i = (r.length : Int) + 1 := by omega
    rw [e, Int.add_mul, Int.natCast_mul, Int.natCast_add]
    simp only [Int.natCast_one]
    rw [Int.mul_assoc]; omega
end Go.Proofs.YtbolgfiafbhicaaDoor
