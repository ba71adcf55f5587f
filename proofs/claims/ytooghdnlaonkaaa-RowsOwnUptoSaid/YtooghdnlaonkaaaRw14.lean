/- Several of my texts in one: RankN. -/
import Derived.Test.YtooghdnlaonkaaaRw13
/- Plain laws of the next order. -/
namespace Go.Proofs.Ytooghdnlaonkaaa
open Go.RowKit

theorem drop_nth (l : List Int) (i : Nat) (h : i < l.length) : l.drop i = nth l i :: l.drop (i + 1) := by
  rw [List.drop_eq_getElem_cons h]; simp [nth, h]
theorem rank_drop (p : List Int) (j : Nat) (h : j < p.length) : ofC (codeL (p.drop j)) = (lessC (nth p j) (p.drop (j + 1)) : Nat) * (facN (p.length - (j + 1)) : Nat) + ofC (codeL (p.drop (j + 1))) := by
  rw [drop_nth p j h, codeL, ofC, codeL_len, List.length_drop]
theorem isP_nat {p : List Int} (h : IsP p) (i : Nat) (hi : i < p.length) : ∃ x : Nat, nth p i = x ∧ x < p.length := ⟨(nth p i).toNat, by have := h.bd i hi; omega, by have := h.bd i hi; omega⟩
theorem nth_of_take {a b : List Int} {i : Nat} (h : a.take (i + 1) = b.take (i + 1)) : nth a i = nth b i := by
  rw [← nth_take a (i + 1) i (by omega), h, nth_take _ _ _ (by omega)]
theorem take_of_take {a b : List Int} {i : Nat} (h : a.take (i + 1) = b.take (i + 1)) : a.take i = b.take i := by
  have := congrArg (List.take i) h
  rw [List.take_take, List.take_take, Nat.min_eq_left (by omega)] at this
  exact this
theorem less_same {a b : List Int} (ha : IsP a) (hb : IsP b) (hl : a.length = b.length) (i : Nat) (h : a.take i = b.take i) (x : Nat) (hx : x ≤ a.length) : lessC x (a.drop i) = lessC x (b.drop i) := by
  have h1 := lessC_drop ha i x hx
  have h2 := lessC_drop hb i x (by omega)
  rw [h] at h1; omega
/-- what lies ahead counts the same -/
theorem rank_head {a b : List Int} (ha : IsP a) (hb : IsP b) (hl : a.length = b.length) : ∀ i, i ≤ a.length → a.take i = b.take i → ofC (codeL a) - ofC (codeL (a.drop i)) = ofC (codeL b) - ofC (codeL (b.drop i))
  | 0, _, _ => by rw [List.drop_zero, List.drop_zero]; omega
  | i + 1, hi, h => by
    have ih := rank_head ha hb hl i (by omega) (take_of_take h)
    have e := nth_of_take h
    rw [rank_drop a i (by omega), rank_drop b i (by omega), e] at ih
    obtain ⟨x, hx, hx2⟩ := isP_nat hb i (by omega)
    rw [hx, less_same ha hb hl (i + 1) h x (by omega), hl] at ih
    omega
theorem less_at {a : List Int} (i : Nat) (hi : i < a.length) (y : Int) : lessC y (a.drop i) = lessC y (a.drop (i + 1)) + if nth a i < y then 1 else 0 := by rw [drop_nth a i hi, lessC_cons]
theorem lessC_mono {x y : Int} (h : x ≤ y) (l : List Int) : lessC x l ≤ lessC y l := by
  unfold lessC
  exact List.countP_mono_left (fun z _ h => by simp at h ⊢; omega)
theorem rest_bd (p : List Int) (i : Nat) : 0 ≤ ofC (codeL (p.drop i)) ∧ ofC (codeL (p.drop i)) < facN (p.length - i) := by
  have := ofC_bd _ (codeL_ok (p.drop i))
  rw [codeL_len, List.length_drop] at this; exact this
theorem rank_lt {a b : List Int} (ha : IsP a) (hb : IsP b) (hl : a.length = b.length) (i : Nat) (hi : i < a.length) (h : a.take i = b.take i) (hlt : nth a i < nth b i) : ofC (codeL a) < ofC (codeL b) := by
  have h0 := rank_head ha hb hl i (by omega) h
  rw [rank_drop a i hi, rank_drop b i (by omega)] at h0
  obtain ⟨x, hx, hx2⟩ := isP_nat ha i hi
  obtain ⟨y, hy, hy2⟩ := isP_nat hb i (by omega)
  have h1 := less_same ha hb hl i h y (by omega)
  rw [less_at i hi, less_at i (by omega), hy, hx, if_pos (by omega), if_neg (by omega)] at h1
  have h2 := lessC_mono (show (x : Int) ≤ y by omega) (a.drop (i + 1))
  have h3 := rest_bd a (i + 1)
  have h4 := rest_bd b (i + 1)
  rw [hx, hy, hl] at h0
  rw [hl] at h3
  have h5 : ((lessC (x : Int) (a.drop (i + 1)) + 1 : Nat) : Int) * (facN (b.length - (i + 1)) : Nat) ≤ (lessC (y : Int) (b.drop (i + 1)) : Nat) * (facN (b.length - (i + 1)) : Nat) := Int.mul_le_mul_of_nonneg_right (by omega) (by omega)
  rw [Int.natCast_add, Int.add_mul] at h5
  simp only [Int.natCast_one, Int.one_mul] at h5
  omega
/-! runs -/
def DecF (p : List Int) (s : Nat) : Prop := ∀ i j, s ≤ i → i < j → j < p.length → nth p j < nth p i
def IncF (p : List Int) (s : Nat) : Prop := ∀ i j, s ≤ i → i < j → j < p.length → nth p i < nth p j
theorem DecF.more {p : List Int} {s : Nat} (h : DecF p s) : DecF p (s + 1) := fun i j h1 h2 h3 => h i j (by omega) h2 h3
theorem IncF.more {p : List Int} {s : Nat} (h : IncF p s) : IncF p (s + 1) := fun i j h1 h2 h3 => h i j (by omega) h2 h3
theorem mem_drop {p : List Int} {s : Nat} {y : Int} (h : y ∈ p.drop s) : ∃ i, s ≤ i ∧ i < p.length ∧ nth p i = y := by
  obtain ⟨i, hi, e⟩ := List.getElem_of_mem h
  rw [List.length_drop] at hi
  rw [List.getElem_drop] at e
  exact ⟨s + i, by omega, by omega, by rw [← e]; simp [nth, show s + i < p.length from by omega]⟩
theorem dec_code (p : List Int) : ∀ m s, p.length - s = m → s ≤ p.length → DecF p s → ofC (codeL (p.drop s)) + 1 = (facN m : Nat)
  | 0, s, h, hs, _ => by rw [List.drop_of_length_le (by omega)]; rfl
  | m + 1, s, h, hs, hd => by
    have ih := dec_code p m (s + 1) (by omega) (by omega) hd.more
    have e : lessC (nth p s) (p.drop (s + 1)) = m := by
      have : lessC (nth p s) (p.drop (s + 1)) = (p.drop (s + 1)).length := by
        unfold lessC
        rw [List.countP_eq_length]
        intro y hy
        obtain ⟨i, h1, h2, rfl⟩ := mem_drop hy
        have := hd s i (by omega) (by omega) h2
        simp; omega
      rw [this, List.length_drop]; omega
    rw [rank_drop p s (by omega), e, show p.length - (s + 1) = m from by omega, facN, Int.natCast_mul, Int.natCast_add, Int.add_mul]
    simp only [Int.natCast_one, Int.one_mul]
    omega
theorem inc_code (p : List Int) : ∀ m s, p.length - s = m → s ≤ p.length → IncF p s → ofC (codeL (p.drop s)) = 0
  | 0, s, h, hs, _ => by rw [List.drop_of_length_le (by omega)]; rfl
  | m + 1, s, h, hs, hd => by
    have ih := inc_code p m (s + 1) (by omega) (by omega) hd.more
    have e : lessC (nth p s) (p.drop (s + 1)) = 0 := by
      unfold lessC
      rw [List.countP_eq_zero]
      intro y hy
      obtain ⟨i, h1, h2, rfl⟩ := mem_drop hy
      have := hd s i (by omega) (by omega) h2
      simp; omega
    rw [rank_drop p s (by omega), e, ih]; simp
/-! the next one -/
structure NextOf (p q : List Int) (i : Nat) : Prop where
  len : q.length = p.length
  lt : i < p.length
  tk : p.take i = q.take i
  isP : IsP q
  up : nth p i < nth q i
  gap : ∀ j, i < j → j < p.length → nth p j < nth q i → nth p j < nth p i
  dec : DecF p (i + 1)
  inc : IncF q (i + 1)
theorem next_rank {p q : List Int} {i : Nat} (hp : IsP p) (h : NextOf p q i) : ofC (codeL q) = ofC (codeL p) + 1 := by
  have hlt := h.lt
  have hlen := h.len
  have h0 := rank_head hp h.isP h.len.symm i (by omega) h.tk
  rw [rank_drop p i hlt, rank_drop q i (by omega), h.len] at h0
  have h1 := dec_code p _ (i + 1) rfl (by omega) h.dec
  have h2 := inc_code q _ (i + 1) rfl (by omega) h.inc
  obtain ⟨x, hx, hx2⟩ := isP_nat hp i hlt
  obtain ⟨y, hy, hy2⟩ := isP_nat h.isP i (by omega)
  have up := h.up
  have h3 := less_same hp h.isP h.len.symm i h.tk y (by omega)
  rw [less_at i hlt, less_at i (by omega), hy, hx, if_pos (by omega), if_neg (by omega)] at h3
  have h4 : lessC (y : Int) (p.drop (i + 1)) = lessC (x : Int) (p.drop (i + 1)) := by
    refine Nat.le_antisymm ?_ (lessC_mono (by omega) _)
    unfold lessC
    refine List.countP_mono_left (fun z hz hzy => ?_)
    obtain ⟨j, j1, j2, rfl⟩ := mem_drop hz
    have g := h.gap j (by omega) j2 (by rw [hy]; simpa using hzy)
    rw [hx] at g
    simp; omega
  have h5 : lessC (y : Int) (q.drop (i + 1)) = lessC (y : Int) (p.drop (i + 1)) + 1 := by omega
  rw [hx, hy, h5, h4, h2, Int.natCast_add, Int.add_mul] at h0
  simp only [Int.natCast_one, Int.one_mul] at h0
  omega
theorem IsP.revSeg {p : List Int} (h : IsP p) (off m : Nat) (hm : off + m = p.length) : IsP (revSeg off m p) := by
  refine ⟨fun i hi => ?_, fun i j hi hj e => ?_⟩
  · rw [revSeg_len] at hi ⊢
    rw [revSeg_nth _ _ _ _ hi]
    split
    · exact h.bd _ (by omega)
    · exact h.bd i hi
  · rw [revSeg_len] at hi hj
    rw [revSeg_nth _ _ _ _ hi, revSeg_nth _ _ _ _ hj] at e
    split at e <;> split at e <;> have := h.inj _ _ (by omega) (by omega) e <;> omega
theorem next_of {p : List Int} (hp : IsP p) (n i k : Nat) (hn : p.length = n) (hi : i + 1 < n) (hd : DecF p (i + 1)) (hik : i < k) (hk : k < n) (hlt : nth p i < nth p k) (hg : ∀ j, k < j → j < n → nth p j < nth p i) :
    NextOf p (revSeg (i + 1) (n - (i + 1)) (swp p i k)) i := by
  have sl := swp_len p i k
  have sn := fun t => swp_nth p i k t (by omega) (by omega)
  have ui : nth (revSeg (i + 1) (n - (i + 1)) (swp p i k)) i = nth p k := by
    rw [revSeg_nth _ _ _ _ (by omega), if_neg (by omega), sn, if_neg (by omega), if_pos rfl]
  refine ⟨by rw [revSeg_len, sl], by omega, ?_, (hp.swp (by omega) (by omega)).revSeg _ _ (by omega), by rw [ui]; exact hlt, fun j h1 h2 h3 => ?_, hd, fun u v h1 h2 h3 => ?_⟩
  · refine ext_nth (by rw [List.length_take, List.length_take, revSeg_len, sl]) (fun t ht => ?_)
    rw [List.length_take] at ht
    rw [nth_take _ _ _ (by omega), nth_take _ _ _ (by omega), revSeg_nth _ _ _ _ (by omega), if_neg (by omega), sn, if_neg (by omega), if_neg (by omega)]
  · rw [ui] at h3
    refine hg j ?_ (by omega)
    rcases Nat.lt_trichotomy j k with h | h | h
    · have := hd j k (by omega) h (by omega); omega
    · subst h; omega
    · exact h
  · rw [revSeg_len, sl] at h3
    rw [revSeg_nth _ _ _ _ (by omega), revSeg_nth _ _ _ _ (by omega), if_pos (by omega), if_pos (by omega), sn, sn]
    generalize hU : i + 1 + (i + 1) + (n - (i + 1)) - 1 - u = U
    generalize hV : i + 1 + (i + 1) + (n - (i + 1)) - 1 - v = V
    by_cases e1 : U = k
    · rw [if_pos e1, if_neg (by omega), if_neg (by omega)]
      have := hd V k (by omega) (by omega) (by omega); omega
    · by_cases e2 : V = k
      · rw [if_neg e1, if_pos e2, if_neg (by omega)]
        exact hg U (by omega) (by omega)
      · rw [if_neg e1, if_neg e2, if_neg (by omega), if_neg (by omega)]
        exact hd V U (by omega) (by omega) (by omega)
theorem last_rank {p : List Int} (h : DecF p 0) : ofC (codeL p) + 1 = (facN p.length : Nat) := by
  have := dec_code p p.length 0 (by omega) (by omega) h
  rwa [List.drop_zero] at this
theorem rank_bd (p : List Int) : 0 ≤ ofC (codeL p) ∧ ofC (codeL p) < (facN p.length : Nat) := by
  have := rest_bd p 0
  rwa [List.drop_zero, Nat.sub_zero] at this
/-! lexicographic -/
def cmp2 (x y : Int) : Int := if x < y then -1 else if y < x then 1 else 0
def lexC : List Int → List Int → Int
  | a :: l, b :: m => if cmp2 a b = 0 then lexC l m else cmp2 a b
  | _, _ => 0
theorem lexC_drop (l m : List Int) (k : Nat) (h : k < l.length) (h' : k < m.length) :
    lexC (l.drop k) (m.drop k) = if cmp2 (nth l k) (nth m k) = 0 then lexC (l.drop (k + 1)) (m.drop (k + 1)) else cmp2 (nth l k) (nth m k) := by
  rw [drop_nth l k h, drop_nth m k h', lexC]
theorem lexC_self : ∀ l, lexC l l = 0
  | [] => rfl
  | x :: l => by rw [lexC, if_pos (by unfold cmp2; simp), lexC_self l]
theorem lexC_first {a b : List Int} (hl : a.length = b.length) : ∀ i, i < a.length → a.take i = b.take i → lexC a b = lexC (a.drop i) (b.drop i)
  | 0, _, _ => by simp
  | i + 1, hi, h => by
    rw [lexC_first hl i (by omega) (take_of_take h), lexC_drop _ _ _ (by omega) (by omega), nth_of_take h, if_pos (by unfold cmp2; simp)]
theorem lexC_at {a b : List Int} (hl : a.length = b.length) (i : Nat) (hi : i < a.length) (h : a.take i = b.take i) (hne : nth a i ≠ nth b i) : lexC a b = if nth a i < nth b i then -1 else 1 := by
  rw [lexC_first hl i hi h, lexC_drop _ _ _ hi (by omega)]
  unfold cmp2
  by_cases h1 : nth a i < nth b i
  · simp [h1]
  · have h2 : nth b i < nth a i := by omega
    simp [h1, h2]
theorem first_diff : ∀ (n : Nat) (a b : List Int), a.length = n → b.length = n → a = b ∨ ∃ i, i < n ∧ a.take i = b.take i ∧ nth a i ≠ nth b i := by
  intro n a b ha hb
  have key : ∀ k, k ≤ n → a.take k = b.take k ∨ ∃ i, i < n ∧ a.take i = b.take i ∧ nth a i ≠ nth b i := by
    intro k
    induction k with
    | zero => intro _; exact .inl (by simp)
    | succ k ih =>
      intro hk
      rcases ih (by omega) with h | h
      · by_cases e : nth a k = nth b k
        · exact .inl (by rw [take_nth a k (by omega), take_nth b k (by omega), h, e])
        · exact .inr ⟨k, by omega, h, e⟩
      · exact .inr h
  rcases key n (Nat.le_refl _) with h | h
  · rw [List.take_of_length_le (by omega), List.take_of_length_le (by omega)] at h; exact .inl h
  · exact .inr h
/-- the order of words is the order of ranks -/
theorem lex_rank {a b : List Int} (ha : IsP a) (hb : IsP b) (hl : a.length = b.length) : decide (lexC a b < 0) = decide (ofC (codeL a) < ofC (codeL b)) := by
  rcases first_diff _ a b rfl hl.symm with rfl | ⟨i, hi, ht, hne⟩
  · rw [lexC_self]; simp
  · rw [lexC_at hl i hi ht hne]
    rcases Int.lt_or_lt_of_ne hne with h | h
    · rw [if_pos h]
      have := rank_lt ha hb hl i hi ht h
      rw [decide_eq_true this]; decide
    · rw [if_neg (by omega)]
      have := rank_lt hb ha hl.symm i (by omega) ht.symm h
      rw [decide_eq_false (by omega : ¬ ofC (codeL a) < ofC (codeL b))]; decide
theorem next_lex {p q : List Int} {i : Nat} (h : NextOf p q i) : lexC p q = -1 := by
  have := h.up
  rw [lexC_at h.len.symm i h.lt h.tk (by omega), if_pos h.up]
end Go.Proofs.Ytooghdnlaonkaaa
