/- Several of my texts in one: LinM. -/
import Derived.Test.YtooghdnlaonkaaaRw08
/- Plain law of package lines: the longest row of places. -/
namespace Go.Proofs.Ytooghdnlaonkaaa
open Go.RowKit

section
variable (may : Int → Int → Bool)
def rowAt (A : List (List Int)) (k : Nat) : List Int := A.getD k []
/-- the longest of the first k rows behind which x may stand -/
def pickK (l : List Int) (A : List (List Int)) (x : Int) : Nat → List Int
  | 0 => []
  | k + 1 => if may (nth l k) x = true ∧ (pickK l A x k).length < (rowAt A k).length then rowAt A k else pickK l A x k
def rowsK (l : List Int) : Nat → List (List Int)
  | 0 => []
  | i + 1 => rowsK l i ++ [pickK may l (rowsK l i) (nth l i) i ++ [(i : Int)]]
def bestK (l : List Int) : Nat → List Int
  | 0 => []
  | i + 1 => if (bestK l i).length < (rowAt (rowsK may l (i + 1)) i).length then rowAt (rowsK may l (i + 1)) i else bestK l i
end
theorem rowsK_len (may : Int → Int → Bool) (l : List Int) : ∀ i, (rowsK may l i).length = i
  | 0 => rfl
  | i + 1 => by rw [rowsK, List.length_append, rowsK_len may l i]; rfl
theorem rowAt_old (A B : List (List Int)) (k : Nat) (h : k < A.length) : rowAt (A ++ B) k = rowAt A k := by
  unfold rowAt; rw [List.getD_eq_getElem?_getD, List.getD_eq_getElem?_getD, List.getElem?_append_left h]
theorem rowAt_new (A : List (List Int)) (r : List Int) : rowAt (A ++ [r]) A.length = r := by
  unfold rowAt; rw [List.getD_eq_getElem?_getD, List.getElem?_append_right (Nat.le_refl _)]; simp
theorem rowsK_last (may : Int → Int → Bool) (l : List Int) (i : Nat) : rowAt (rowsK may l (i + 1)) i = pickK may l (rowsK may l i) (nth l i) i ++ [(i : Int)] := by
  rw [rowsK]
  have := rowAt_new (rowsK may l i) (pickK may l (rowsK may l i) (nth l i) i ++ [(i : Int)])
  rwa [rowsK_len] at this
/-- how long the row is that ends at i -/
def dL (may : Int → Int → Bool) (l : List Int) (i : Nat) : Nat := (rowAt (rowsK may l (i + 1)) i).length
theorem rowsK_at (may : Int → Int → Bool) (l : List Int) (k : Nat) : ∀ i, k < i → rowAt (rowsK may l i) k = rowAt (rowsK may l (k + 1)) k
  | 0, h => by omega
  | i + 1, h => by
    by_cases e : k = i
    · subst e; rfl
    · rw [show rowsK may l (i + 1) = rowsK may l i ++ [pickK may l (rowsK may l i) (nth l i) i ++ [(i : Int)]] from rfl, rowAt_old _ _ _ (by rw [rowsK_len]; omega), rowsK_at may l k i (by omega)]
theorem pick_ge (may : Int → Int → Bool) (l : List Int) (A : List (List Int)) (x : Int) : ∀ k j, j < k → may (nth l j) x = true → (rowAt A j).length ≤ (pickK may l A x k).length
  | 0, j, h, _ => by omega
  | k + 1, j, h, hm => by
    rw [pickK]
    by_cases e : j = k
    · subst e
      split
      · exact Nat.le_refl _
      · next c => have : ¬ (pickK may l A x j).length < (rowAt A j).length := fun c' => c ⟨hm, c'⟩
                  omega
    · have ih := pick_ge may l A x k j (by omega) hm
      split
      · next c => omega
      · exact ih
theorem pick_is (may : Int → Int → Bool) (l : List Int) (A : List (List Int)) (x : Int) : ∀ k, pickK may l A x k = [] ∨ ∃ j, j < k ∧ may (nth l j) x = true ∧ pickK may l A x k = rowAt A j
  | 0 => .inl rfl
  | k + 1 => by
    rw [pickK]
    split
    · next c => exact .inr ⟨k, by omega, c.1, rfl⟩
    · rcases pick_is may l A x k with h | ⟨j, hj, hm, e⟩
      · exact .inl h
      · exact .inr ⟨j, by omega, hm, e⟩
theorem dL_eq (may : Int → Int → Bool) (l : List Int) (i : Nat) : dL may l i = (pickK may l (rowsK may l i) (nth l i) i).length + 1 := by
  unfold dL; rw [rowsK_last, List.length_append]; rfl
/-- what may stand behind makes it longer -/
theorem dL_lt (may : Int → Int → Bool) (l : List Int) (i j : Nat) (h : i < j) (hm : may (nth l i) (nth l j) = true) : dL may l i < dL may l j := by
  have := pick_ge may l (rowsK may l j) (nth l j) j i h hm
  rw [rowsK_at may l i j h] at this
  rw [dL_eq may l j]
  unfold dL; omega
theorem dL_from (may : Int → Int → Bool) (l : List Int) (i : Nat) : dL may l i = 1 ∨ ∃ j, j < i ∧ may (nth l j) (nth l i) = true ∧ dL may l i = dL may l j + 1 := by
  rw [dL_eq]
  rcases pick_is may l (rowsK may l i) (nth l i) i with h | ⟨j, hj, hm, e⟩
  · left; rw [h]; rfl
  · right; exact ⟨j, hj, hm, by rw [e, rowsK_at may l j i hj]; rfl⟩
theorem dL_bd (may : Int → Int → Bool) (l : List Int) : ∀ i, 1 ≤ dL may l i ∧ dL may l i ≤ i + 1 := fun i => by
  induction i using Nat.strongRecOn with
  | _ i ih =>
    rcases dL_from may l i with h | ⟨j, hj, _, h⟩
    · omega
    · have := ih j hj; omega
theorem best_ge (may : Int → Int → Bool) (l : List Int) : ∀ n i, i < n → dL may l i ≤ (bestK may l n).length
  | 0, i, h => by omega
  | n + 1, i, h => by
    rw [bestK]
    by_cases e : i = n
    · subst e; split
      · exact Nat.le_refl _
      · unfold dL; omega
    · have := best_ge may l n i (by omega)
      split <;> omega
theorem best_is (may : Int → Int → Bool) (l : List Int) : ∀ n, (n = 0 ∧ bestK may l n = []) ∨ ∃ i, i < n ∧ (bestK may l n).length = dL may l i
  | 0 => .inl ⟨rfl, rfl⟩
  | n + 1 => by
    rw [bestK]
    split
    · exact .inr ⟨n, by omega, rfl⟩
    · next c =>
      rcases best_is may l n with ⟨h1, h2⟩ | ⟨i, hi, e⟩
      · subst h1
        rw [h2] at c
        have := dL_bd may l 0
        unfold dL at this
        exact absurd (show ([] : List Int).length < (rowAt (rowsK may l (0 + 1)) 0).length by rw [List.length_nil]; omega) c
      · exact .inr ⟨i, by omega, e⟩
theorem best_le (may : Int → Int → Bool) (l : List Int) (n : Nat) : (bestK may l n).length ≤ n := by
  rcases best_is may l n with ⟨h1, h2⟩ | ⟨i, hi, e⟩
  · rw [h2]; simp
  · have := dL_bd may l i; omega
/-- ERDOES, SZEKERES -/
theorem long_both (l : List Int) (n : Nat) : n ≤ (bestK (fun a b => decide (a < b)) l n).length * (bestK (fun a b => decide (b ≤ a)) l n).length := by
  generalize hU : (bestK (fun a b => decide (a < b)) l n).length = U
  generalize hD : (bestK (fun a b => decide (b ≤ a)) l n).length = D
  have bu : ∀ i, i < n → 1 ≤ dL (fun a b => decide (a < b)) l i ∧ dL (fun a b => decide (a < b)) l i ≤ U := fun i hi => ⟨(dL_bd _ l i).1, by rw [← hU]; exact best_ge _ l n i hi⟩
  have bd : ∀ i, i < n → 1 ≤ dL (fun a b => decide (b ≤ a)) l i ∧ dL (fun a b => decide (b ≤ a)) l i ≤ D := fun i hi => ⟨(dL_bd _ l i).1, by rw [← hD]; exact best_ge _ l n i hi⟩
  have code : ∀ u d u' d' : Nat, u < U → d < D → u' < U → d' < D → u * D + d = u' * D + d' → u = u' ∧ d = d' := fun u d u' d' _ h2 _ h4 e => by
    have e1 : (u * D + d) / D = u := by rw [Nat.mul_comm, Nat.mul_add_div (by omega), Nat.div_eq_of_lt h2]; rfl
    have e2 : (u' * D + d') / D = u' := by rw [Nat.mul_comm, Nat.mul_add_div (by omega), Nat.div_eq_of_lt h4]; rfl
    have : u = u' := by rw [← e1, ← e2, e]
    subst this
    exact ⟨rfl, by omega⟩
  have nd : ((List.range n).map fun i => (dL (fun a b => decide (a < b)) l i - 1) * D + (dL (fun a b => decide (b ≤ a)) l i - 1)).Nodup := by
    unfold List.Nodup
    rw [List.pairwise_map]
    refine List.Pairwise.imp_of_mem ?_ (List.pairwise_lt_range (n := n))
    intro i j hi hj hij e
    have hi := List.mem_range.1 hi
    have hj := List.mem_range.1 hj
    have u1 := bu i hi; have u2 := bu j hj; have d1 := bd i hi; have d2 := bd j hj
    obtain ⟨e1, e2⟩ := code _ _ _ _ (by omega) (by omega) (by omega) (by omega) e
    rcases Int.lt_or_le (nth l i) (nth l j) with c | c
    · have := dL_lt (fun a b => decide (a < b)) l i j hij (by simpa using c); omega
    · have := dL_lt (fun a b => decide (b ≤ a)) l i j hij (by simpa using c); omega
  have := List.Nodup.length_le_of_subset (l₂ := List.range (U * D)) nd (fun x hx => by
    obtain ⟨i, hi, rfl⟩ := List.mem_map.1 hx
    have hi := List.mem_range.1 hi
    have u1 := bu i hi; have d1 := bd i hi
    refine List.mem_range.2 ?_
    have h1 : (dL (fun a b => decide (a < b)) l i - 1) * D + D ≤ U * D := by
      have : (dL (fun a b => decide (a < b)) l i - 1 + 1) * D ≤ U * D := Nat.mul_le_mul_right D (by omega)
      rwa [Nat.add_mul, Nat.one_mul] at this
    omega)
  simpa using this

/-! only what is ahead counts -/
theorem rowsK_pre (may : Int → Int → Bool) (l m : List Int) : ∀ n, (∀ i, i < n → nth l i = nth m i) → rowsK may l n = rowsK may m n
  | 0, _ => rfl
  | n + 1, h => by
    have ih := rowsK_pre may l m n fun i hi => h i (by omega)
    rw [rowsK, rowsK, ih, h n (by omega)]
    have : ∀ k, k ≤ n → pickK may l (rowsK may m n) (nth m n) k = pickK may m (rowsK may m n) (nth m n) k := fun k => by
      induction k with
      | zero => intro _; rfl
      | succ k ihk => intro hk; rw [pickK, pickK, ihk (by omega), h k (by omega)]
    rw [this n (Nat.le_refl _)]
theorem bestK_pre (may : Int → Int → Bool) (l m : List Int) : ∀ n, (∀ i, i < n → nth l i = nth m i) → bestK may l n = bestK may m n
  | 0, _ => rfl
  | n + 1, h => by rw [bestK, bestK, bestK_pre may l m n (fun i hi => h i (by omega)), rowsK_pre may l m (n + 1) h]
theorem best_more (may : Int → Int → Bool) (l : List Int) (n : Nat) : (bestK may l n).length ≤ (bestK may l (n + 1)).length ∧ (bestK may l (n + 1)).length ≤ (bestK may l n).length + 1 := by
  have hd : dL may l n ≤ (bestK may l n).length + 1 := by
    rcases dL_from may l n with h | ⟨j, hj, _, h⟩
    · omega
    · have := best_ge may l n j hj; omega
  rw [bestK]
  unfold dL at hd
  split <;> omega
/-! chains -/
/-- m places, one behind the other, each of which may stand behind the one ahead -/
def Chn (may : Int → Int → Bool) (l : List Int) (n m : Nat) : Prop := ∃ f : Nat → Nat, (∀ t, t < m → f t < n) ∧ ∀ t, t + 1 < m → f t < f (t + 1) ∧ may (nth l (f t)) (nth l (f (t + 1))) = true
theorem chn_of (may : Int → Int → Bool) (l : List Int) (n : Nat) : ∀ i, i < n → ∃ f : Nat → Nat, (∀ t, t < dL may l i → f t < n) ∧ (∀ t, t + 1 < dL may l i → f t < f (t + 1) ∧ may (nth l (f t)) (nth l (f (t + 1))) = true) ∧ f (dL may l i - 1) = i := fun i => by
  induction i using Nat.strongRecOn with
  | _ i ih =>
    intro hi
    rcases dL_from may l i with h | ⟨j, hj, hm, h⟩
    · exact ⟨fun _ => i, fun _ _ => hi, fun t ht => by omega, rfl⟩
    · obtain ⟨f, h1, h2, h3⟩ := ih j hj (by omega)
      have hb := dL_bd may l j
      refine ⟨fun t => if t < dL may l j then f t else i, fun t ht => ?_, fun t ht => ?_, ?_⟩
      · show (if t < dL may l j then f t else i) < n
        split
        · next c => exact h1 t c
        · exact hi
      · show (if t < dL may l j then f t else i) < (if t + 1 < dL may l j then f (t + 1) else i) ∧ may (nth l (if t < dL may l j then f t else i)) (nth l (if t + 1 < dL may l j then f (t + 1) else i)) = true
        rw [if_pos (show t < dL may l j by omega)]
        by_cases c : t + 1 < dL may l j
        · rw [if_pos c]; exact h2 t c
        · rw [if_neg c, show t = dL may l j - 1 by omega, h3]; exact ⟨hj, hm⟩
      · show (if dL may l i - 1 < dL may l j then f (dL may l i - 1) else i) = i
        rw [if_neg (by omega)]
theorem best_chn (may : Int → Int → Bool) (l : List Int) (n : Nat) : Chn may l n (bestK may l n).length := by
  rcases best_is may l n with ⟨h1, h2⟩ | ⟨i, hi, e⟩
  · rw [h2]; exact ⟨fun _ => 0, fun t ht => by simp at ht, fun t ht => by simp at ht⟩
  · obtain ⟨f, h1, h2, _⟩ := chn_of may l n i hi
    rw [e]; exact ⟨f, h1, h2⟩
theorem chn_best (may : Int → Int → Bool) (l : List Int) (n m : Nat) (h : Chn may l n m) : m ≤ (bestK may l n).length := by
  obtain ⟨f, h1, h2⟩ := h
  rcases Nat.eq_zero_or_pos m with h0 | h0
  · omega
  · have : ∀ t, t < m → t + 1 ≤ dL may l (f t) := fun t => by
      induction t with
      | zero => intro _; exact (dL_bd may l _).1
      | succ t ih =>
        intro ht
        have := ih (by omega)
        obtain ⟨a, b⟩ := h2 t (by omega)
        have := dL_lt may l _ _ a b
        omega
    have h3 := this (m - 1) (by omega)
    have h4 := best_ge may l n _ (h1 (m - 1) (by omega))
    omega
/-- from behind, and below -/
theorem best_back (l b : List Int) (n : Nat) (hb : ∀ i, i < n → nth b i = -(nth l (n - 1 - i)) - 1) : (bestK (fun a b => decide (a < b)) b n).length = (bestK (fun a b => decide (a < b)) l n).length := by
  have turn : ∀ (l b : List Int) (m : Nat), (∀ i, i < n → nth b i = -(nth l (n - 1 - i)) - 1) → Chn (fun a b => decide (a < b)) l n m → Chn (fun a b => decide (a < b)) b n m := fun l b m hb h => by
    obtain ⟨f, h1, h2⟩ := h
    refine ⟨fun t => n - 1 - f (m - 1 - t), fun t ht => ?_, fun t ht => ?_⟩
    · have := h1 (m - 1 - t) (by omega)
      show n - 1 - f (m - 1 - t) < n
      omega
    · have a1 := h1 (m - 1 - t) (by omega)
      have a2 := h1 (m - 1 - (t + 1)) (by omega)
      obtain ⟨a3, a4⟩ := h2 (m - 1 - (t + 1)) (by omega)
      rw [show m - 1 - (t + 1) + 1 = m - 1 - t by omega] at a3 a4
      have a5 : nth l (f (m - 1 - (t + 1))) < nth l (f (m - 1 - t)) := by simpa using a4
      refine ⟨by show n - 1 - f (m - 1 - t) < n - 1 - f (m - 1 - (t + 1)); omega, ?_⟩
      show decide (nth b (n - 1 - f (m - 1 - t)) < nth b (n - 1 - f (m - 1 - (t + 1)))) = true
      rw [hb _ (by omega), hb _ (by omega), show n - 1 - (n - 1 - f (m - 1 - t)) = f (m - 1 - t) by omega, show n - 1 - (n - 1 - f (m - 1 - (t + 1))) = f (m - 1 - (t + 1)) by omega]
      exact decide_eq_true (by omega)
  refine Nat.le_antisymm (chn_best _ l n _ (turn b l _ (fun i hi => ?_) (best_chn _ b n))) (chn_best _ b n _ (turn l b _ hb (best_chn _ l n)))
  have := hb (n - 1 - i) (by omega)
  rw [show n - 1 - (n - 1 - i) = i by omega] at this
  omega
end Go.Proofs.Ytooghdnlaonkaaa
