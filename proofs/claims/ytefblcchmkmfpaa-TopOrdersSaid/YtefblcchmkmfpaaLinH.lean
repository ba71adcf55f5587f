/- Plain law of heaps: the heap's number is the length of the longest row that ends there, less one. -/
import Derived.Test.YtefblcchmkmfpaaLin3
namespace Go.Proofs.Ytefblcchmkmfpaa
open Go.RowKit

theorem spI_lo (T : List Int) (x : Int) (j : Nat) (h : j < spI T x) : nth T j < x := by
  have hl : j < T.length := Nat.lt_of_lt_of_le h (spI_le T x)
  have := List.not_of_lt_findIdx (p := fun y => decide (x ≤ y)) (xs := T) (i := j) h
  have e : nth T j = T[j] := by simp [nth, hl]
  rw [e]
  have h2 : ¬ x ≤ T[j] := of_decide_eq_false this
  omega
theorem spI_hi (T : List Int) (x : Int) (h : spI T x < T.length) : x ≤ nth T (spI T x) := by
  have := List.findIdx_getElem (p := fun y => decide (x ≤ y)) (xs := T) (w := h)
  have e : nth T (spI T x) = T[spI T x] := by simp [nth, h]
  rw [e]
  exact of_decide_eq_true this
theorem spT_nth (T : List Int) (x : Int) (j : Nat) : nth (spT T x) j = if j = spI T x then x else nth T j := by
  unfold spT
  by_cases c : spI T x < T.length
  · rw [if_pos c, nth_set _ _ _ _ c]
  · have e : spI T x = T.length := by have := spI_le T x; omega
    rw [if_neg c, nth_snoc, e]
theorem spT_len (T : List Int) (x : Int) : (spT T x).length = if spI T x < T.length then T.length else T.length + 1 := by
  unfold spT; split
  · rw [List.length_set]
  · rw [List.length_append]; rfl
structure HeapOk (l : List Int) (i : Nat) (T : List Int) : Prop where
  up : ∀ j k, j < k → k < T.length → nth T j < nth T k
  le : ∀ t, t < i → dL mUp l t ≤ T.length ∧ nth T (dL mUp l t - 1) ≤ nth l t
  at_ : ∀ j, j < T.length → ∃ t, t < i ∧ dL mUp l t = j + 1 ∧ nth T j = nth l t
theorem heap_d {l : List Int} {i : Nat} {T : List Int} (h : HeapOk l i T) : dL mUp l i = spI T (nth l i) + 1 := by
  have hm : ∀ a b : Int, mUp a b = true ↔ a < b := fun a b => by unfold mUp; exact decide_eq_true_iff
  refine Nat.le_antisymm ?_ ?_
  · rcases dL_from mUp l i with e | ⟨t, ht, hlt, e⟩
    · omega
    · have h1 := h.le t ht
      have h2 := (dL_bd mUp l t).1
      rw [hm] at hlt
      have h3 : dL mUp l t ≤ spI T (nth l i) := by
        rcases Nat.lt_or_ge (spI T (nth l i)) (dL mUp l t) with c | c
        · exfalso
          have h4 := spI_hi T (nth l i) (by omega)
          have h5 : nth T (spI T (nth l i)) ≤ nth T (dL mUp l t - 1) := by
            by_cases c2 : spI T (nth l i) = dL mUp l t - 1
            · rw [c2]; exact Int.le_refl _
            · have := h.up (spI T (nth l i)) (dL mUp l t - 1) (by omega) (by omega); omega
          omega
        · exact c
      omega
  · rcases Nat.eq_zero_or_pos (spI T (nth l i)) with c | c
    · rw [c]; exact (dL_bd mUp l i).1
    · have h1 := spI_lo T (nth l i) (spI T (nth l i) - 1) (by omega)
      obtain ⟨t, ht, e1, e2⟩ := h.at_ (spI T (nth l i) - 1) (by have := spI_le T (nth l i); omega)
      have := dL_lt mUp l t i ht (by rw [hm]; omega)
      omega
theorem heap_step {l : List Int} {i : Nat} {T : List Int} (h : HeapOk l i T) : HeapOk l (i + 1) (spT T (nth l i)) := by
  have hd := heap_d h
  have hle := spI_le T (nth l i)
  have hlen := spT_len T (nth l i)
  obtain ⟨q, hq⟩ : ∃ q, spI T (nth l i) = q := ⟨_, rfl⟩
  have lo := fun j hj => spI_lo T (nth l i) j hj
  have hi := fun hj => spI_hi T (nth l i) hj
  have n := fun j (_ : j < (spT T (nth l i)).length) => spT_nth T (nth l i) j
  rw [hq] at hd hle hlen
  simp only [hq] at lo hi n
  have hql : q < (spT T (nth l i)).length := by rw [hlen]; split <;> omega
  refine ⟨fun j k hjk hk => ?_, fun t ht => ?_, fun j hj => ?_⟩
  · rw [n j (by omega), n k hk]
    by_cases c1 : j = q
    · rw [if_pos c1, if_neg (by omega)]
      have hqT : q < T.length := by rw [hlen] at hk; split at hk <;> omega
      have := hi hqT
      have hkT : k < T.length := by rw [hlen, if_pos hqT] at hk; exact hk
      have := h.up q k (by omega) hkT
      omega
    · rw [if_neg c1]
      by_cases c2 : k = q
      · rw [if_pos c2]; exact lo j (by omega)
      · rw [if_neg c2]; exact h.up j k hjk (by rw [hlen] at hk; split at hk <;> omega)
  · by_cases c : t = i
    · subst c
      rw [hd]
      refine ⟨by omega, ?_⟩
      rw [n (q + 1 - 1) (by omega), if_pos (by omega)]; exact Int.le_refl _
    · obtain ⟨h1, h2⟩ := h.le t (by omega)
      have h0 := (dL_bd mUp l t).1
      refine ⟨by rw [hlen]; split <;> omega, ?_⟩
      rw [n _ (by rw [hlen]; split <;> omega)]
      by_cases c2 : dL mUp l t - 1 = q
      · rw [if_pos c2]
        have := hi (by omega)
        rw [c2] at h2; omega
      · rw [if_neg c2]; exact h2
  · rw [n j hj]
    by_cases c : j = q
    · rw [if_pos c]; exact ⟨i, by omega, by omega, rfl⟩
    · rw [if_neg c]
      have hjT : j < T.length := by rw [hlen] at hj; split at hj <;> omega
      obtain ⟨t, ht, e1, e2⟩ := h.at_ j hjT
      exact ⟨t, by omega, e1, e2⟩
theorem heap_ok (l : List Int) : ∀ i, HeapOk l i (tK l i)
  | 0 => ⟨fun j k _ hk => by simp [tK] at hk, fun t ht => by omega, fun j hj => by simp [tK] at hj⟩
  | i + 1 => heap_step (heap_ok l i)
theorem oK_at (l : List Int) : ∀ n i, i < n → nth (oK l n) i = ((dL mUp l i - 1 : Nat) : Int)
  | 0, i, h => by omega
  | n + 1, i, h => by
    rw [oK, nth_snoc, oK_len]
    by_cases c : i = n
    · subst c
      rw [if_pos rfl, heap_d (heap_ok l i)]; rfl
    · rw [if_neg c]; exact oK_at l n i (by omega)
end Go.Proofs.Ytefblcchmkmfpaa
