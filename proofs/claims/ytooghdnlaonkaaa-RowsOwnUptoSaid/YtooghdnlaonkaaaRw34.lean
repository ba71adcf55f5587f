/- Several of my texts in one: RmS, LinH, TbL. -/
import Derived.Test.YtooghdnlaonkaaaRw32
import Derived.Test.YtooghdnlaonkaaaRw15
import Derived.Test.YtooghdnlaonkaaaRw07
import Derived.Shelf.Abstract
import Derived.Test.YtooghdnlaonkaaaRw33
import Derived.Test.YtooghdnlaonkaaaRw29
import Derived.Test.YtooghdnlaonkaaaRw10
/- Rows that are only read; two that are the same. -/
namespace Go.Proofs.Ytooghdnlaonkaaa
open Go.RowKit

theorem Fr.rm {w0 w : World} {L : List Ent} {ad : Option Addr} {n cap : Nat} {R : List Rw} (h : Fr w0 w L) (h1 : outE ad n cap R ∈ L) (h2 : ∀ p ∈ R, re p ∈ L) : Rm w ad R :=
  ⟨h.mem h1, fun p hp => h.mem (h2 p hp)⟩
end Go.Proofs.Ytooghdnlaonkaaa
/- Plain law of heaps: the heap's number is the length of the longest row that ends there, less one. -/
namespace Go.Proofs.Ytooghdnlaonkaaa
open Go.RowKit

theorem spI_lo (T : List Int) (x : Int) (j : Nat) (h : j < spI T x) : nth T j < x := by
  have hl : j < T.length := Nat.lt_of_lt_of_le h (spI_le T x)
  have := List.not_of_lt_findIdx (p := fun y => decide (x ≤ y)) (xs := T) (i := j) h
  have e : nth T j = T[j] := by simp [nth, hl]
  rw [e]
  have h2 : ¬ x ≤ T[j] := of_decide_eq_false this
  omega
theorem spI_hi (T : List Int) (x : Int) (h : spI T x < T.length) : x ≤ nth T (spI T x) := by
  have := List.findIdx_getElem (p := fun y => decide (x ≤ y)) (xs := T) (w := h)
  have e : nth T (spI T x) = T[spI T x] := by simp [nth, h]
  rw [e]
  exact of_decide_eq_true this
theorem spT_nth (T : List Int) (x : Int) (j : Nat) : nth (spT T x) j = if j = spI T x then x else nth T j := by
  unfold spT
  by_cases c : spI T x < T.length
  · rw [if_pos c, nth_set _ _ _ _ c]
  · have e : spI T x = T.length := by have := spI_le T x; omega
    rw [if_neg c, nth_snoc, e]
theorem spT_len (T : List Int) (x : Int) : (spT T x).length = if spI T x < T.length then T.length else T.length + 1 := by
  unfold spT; split
  · rw [List.length_set]
  · rw [List.length_append]; rfl
structure HeapOk (l : List Int) (i : Nat) (T : List Int) : Prop where
  up : ∀ j k, j < k → k < T.length → nth T j < nth T k
  le : ∀ t, t < i → dL mUp l t ≤ T.length ∧ nth T (dL mUp l t - 1) ≤ nth l t
  at_ : ∀ j, j < T.length → ∃ t, t < i ∧ dL mUp l t = j + 1 ∧ nth T j = nth l t
theorem heap_d {l : List Int} {i : Nat} {T : List Int} (h : HeapOk l i T) : dL mUp l i = spI T (nth l i) + 1 := by
  have hm : ∀ a b : Int, mUp a b = true ↔ a < b := fun a b => by unfold mUp; exact decide_eq_true_iff
  refine Nat.le_antisymm ?_ ?_
  · rcases dL_from mUp l i with e | ⟨t, ht, hlt, e⟩
    · omega
    · have h1 := h.le t ht
      have h2 := (dL_bd mUp l t).1
      rw [hm] at hlt
      have h3 : dL mUp l t ≤ spI T (nth l i) := by
        rcases Nat.lt_or_ge (spI T (nth l i)) (dL mUp l t) with c | c
        · exfalso
          have h4 := spI_hi T (nth l i) (by omega)
          have h5 : nth T (spI T (nth l i)) ≤ nth T (dL mUp l t - 1) := by
            by_cases c2 : spI T (nth l i) = dL mUp l t - 1
            · rw [c2]; exact Int.le_refl _
            · have := h.up (spI T (nth l i)) (dL mUp l t - 1) (by omega) (by omega); omega
          omega
        · exact c
      omega
  · rcases Nat.eq_zero_or_pos (spI T (nth l i)) with c | c
    · rw [c]; exact (dL_bd mUp l i).1
    · have h1 := spI_lo T (nth l i) (spI T (nth l i) - 1) (by omega)
      obtain ⟨t, ht, e1, e2⟩ := h.at_ (spI T (nth l i) - 1) (by have := spI_le T (nth l i); omega)
      have := dL_lt mUp l t i ht (by rw [hm]; omega)
      omega
theorem heap_step {l : List Int} {i : Nat} {T : List Int} (h : HeapOk l i T) : HeapOk l (i + 1) (spT T (nth l i)) := by
  have hd := heap_d h
  have hle := spI_le T (nth l i)
  have hlen := spT_len T (nth l i)
  obtain ⟨q, hq⟩ : ∃ q, spI T (nth l i) = q := ⟨_, rfl⟩
  have lo := fun j hj => spI_lo T (nth l i) j hj
  have hi := fun hj => spI_hi T (nth l i) hj
  have n := fun j (_ : j < (spT T (nth l i)).length) => spT_nth T (nth l i) j
  rw [hq] at hd hle hlen
  simp only [hq] at lo hi n
  have hql : q < (spT T (nth l i)).length := by rw [hlen]; split <;> omega
  refine ⟨fun j k hjk hk => ?_, fun t ht => ?_, fun j hj => ?_⟩
  · rw [n j (by omega), n k hk]
    by_cases c1 : j = q
    · rw [if_pos c1, if_neg (by omega)]
      have hqT : q < T.length := by rw [hlen] at hk; split at hk <;> omega
      have := hi hqT
      have hkT : k < T.length := by rw [hlen, if_pos hqT] at hk; exact hk
      have := h.up q k (by omega) hkT
      omega
    · rw [if_neg c1]
      by_cases c2 : k = q
      · rw [if_pos c2]; exact lo j (by omega)
      · rw [if_neg c2]; exact h.up j k hjk (by rw [hlen] at hk; split at hk <;> omega)
  · by_cases c : t = i
    · subst c
      rw [hd]
      refine ⟨by omega, ?_⟩
      rw [n (q + 1 - 1) (by omega), if_pos (by omega)]; exact Int.le_refl _
    · obtain ⟨h1, h2⟩ := h.le t (by omega)
      have h0 := (dL_bd mUp l t).1
      refine ⟨by rw [hlen]; split <;> omega, ?_⟩
      rw [n _ (by rw [hlen]; split <;> omega)]
      by_cases c2 : dL mUp l t - 1 = q
      · rw [if_pos c2]
        have := hi (by omega)
        rw [c2] at h2; omega
      · rw [if_neg c2]; exact h2
  · rw [n j hj]
    by_cases c : j = q
    · rw [if_pos c]; exact ⟨i, by omega, by omega, rfl⟩
    · rw [if_neg c]
      have hjT : j < T.length := by rw [hlen] at hj; split at hj <;> omega
      obtain ⟨t, ht, e1, e2⟩ := h.at_ j hjT
      exact ⟨t, by omega, e1, e2⟩
theorem heap_ok (l : List Int) : ∀ i, HeapOk l i (tK l i)
  | 0 => ⟨fun j k _ hk => by simp [tK] at hk, fun t ht => by omega, fun j hj => by simp [tK] at hj⟩
  | i + 1 => heap_step (heap_ok l i)
theorem oK_at (l : List Int) : ∀ n i, i < n → nth (oK l n) i = ((dL mUp l i - 1 : Nat) : Int)
  | 0, i, h => by omega
  | n + 1, i, h => by
    rw [oK, nth_snoc, oK_len]
    by_cases c : i = n
    · subst c
      rw [if_pos rfl, heap_d (heap_ok l i)]; rfl
    · rw [if_neg c]; exact oK_at l n i (by omega)
end Go.Proofs.Ytooghdnlaonkaaa
/- The rows of a tableau and the longest rows of places (Schensted). -/
namespace Go.Proofs.Ytooghdnlaonkaaa
open Go.RowKit

theorem nth_get (l : List Int) (i : Nat) (h : i < l.length) : nth l i = l[i] := by simp [nth, h]
theorem isP_nodup {p : List Int} (h : IsP p) : p.Nodup := by
  unfold List.Nodup
  rw [List.pairwise_iff_getElem]
  intro i j hi hj hij e
  have := h.inj i j hi hj (by rw [nth_get p i hi, nth_get p j hj, e])
  omega
theorem nodup_nth {l : List Int} (h : l.Nodup) {i j : Nat} (hi : i < l.length) (hj : j < l.length) (e : nth l i = nth l j) : i = j := by
  rw [nth_get l i hi, nth_get l j hj] at e
  unfold List.Nodup at h
  rw [List.pairwise_iff_getElem] at h
  rcases Nat.lt_trichotomy i j with c | c | c
  · exact absurd e (h i j hi hj c)
  · exact c
  · exact absurd e.symm (h j i hj hi c)
/-- where a part of a list stands -/
theorem sub_idx {s l : List Int} (h : s.Sublist l) : ∃ f : Nat → Nat, (∀ t, t < s.length → f t < l.length ∧ nth l (f t) = nth s t) ∧ ∀ t, t + 1 < s.length → f t < f (t + 1) := by
  induction h with
  | slnil => exact ⟨fun _ => 0, fun t ht => by simp at ht, fun t ht => by simp at ht⟩
  | cons a _ ih =>
    obtain ⟨f, h1, h2⟩ := ih
    refine ⟨fun t => f t + 1, fun t ht => ?_, fun t ht => by have := h2 t ht; show f t + 1 < f (t + 1) + 1; omega⟩
    obtain ⟨a1, a2⟩ := h1 t ht
    refine ⟨by simp; omega, ?_⟩
    rw [← a2]; simp [nth]
  | cons_cons a _ ih =>
    obtain ⟨f, h1, h2⟩ := ih
    refine ⟨fun t => match t with | 0 => 0 | t + 1 => f t + 1, fun t ht => ?_, fun t ht => ?_⟩
    · cases t with
      | zero => exact ⟨by simp, by simp [nth]⟩
      | succ t =>
        obtain ⟨a1, a2⟩ := h1 t (by simpa using ht)
        refine ⟨by show f t + 1 < _; simp; omega, ?_⟩
        show nth _ (f t + 1) = nth _ (t + 1)
        have e1 : ∀ (L : List Int), nth (a :: L) (t + 1) = nth L t := fun L => by simp [nth]
        have e2 : ∀ (L : List Int), nth (a :: L) (f t + 1) = nth L (f t) := fun L => by simp [nth]
        rw [e1, e2]; exact a2
    · cases t with
      | zero => show 0 < f 0 + 1; omega
      | succ t =>
        have := h2 t (by simpa using ht)
        show f t + 1 < f (t + 1) + 1
        omega
theorem chn_sub (l : List Int) (f : Nat → Nat) : ∀ m, (∀ t, t < m → f t < l.length) → (∀ t, t + 1 < m → f t < f (t + 1)) → ∀ b, (∀ t, t < m → f t < b) → b ≤ l.length → ((List.range m).map fun t => nth l (f t)).Sublist (l.take b)
  | 0, _, _, _, _, _ => by simp
  | m + 1, h1, h2, b, hb, hl => by
    have ih := chn_sub l f m (fun t ht => h1 t (by omega)) (fun t ht => h2 t (by omega)) (f m) (fun t ht => by
      have : ∀ d, t + d < m + 1 → f t ≤ f (t + d) := fun d => by
        induction d with
        | zero => intro _; exact Nat.le_refl _
        | succ d ih => intro hd; have := ih (by omega); have := h2 (t + d) (by omega); rw [← Nat.add_assoc]; omega
      have h3 := this (m - 1 - t) (by omega)
      rw [show t + (m - 1 - t) = m - 1 by omega] at h3
      have h4 := h2 (m - 1) (by omega)
      rw [show m - 1 + 1 = m by omega] at h4
      omega) (Nat.le_of_lt (h1 m (by omega)))
    rw [List.range_succ, List.map_append]
    have hm := hb m (by omega)
    have e : (l.take (f m) ++ [nth l (f m)]).Sublist (l.take b) := by
      rw [← take_nth l (f m) (h1 m (by omega))]
      exact List.take_sublist_take_left (by omega)
    exact (ih.append (List.Sublist.refl _)).trans e
/-- SCHENSTED: the number of rows -/
theorem rows_down {l : List Int} (hn : l.Nodup) : (insAll l).length = (bestK mDn l l.length).length := by
  obtain ⟨⟨s, s1, s2, s3⟩, h2⟩ := rows_fall l.length l rfl hn
  refine Nat.le_antisymm ?_ ?_
  · rw [← s3]
    refine chn_best mDn l l.length _ ?_
    obtain ⟨f, h1, h2⟩ := sub_idx s1
    refine ⟨f, fun t ht => (h1 t ht).1, fun t ht => ⟨h2 t ht, ?_⟩⟩
    rw [(h1 t (by omega)).2, (h1 (t + 1) ht).2]
    unfold Fall at s2
    rw [List.pairwise_iff_getElem] at s2
    have := s2 t (t + 1) (by omega) ht (by omega)
    rw [nth_get s t (by omega), nth_get s (t + 1) ht]
    unfold mDn
    exact decide_eq_true (by omega)
  · obtain ⟨f, h1, h3⟩ := best_chn mDn l l.length
    have h := h2 ((List.range (bestK mDn l l.length).length).map fun t => nth l (f t)) (by
      have := chn_sub l f _ h1 (fun t ht => (h3 t ht).1) l.length h1 (Nat.le_refl _)
      rwa [List.take_length] at this) ?_
    · simpa using h
    · unfold Fall
      rw [List.pairwise_map]
      refine List.Pairwise.imp_of_mem ?_ (List.pairwise_lt_range (n := (bestK mDn l l.length).length))
      intro i j hi hj hij
      rw [List.mem_range] at hi hj
      have : ∀ d, i + d + 1 < (bestK mDn l l.length).length → nth l (f (i + d + 1)) < nth l (f i) := fun d => by
        have step : ∀ t, t + 1 < (bestK mDn l l.length).length → nth l (f (t + 1)) < nth l (f t) := fun t ht => by
          obtain ⟨a, b⟩ := h3 t ht
          have b' : nth l (f (t + 1)) ≤ nth l (f t) := of_decide_eq_true b
          have hne : nth l (f (t + 1)) ≠ nth l (f t) := fun e => by
            have := nodup_nth hn (h1 _ ht) (h1 t (by omega)) e
            omega
          omega
        induction d with
        | zero => intro h; exact step i h
        | succ d ih => intro h; have := ih (by omega); have := step (i + d + 1) h; rw [show i + (d + 1) + 1 = i + d + 1 + 1 by omega]; omega
      have := this (j - i - 1) (by omega)
      rwa [show i + (j - i - 1) + 1 = j by omega] at this
theorem pI_spI {T : List Int} {x : Int} (h : x ∉ T) : pI T x = spI T x := by
  by_cases hk : pI T x < T.length
  · refine (spI_of hk (decide_eq_true (Int.le_of_lt (pI_hi T x hk))) (fun i hi => ?_)).symm
    have h1 := pI_lo T x i hi
    have hl : i < T.length := by omega
    have : nth T i ≠ x := fun e => h (by rw [← e]; exact nth_mem T i hl)
    exact decide_eq_false (by omega)
  · have hk2 : pI T x = T.length := by have := pI_le T x; omega
    rw [hk2]
    refine (spI_none (fun i hi => ?_)).symm
    have h1 := pI_lo T x i (by omega)
    have : nth T i ≠ x := fun e => h (by rw [← e]; exact nth_mem T i hi)
    exact decide_eq_false (by omega)
theorem frow_tK {l : List Int} (hn : l.Nodup) : ∀ k, k ≤ l.length → frow (l.take k) = tK l k
  | 0, _ => by simp [frow, tK]
  | k + 1, h => by
    have ih := frow_tK hn k (by omega)
    have hx : nth l k ∉ frow (l.take k) := fun hm => by
      have := frow_mem hm
      obtain ⟨i, hi, e⟩ := mem_nth this
      rw [List.length_take] at hi
      rw [nth_take l k i (by omega)] at e
      have := nodup_nth hn (by omega) (by omega) e
      omega
    rw [take_nth l k (by omega), frow_snoc', tK, ← ih]
    unfold rT spT
    rw [pI_spI hx]
/-- SCHENSTED: the length of the first row -/
theorem frow_up {l : List Int} (hn : l.Nodup) : (frow l).length = (bestK mUp l l.length).length := by
  have e := frow_tK hn l.length (Nat.le_refl _)
  rw [List.take_length] at e
  rw [e]
  have H := heap_ok l l.length
  refine Nat.le_antisymm ?_ ?_
  · rcases Nat.eq_zero_or_pos (tK l l.length).length with h0 | h0
    · omega
    · obtain ⟨t, ht, e1, _⟩ := H.at_ ((tK l l.length).length - 1) (by omega)
      have := best_ge mUp l l.length t ht
      omega
  · rcases best_is mUp l l.length with ⟨_, h2⟩ | ⟨i, hi, e2⟩
    · rw [h2]; simp
    · rw [e2]; exact (H.le i hi).1
end Go.Proofs.Ytooghdnlaonkaaa
