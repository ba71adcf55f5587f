/- The rows of a tableau and the longest rows of places (Schensted). -/
import Derived.Test.YtefblcchmkmfpaaTbM
import Derived.Test.YtefblcchmkmfpaaLinH
import Derived.Test.YtefblcchmkmfpaaPermM
namespace Go.Proofs.Ytefblcchmkmfpaa
open Go.RowKit

theorem nth_get (l : List Int) (i : Nat) (h : i < l.length) : nth l i = l[i] := by simp [nth, h]
theorem isP_nodup {p : List Int} (h : IsP p) : p.Nodup := by
  unfold List.Nodup
  rw [List.pairwise_iff_getElem]
  intro i j hi hj hij e
  have := h.inj i j hi hj (by rw [nth_get p i hi, nth_get p j hj, e])
  omega
theorem nodup_nth {l : List Int} (h : l.Nodup) {i j : Nat} (hi : i < l.length) (hj : j < l.length) (e : nth l i = nth l j) : i = j := by
  rw [nth_get l i hi, nth_get l j hj] at e
  unfold List.Nodup at h
  rw [List.pairwise_iff_getElem] at h
  rcases Nat.lt_trichotomy i j with c | c | c
  · exact absurd e (h i j hi hj c)
  · exact c
  · exact absurd e.symm (h j i hj hi c)
/-- where a part of a list stands -/
theorem sub_idx {s l : List Int} (h : s.Sublist l) : ∃ f : Nat → Nat, (∀ t, t < s.length → f t < l.length ∧ nth l (f t) = nth s t) ∧ ∀ t, t + 1 < s.length → f t < f (t + 1) := by
  induction h with
  | slnil => exact ⟨fun _ => 0, fun t ht => by simp at ht, fun t ht => by simp at ht⟩
  | cons a _ ih =>
    obtain ⟨f, h1, h2⟩ := ih
    refine ⟨fun t => f t + 1, fun t ht => ?_, fun t ht => by have := h2 t ht; show f t + 1 < f (t + 1) + 1; omega⟩
    obtain ⟨a1, a2⟩ := h1 t ht
    refine ⟨by simp; omega, ?_⟩
    rw [← a2]; simp [nth]
  | cons_cons a _ ih =>
    obtain ⟨f, h1, h2⟩ := ih
    refine ⟨fun t => match t with | 0 => 0 | t + 1 => f t + 1, fun t ht => ?_, fun t ht => ?_⟩
    · cases t with
      | zero => exact ⟨by simp, by simp [nth]⟩
      | succ t =>
        obtain ⟨a1, a2⟩ := h1 t (by simpa using ht)
        refine ⟨by show f t + 1 < _; simp; omega, ?_⟩
        show nth _ (f t + 1) = nth _ (t + 1)
        have e1 : ∀ (L : List Int), nth (a :: L) (t + 1) = nth L t := fun L => by simp [nth]
        have e2 : ∀ (L : List Int), nth (a :: L) (f t + 1) = nth L (f t) := fun L => by simp [nth]
        rw [e1, e2]; exact a2
    · cases t with
      | zero => show 0 < f 0 + 1; omega
      | succ t =>
        have := h2 t (by simpa using ht)
        show f t + 1 < f (t + 1) + 1
        omega
theorem chn_sub (l : List Int) (f : Nat → Nat) : ∀ m, (∀ t, t < m → f t < l.length) → (∀ t, t + 1 < m → f t < f (t + 1)) → ∀ b, (∀ t, t < m → f t < b) → b ≤ l.length → ((List.range m).map fun t => nth l (f t)).Sublist (l.take b)
  | 0, _, _, _, _, _ => by simp
  | m + 1, h1, h2, b, hb, hl => by
    have ih := chn_sub l f m (fun t ht => h1 t (by omega)) (fun t ht => h2 t (by omega)) (f m) (fun t ht => by
      have : ∀ d, t + d < m + 1 → f t ≤ f (t + d) := fun d => by
        induction d with
        | zero => intro _; exact Nat.le_refl _
        | succ d ih => intro hd; have := ih (by omega); have := h2 (t + d) (by omega); rw [← Nat.add_assoc]; omega
      have h3 := this (m - 1 - t) (by omega)
      rw [show t + (m - 1 - t) = m - 1 by omega] at h3
      have h4 := h2 (m - 1) (by omega)
      rw [show m - 1 + 1 = m by omega] at h4
      omega) (Nat.le_of_lt (h1 m (by omega)))
    rw [List.range_succ, List.map_append]
    have hm := hb m (by omega)
    have e : (l.take (f m) ++ [nth l (f m)]).Sublist (l.take b) := by
      rw [← take_nth l (f m) (h1 m (by omega))]
      exact List.take_sublist_take_left (by omega)
    exact (ih.append (List.Sublist.refl _)).trans e
/-- SCHENSTED: the number of rows -/
theorem rows_down {l : List Int} (hn : l.Nodup) : (insAll l).length = (bestK mDn l l.length).length := by
  obtain ⟨⟨s, s1, s2, s3⟩, h2⟩ := rows_fall l.length l rfl hn
  refine Nat.le_antisymm ?_ ?_
  · rw [← s3]
    refine chn_best mDn l l.length _ ?_
    obtain ⟨f, h1, h2⟩ := sub_idx s1
    refine ⟨f, fun t ht => (h1 t ht).1, fun t ht => ⟨h2 t ht, ?_⟩⟩
    rw [(h1 t (by omega)).2, (h1 (t + 1) ht).2]
    unfold Fall at s2
    rw [List.pairwise_iff_getElem] at s2
    have := s2 t (t + 1) (by omega) ht (by omega)
    rw [nth_get s t (by omega), nth_get s (t + 1) ht]
    unfold mDn
    exact decide_eq_true (by omega)
  · obtain ⟨f, h1, h3⟩ := best_chn mDn l l.length
    have h := h2 ((List.range (bestK mDn l l.length).length).map fun t => nth l (f t)) (by
      have := chn_sub l f _ h1 (fun t ht => (h3 t ht).1) l.length h1 (Nat.le_refl _)
      rwa [List.take_length] at this) ?_
    · simpa using h
    · unfold Fall
      rw [List.pairwise_map]
      refine List.Pairwise.imp_of_mem ?_ (List.pairwise_lt_range (n := (bestK mDn l l.length).length))
      intro i j hi hj hij
      rw [List.mem_range] at hi hj
      have : ∀ d, i + d + 1 < (bestK mDn l l.length).length → nth l (f (i + d + 1)) < nth l (f i) := fun d => by
        have step : ∀ t, t + 1 < (bestK mDn l l.length).length → nth l (f (t + 1)) < nth l (f t) := fun t ht => by
          obtain ⟨a, b⟩ := h3 t ht
          have b' : nth l (f (t + 1)) ≤ nth l (f t) := of_decide_eq_true b
          have hne : nth l (f (t + 1)) ≠ nth l (f t) := fun e => by
            have := nodup_nth hn (h1 _ ht) (h1 t (by omega)) e
            omega
          omega
        induction d with
        | zero => intro h; exact step i h
        | succ d ih => intro h; have := ih (by omega); have := step (i + d + 1) h; rw [show i + (d + 1) + 1 = i + d + 1 + 1 by omega]; omega
      have := this (j - i - 1) (by omega)
      rwa [show i + (j - i - 1) + 1 = j by omega] at this
theorem pI_spI {T : List Int} {x : Int} (h : x ∉ T) : pI T x = spI T x := by
  by_cases hk : pI T x < T.length
  · refine (spI_of hk (decide_eq_true (Int.le_of_lt (pI_hi T x hk))) (fun i hi => ?_)).symm
    have h1 := pI_lo T x i hi
    have hl : i < T.length := by omega
    have : nth T i ≠ x := fun e => h (by rw [← e]; exact nth_mem T i hl)
    exact decide_eq_false (by omega)
  · have hk2 : pI T x = T.length := by have := pI_le T x; omega
    rw [hk2]
    refine (spI_none (fun i hi => ?_)).symm
    have h1 := pI_lo T x i (by omega)
    have : nth T i ≠ x := fun e => h (by rw [← e]; exact nth_mem T i hi)
    exact decide_eq_false (by omega)
theorem frow_tK {l : List Int} (hn : l.Nodup) : ∀ k, k ≤ l.length → frow (l.take k) = tK l k
  | 0, _ => by simp [frow, tK]
  | k + 1, h => by
    have ih := frow_tK hn k (by omega)
    have hx : nth l k ∉ frow (l.take k) := fun hm => by
      have := frow_mem hm
      obtain ⟨i, hi, e⟩ := mem_nth this
      rw [List.length_take] at hi
      rw [nth_take l k i (by omega)] at e
      have := nodup_nth hn (by omega) (by omega) e
      omega
    rw [take_nth l k (by omega), frow_snoc', tK, ← ih]
    unfold rT spT
    rw [pI_spI hx]
/-- SCHENSTED: the length of the first row -/
theorem frow_up {l : List Int} (hn : l.Nodup) : (frow l).length = (bestK mUp l l.length).length := by
  have e := frow_tK hn l.length (Nat.le_refl _)
  rw [List.take_length] at e
  rw [e]
  have H := heap_ok l l.length
  refine Nat.le_antisymm ?_ ?_
  · rcases Nat.eq_zero_or_pos (tK l l.length).length with h0 | h0
    · omega
    · obtain ⟨t, ht, e1, _⟩ := H.at_ ((tK l l.length).length - 1) (by omega)
      have := best_ge mUp l l.length t ht
      omega
  · rcases best_is mUp l l.length with ⟨_, h2⟩ | ⟨i, hi, e2⟩
    · rw [h2]; simp
    · rw [e2]; exact (H.le i hi).1
end Go.Proofs.Ytefblcchmkmfpaa
