/- Several of my texts in one: TbM. -/
import Derived.Test.YtooghdnlaonkaaaRw08
/- Plain law of tableaux: row insertion; SCHENSTED: as many rows as the longest that falls. -/
namespace Go.Proofs.Ytooghdnlaonkaaa
open Go.RowKit

/-! row insertion -/
def pI (T : List Int) (x : Int) : Nat := T.findIdx fun y => decide (x < y)
theorem pI_le (T : List Int) (x : Int) : pI T x ≤ T.length := List.findIdx_le_length
theorem pI_lo (T : List Int) (x : Int) (j : Nat) (h : j < pI T x) : nth T j ≤ x := by
  have hl : j < T.length := Nat.lt_of_lt_of_le h (pI_le T x)
  have := List.not_of_lt_findIdx (p := fun y => decide (x < y)) (xs := T) (i := j) h
  have e : nth T j = T[j] := by simp [nth, hl]
  rw [e]
  have h2 : ¬ x < T[j] := of_decide_eq_false this
  omega
theorem pI_hi (T : List Int) (x : Int) (h : pI T x < T.length) : x < nth T (pI T x) := by
  have := List.findIdx_getElem (p := fun y => decide (x < y)) (xs := T) (w := h)
  have e : nth T (pI T x) = T[pI T x] := by simp [nth, h]
  rw [e]
  exact of_decide_eq_true this
def put : List (List Int) → Int → List (List Int) × Nat
  | [], x => ([[x]], 0)
  | r :: rs, x => if pI r x < r.length then (r.set (pI r x) x :: (put rs (nth r (pI r x))).1, (put rs (nth r (pI r x))).2 + 1) else ((r ++ [x]) :: rs, 0)
/-- the first tableau -/
def insAll (w : List Int) : List (List Int) := w.foldl (fun t x => (put t x).1) []
theorem insAll_snoc (w : List Int) (x : Int) : insAll (w ++ [x]) = (put (insAll w) x).1 := by simp [insAll]
def rT (T : List Int) (x : Int) : List Int := if pI T x < T.length then T.set (pI T x) x else T ++ [x]
def frow (w : List Int) : List Int := w.foldl rT []
theorem frow_snoc' (w : List Int) (x : Int) : frow (w ++ [x]) = rT (frow w) x := by simp [frow]
theorem frow_snoc (w : List Int) (x : Int) : frow (w ++ [x]) = if pI (frow w) x < (frow w).length then (frow w).set (pI (frow w) x) x else frow w ++ [x] := frow_snoc' w x
/-- what is pushed out of the first row -/
def bmpS (s : List Int × List Int) (x : Int) : List Int × List Int := (rT s.1 x, if pI s.1 x < s.1.length then s.2 ++ [nth s.1 (pI s.1 x)] else s.2)
def bmp (w : List Int) : List Int := (w.foldl bmpS ([], [])).2
theorem bmp_fst (w : List Int) : ∀ s : List Int × List Int, (w.foldl bmpS s).1 = w.foldl rT s.1 := by
  induction w with
  | nil => intro s; rfl
  | cons x w ih =>
    intro s
    rw [List.foldl_cons, List.foldl_cons, ih]
    rfl
theorem bmp_snoc (w : List Int) (x : Int) : bmp (w ++ [x]) = if pI (frow w) x < (frow w).length then bmp w ++ [nth (frow w) (pI (frow w) x)] else bmp w := by
  have h : (w.foldl bmpS ([], [])).1 = frow w := bmp_fst w _
  unfold bmp
  rw [List.foldl_append, List.foldl_cons, List.foldl_nil, ← h]
  rfl
theorem snoc_ind {α : Type} {P : List α → Prop} (h0 : P []) (h1 : ∀ l x, P l → P (l ++ [x])) (l : List α) : P l := by
  have : ∀ n, ∀ l : List α, l.length = n → P l := fun n => by
    induction n with
    | zero => intro l hl; rw [List.eq_nil_of_length_eq_zero hl]; exact h0
    | succ n ih =>
      intro l hl
      have hne : l ≠ [] := by intro h; rw [h] at hl; simp at hl
      rw [← List.dropLast_concat_getLast hne]
      exact h1 _ _ (ih _ (by rw [List.length_dropLast]; omega))
  exact this _ l rfl
/-- the tableau: its first row, and the tableau of what was pushed out -/
theorem insAll_row (w : List Int) : w ≠ [] → insAll w = frow w :: insAll (bmp w) := by
  refine snoc_ind (P := fun w => w ≠ [] → insAll w = frow w :: insAll (bmp w)) (fun h => absurd rfl h) (fun w x ih _ => ?_) w
  rw [insAll_snoc, frow_snoc, bmp_snoc]
  by_cases hw : w = []
  · subst hw
    rfl
  · rw [ih hw, put]
    split
    · rw [insAll_snoc]
    · rfl
theorem bmp_len (w : List Int) : (frow w).length + (bmp w).length = w.length := by
  refine snoc_ind (P := fun w => (frow w).length + (bmp w).length = w.length) rfl (fun w x ih => ?_) w
  rw [frow_snoc, bmp_snoc]
  split <;> simp <;> omega
theorem frow_ne (w : List Int) (h : w ≠ []) : 0 < (frow w).length := by
  rcases (snoc_ind (P := fun w => w = [] ∨ 0 < (frow w).length) (.inl rfl) (fun w x ih => .inr (by rw [frow_snoc]; split <;> simp; omega)) w) with h' | h'
  · exact absurd h' h
  · exact h'
/-- every number stands once: in the row, or pushed out -/
theorem frow_perm (w : List Int) : (frow w ++ bmp w).Perm w := by
  refine snoc_ind (P := fun w => (frow w ++ bmp w).Perm w) (.refl _) (fun w x ih => ?_) w
  rw [frow_snoc, bmp_snoc]
  split
  · next h =>
    have : ((frow w).set (pI (frow w) x) x ++ [nth (frow w) (pI (frow w) x)]).Perm (frow w ++ [x]) := by
      generalize frow w = T at h
      generalize pI T x = k at h
      have e1 : T = T.take k ++ nth T k :: T.drop (k + 1) := by
        have := List.take_append_drop k T
        rw [List.drop_eq_getElem_cons h] at this
        have e : nth T k = T[k] := by simp [nth, h]
        rw [e]; exact this.symm
      have e2 : T.set k x = T.take k ++ x :: T.drop (k + 1) := by rw [List.set_eq_take_append_cons_drop, if_pos h]
      rw [e2]
      conv => rhs; rw [e1]
      rw [List.append_assoc, List.append_assoc]
      refine List.Perm.append_left _ ?_
      have : (x :: List.drop (k + 1) T ++ [nth T k]).Perm (nth T k :: (x :: List.drop (k + 1) T)) := List.perm_append_singleton _ _
      refine this.trans ((List.Perm.swap _ _ _).trans ?_)
      have h3 : (nth T k :: List.drop (k + 1) T ++ [x]).Perm (x :: (nth T k :: List.drop (k + 1) T)) := List.perm_append_singleton _ _
      exact h3.symm
    have h2 : ((frow w).set (pI (frow w) x) x ++ (bmp w ++ [nth (frow w) (pI (frow w) x)])).Perm ((frow w).set (pI (frow w) x) x ++ [nth (frow w) (pI (frow w) x)] ++ bmp w) := by
      rw [List.append_assoc]
      exact List.Perm.append_left _ (List.perm_append_comm)
    refine h2.trans ((this.append_right _).trans ?_)
    rw [List.append_assoc]
    refine (List.Perm.append_left _ List.perm_append_comm).trans ?_
    rw [← List.append_assoc]
    exact ih.append_right _
  · rw [List.append_assoc]
    refine (List.Perm.append_left _ List.perm_append_comm).trans ?_
    rw [← List.append_assoc]
    exact ih.append_right _
theorem set_pw {T : List Int} {x : Int} (hT : T.Pairwise (· < ·)) (hx : x ∉ T) : (if pI T x < T.length then T.set (pI T x) x else T ++ [x]).Pairwise (· < ·) := by
  have lo : ∀ j, j < pI T x → nth T j < x := fun j hj => by
    have h1 := pI_lo T x j hj
    have hl : j < T.length := Nat.lt_of_lt_of_le hj (pI_le T x)
    have e : nth T j = T[j] := by simp [nth, hl]
    have : nth T j ≠ x := by rw [e]; intro h; exact hx (h ▸ List.getElem_mem hl)
    omega
  rw [List.pairwise_iff_getElem] at hT ⊢
  split
  · next h =>
    have hi := pI_hi T x h
    generalize pI T x = k at *
    intro i j h1 h2 hij
    rw [List.length_set] at h1 h2
    rw [List.getElem_set, List.getElem_set]
    by_cases e1 : k = i
    · subst e1
      rw [if_pos rfl, if_neg (by omega)]
      have := hT k j h h2 hij
      have e : nth T k = T[k] := by simp [nth, h]
      omega
    · rw [if_neg e1]
      by_cases e2 : k = j
      · subst e2
        rw [if_pos rfl]
        have := lo i hij
        have e : nth T i = T[i] := by simp [nth, h1]
        omega
      · rw [if_neg e2]; exact hT i j h1 h2 hij
  · next h =>
    have hk : pI T x = T.length := by have := pI_le T x; omega
    rw [hk] at lo
    intro i j h1 h2 hij
    rw [List.length_append, List.length_singleton] at h1 h2
    rw [List.getElem_append_left (by omega)]
    by_cases e2 : j < T.length
    · rw [List.getElem_append_left e2]; exact hT i j (by omega) e2 hij
    · rw [List.getElem_append_right (by omega)]
      simp
      have := lo i (by omega)
      have e : nth T i = T[i] := by simp [nth, show i < T.length by omega]
      omega
theorem frow_mem {w : List Int} {x : Int} (h : x ∈ frow w) : x ∈ w := (frow_perm w).mem_iff.1 (List.mem_append_left _ h)
theorem bmp_mem {w : List Int} {x : Int} (h : x ∈ bmp w) : x ∈ w := (frow_perm w).mem_iff.1 (List.mem_append_right _ h)
theorem nodup_snoc {w : List Int} {x : Int} (h : (w ++ [x]).Nodup) : w.Nodup ∧ x ∉ w := by
  rw [List.nodup_append] at h
  exact ⟨h.1, fun hx => h.2.2 x hx x (by simp) rfl⟩
theorem bmp_nodup {w : List Int} (h : w.Nodup) : (bmp w).Nodup := (List.nodup_append.1 ((frow_perm w).nodup_iff.2 h)).2.1
theorem frow_pw (w : List Int) : w.Nodup → (frow w).Pairwise (· < ·) := by
  refine snoc_ind (P := fun w => w.Nodup → (frow w).Pairwise (· < ·)) (fun _ => by simp [frow]) (fun w x ih hn => ?_) w
  obtain ⟨h1, h2⟩ := nodup_snoc hn
  rw [frow_snoc]
  exact set_pw (ih h1) fun h => h2 (frow_mem h)
/-! rows that fall -/
def Fall (s : List Int) : Prop := s.Pairwise fun a b => b < a
theorem fall_snoc {s : List Int} {x : Int} : Fall (s ++ [x]) ↔ Fall s ∧ ∀ y ∈ s, x < y := by
  unfold Fall
  rw [List.pairwise_append]
  simp
theorem sub_snoc_inv {α : Type} {s w : List α} {y x : α} (h : (s ++ [y]).Sublist (w ++ [x])) : (s ++ [y]).Sublist w ∨ (y = x ∧ s.Sublist w) := by
  have h2 := h.reverse
  rw [List.reverse_append, List.reverse_append] at h2
  simp only [List.reverse_cons, List.reverse_nil, List.nil_append, List.singleton_append] at h2
  cases h2 with
  | cons _ h3 =>
    left
    have := h3.reverse
    simpa using this
  | cons_cons _ h3 =>
    right
    exact ⟨rfl, by have := h3.reverse; simpa using this⟩
theorem snoc_cases {α : Type} (s : List α) : s = [] ∨ ∃ t y, s = t ++ [y] := by
  by_cases h : s = []
  · exact .inl h
  · exact .inr ⟨_, _, (List.dropLast_concat_getLast h).symm⟩
theorem mem_nth {l : List Int} {x : Int} (h : x ∈ l) : ∃ k, k < l.length ∧ nth l k = x := by
  obtain ⟨k, hk, e⟩ := List.getElem_of_mem h
  exact ⟨k, hk, by simp [nth, hk, e]⟩
theorem pw_nth_lt {T : List Int} (h : T.Pairwise (· < ·)) {i j : Nat} (hij : i < j) (hj : j < T.length) : nth T i < nth T j := by
  rw [List.pairwise_iff_getElem] at h
  have := h i j (by omega) hj hij
  have e1 : nth T i = T[i] := by simp [nth, show i < T.length by omega]
  have e2 : nth T j = T[j] := by simp [nth, hj]
  rw [e1, e2]; exact this
theorem mem_set_cases {T : List Int} {k : Nat} {x y : Int} (h : y ∈ T.set k x) : y = x ∨ y ∈ T := by
  rcases List.mem_or_eq_of_mem_set h with h | h
  · exact .inr h
  · exact .inl h
theorem rT_mem {T : List Int} {x y : Int} (h : y ∈ rT T x) : y = x ∨ y ∈ T := by
  unfold rT at h
  split at h
  · exact mem_set_cases h
  · rcases List.mem_append.1 h with h | h
    · exact .inr h
    · exact .inl (by simpa using h)
theorem rT_new (T : List Int) (x : Int) : x ∈ rT T x := by
  unfold rT
  split
  · next h => exact List.mem_set h x
  · simp
/-- who stays -/
theorem rT_stay {T : List Int} {x v : Int} (_ : T.Pairwise (· < ·)) (hv : v ∈ T) : v ∈ rT T x ∨ (pI T x < T.length ∧ nth T (pI T x) = v) := by
  obtain ⟨k, hk, rfl⟩ := mem_nth hv
  unfold rT
  split
  · next h =>
    by_cases e : pI T x = k
    · exact .inr ⟨h, by rw [e]⟩
    · left
      have : (T.set (pI T x) x)[k]? = T[k]? := by rw [List.getElem?_set_ne e]
      have e2 : nth T k = T[k] := by simp [nth, hk]
      rw [List.getElem?_eq_getElem hk] at this
      rw [e2]
      exact List.mem_of_getElem? this
  · exact .inl (List.mem_append_left _ hv)
/-- of those in the row those less than the one pushed out are no greater than the new one -/
theorem rT_low {T : List Int} {x y : Int} (hT : T.Pairwise (· < ·)) (_ : pI T x < T.length) (hy : y ∈ T) (hlt : y < nth T (pI T x)) : y ≤ x := by
  obtain ⟨k, hk, rfl⟩ := mem_nth hy
  rcases Nat.lt_or_ge k (pI T x) with c | c
  · exact pI_lo T x k c
  · rcases Nat.eq_or_lt_of_le c with c | c
    · subst c; omega
    · have := pw_nth_lt hT c hk; omega
/-- what is pushed out is the least of the greater ones -/
theorem rT_least {T : List Int} {x v : Int} (hT : T.Pairwise (· < ·)) (hv : v ∈ T) (hlt : x < v) : pI T x < T.length ∧ nth T (pI T x) ≤ v := by
  obtain ⟨k, hk, rfl⟩ := mem_nth hv
  have hle : pI T x ≤ k := by
    rcases Nat.lt_or_ge k (pI T x) with c | c
    · have := pI_lo T x k c; omega
    · exact c
  refine ⟨by omega, ?_⟩
  rcases Nat.eq_or_lt_of_le hle with c | c
  · rw [c]; exact Int.le_refl _
  · exact Int.le_of_lt (pw_nth_lt hT c hk)
theorem frow_sub {w : List Int} {y : Int} (h : y ∈ frow w) : [y].Sublist w := List.singleton_sublist.2 (frow_mem h)
/-- rows that fall among what was pushed out come from longer ones -/
theorem fall_up (w : List Int) : w.Nodup → ∀ s b, (s ++ [b]).Sublist (bmp w) → Fall (s ++ [b]) →
    ∃ d x, d.length = s.length + 1 ∧ Fall (d ++ [x]) ∧ (d ++ [x]).Sublist w ∧ x < b ∧ (∀ e ∈ d, b ≤ e) ∧ ∀ y ∈ frow w, y < b → y ≤ x ∨ (d ++ [y]).Sublist w := by
  refine snoc_ind (P := fun w => w.Nodup → ∀ s b, (s ++ [b]).Sublist (bmp w) → Fall (s ++ [b]) →
    ∃ d x, d.length = s.length + 1 ∧ Fall (d ++ [x]) ∧ (d ++ [x]).Sublist w ∧ x < b ∧ (∀ e ∈ d, b ≤ e) ∧ ∀ y ∈ frow w, y < b → y ≤ x ∨ (d ++ [y]).Sublist w) ?_ ?_ w
  · intro _ s b h
    have := h.length_le
    simp [bmp] at this
  · intro w z ih hn s b hs hf
    obtain ⟨hn1, hz⟩ := nodup_snoc hn
    have ih := ih hn1
    have hT := frow_pw w hn1
    have old : (s ++ [b]).Sublist (bmp w) → ∃ d x, d.length = s.length + 1 ∧ Fall (d ++ [x]) ∧ (d ++ [x]).Sublist (w ++ [z]) ∧ x < b ∧ (∀ e ∈ d, b ≤ e) ∧ ∀ y ∈ frow (w ++ [z]), y < b → y ≤ x ∨ (d ++ [y]).Sublist (w ++ [z]) := by
      intro hs
      obtain ⟨d, x, h1, h2, h3, h4, h5, h6⟩ := ih s b hs hf
      refine ⟨d, x, h1, h2, h3.trans (List.sublist_append_left _ _), h4, h5, fun y hy hyb => ?_⟩
      rw [frow_snoc'] at hy
      rcases rT_mem hy with rfl | hy
      · right
        exact ((List.sublist_append_left d [x]).trans h3).append (List.Sublist.refl [y])
      · rcases h6 y hy hyb with h | h
        · exact .inl h
        · exact .inr (h.trans (List.sublist_append_left _ _))
    rw [bmp_snoc] at hs
    split at hs
    · next hp =>
      rcases sub_snoc_inv hs with hs2 | ⟨rfl, hs2⟩
      · exact old hs2
      · have hbT : nth (frow w) (pI (frow w) z) ∈ frow w := nth_mem _ _ hp
        have hzb := pI_hi _ _ hp
        have low : ∀ y ∈ frow (w ++ [z]), y < nth (frow w) (pI (frow w) z) → y ≤ z := fun y hy hyb => by
          rw [frow_snoc'] at hy
          rcases rT_mem hy with rfl | hy
          · exact Int.le_refl _
          · exact rT_low hT hp hy hyb
        generalize nth (frow w) (pI (frow w) z) = b at *
        rcases snoc_cases s with rfl | ⟨s', b', rfl⟩
        · refine ⟨[b], z, rfl, ?_, (frow_sub hbT).append (List.Sublist.refl [z]), hzb, by simp, fun y hy hyb => .inl (low y hy hyb)⟩
          rw [fall_snoc]
          exact ⟨by simp [Fall], by simpa using hzb⟩
        · obtain ⟨hf1, hf2⟩ := fall_snoc.1 hf
          have hb' : b < b' := hf2 b' (by simp)
          obtain ⟨d, x, h1, h2, h3, h4, h5, h6⟩ := ih s' b' hs2 hf1
          obtain ⟨g1, g2⟩ := fall_snoc.1 h2
          rcases h6 b hbT hb' with h | h
          · refine ⟨d ++ [x], z, by simp [h1], ?_, h3.append (List.Sublist.refl [z]), hzb, fun e he => ?_, fun y hy hyb => .inl (low y hy hyb)⟩
            · rw [fall_snoc]
              refine ⟨h2, fun y hy => ?_⟩
              rcases List.mem_append.1 hy with hy | hy
              · have := g2 y hy; omega
              · have : y = x := by simpa using hy
                omega
            · rcases List.mem_append.1 he with he | he
              · have := h5 e he; omega
              · have : e = x := by simpa using he
                omega
          · refine ⟨d ++ [b], z, by simp [h1], ?_, h.append (List.Sublist.refl [z]), hzb, fun e he => ?_, fun y hy hyb => .inl (low y hy hyb)⟩
            · rw [fall_snoc, fall_snoc]
              refine ⟨⟨g1, fun y hy => by have := h5 y hy; omega⟩, fun y hy => ?_⟩
              rcases List.mem_append.1 hy with hy | hy
              · have := h5 y hy; omega
              · have : y = b := by simpa using hy
                omega
            · rcases List.mem_append.1 he with he | he
              · have := h5 e he; omega
              · have : e = b := by simpa using he
                omega
    · exact old hs
/-- and what falls leaves one that is shorter by one -/
theorem fall_down (w : List Int) : w.Nodup → ∀ s y, (s ++ [y]).Sublist w → Fall (s ++ [y]) →
    ∃ v, v ∈ frow w ∧ v ≤ y ∧ (∃ r : List Int, r.Sublist (bmp w) ∧ Fall r ∧ r.length = s.length ∧ ∀ b ∈ r, y < b) ∧ ∀ z, v ≤ z → z < y → ∃ r : List Int, r.Sublist (bmp w) ∧ Fall r ∧ r.length = s.length + 1 ∧ ∀ b ∈ r, z < b := by
  refine snoc_ind (P := fun w => w.Nodup → ∀ s y, (s ++ [y]).Sublist w → Fall (s ++ [y]) →
    ∃ v, v ∈ frow w ∧ v ≤ y ∧ (∃ r : List Int, r.Sublist (bmp w) ∧ Fall r ∧ r.length = s.length ∧ ∀ b ∈ r, y < b) ∧ ∀ z, v ≤ z → z < y → ∃ r : List Int, r.Sublist (bmp w) ∧ Fall r ∧ r.length = s.length + 1 ∧ ∀ b ∈ r, z < b) ?_ ?_ w
  · intro _ s y h
    have := h.length_le
    simp at this
  · intro w x ih hn s y hs hf
    obtain ⟨hn1, hx⟩ := nodup_snoc hn
    have ih := ih hn1
    have hT := frow_pw w hn1
    have hsub : (bmp w).Sublist (bmp (w ++ [x])) := by
      rw [bmp_snoc]; split
      · exact List.sublist_append_left _ _
      · exact List.Sublist.refl _
    have hbmp : pI (frow w) x < (frow w).length → bmp (w ++ [x]) = bmp w ++ [nth (frow w) (pI (frow w) x)] := fun h => by rw [bmp_snoc, if_pos h]
    rcases sub_snoc_inv hs with hs2 | ⟨rfl, hs2⟩
    · obtain ⟨v, h1, h2, ⟨r, r1, r2, r3, r4⟩, h4⟩ := ih s y hs2 hf
      rcases rT_stay (x := x) hT h1 with hv | ⟨hp, hv⟩
      · refine ⟨v, by rw [frow_snoc']; exact hv, h2, ⟨r, r1.trans hsub, r2, r3, r4⟩, fun z hz1 hz2 => ?_⟩
        obtain ⟨q, q1, q2⟩ := h4 z hz1 hz2
        exact ⟨q, q1.trans hsub, q2⟩
      · have hxv := pI_hi _ _ hp
        rw [hv] at hxv
        refine ⟨x, by rw [frow_snoc']; exact rT_new _ _, by omega, ⟨r, r1.trans hsub, r2, r3, r4⟩, fun z hz1 hz2 => ?_⟩
        rcases Int.lt_or_le z v with c | c
        · refine ⟨r ++ [v], by rw [hbmp hp, hv]; exact r1.append (List.Sublist.refl _), ?_, by simp [r3], fun b hb => ?_⟩
          · rw [fall_snoc]
            exact ⟨r2, fun b hb => by have := r4 b hb; omega⟩
          · rcases List.mem_append.1 hb with hb | hb
            · have := r4 b hb; omega
            · have : b = v := by simpa using hb
              omega
        · obtain ⟨q, q1, q2⟩ := h4 z c hz2
          exact ⟨q, q1.trans hsub, q2⟩
    · refine ⟨y, by rw [frow_snoc']; exact rT_new _ _, Int.le_refl _, ?_, fun z hz1 hz2 => by omega⟩
      rcases snoc_cases s with rfl | ⟨s', y', rfl⟩
      · exact ⟨[], List.nil_sublist _, by simp [Fall], rfl, by simp⟩
      · obtain ⟨hf1, hf2⟩ := fall_snoc.1 hf
        have hyy : y < y' := hf2 y' (by simp)
        obtain ⟨v, h1, h2, ⟨r, r1, r2, r3, r4⟩, h4⟩ := ih s' y' hs2 hf1
        rcases Int.lt_or_le y v with c | c
        · obtain ⟨p1, p2⟩ := rT_least hT h1 c
          have hb := pI_hi _ _ p1
          refine ⟨r ++ [nth (frow w) (pI (frow w) y)], by rw [hbmp p1]; exact r1.append (List.Sublist.refl _), ?_, by simp [r3], fun b hb' => ?_⟩
          · rw [fall_snoc]
            exact ⟨r2, fun b hb => by have := r4 b hb; omega⟩
          · rcases List.mem_append.1 hb' with hb' | hb'
            · have := r4 b hb'; omega
            · have : b = nth (frow w) (pI (frow w) y) := by simpa using hb'
              omega
        · obtain ⟨q, q1, q2, q3, q4⟩ := h4 y c hyy
          exact ⟨q, q1.trans hsub, q2, by simp [q3], q4⟩
/-- SCHENSTED: as many rows as the longest that falls -/
theorem rows_fall : ∀ n (w : List Int), w.length = n → w.Nodup → (∃ s : List Int, s.Sublist w ∧ Fall s ∧ s.length = (insAll w).length) ∧ ∀ s : List Int, s.Sublist w → Fall s → s.length ≤ (insAll w).length := by
  intro n
  induction n using Nat.strongRecOn with
  | _ n ih =>
    intro w hw hn
    by_cases h0 : w = []
    · subst h0
      refine ⟨⟨[], List.Sublist.refl _, by simp [Fall], rfl⟩, fun s hs _ => ?_⟩
      rw [List.sublist_nil.1 hs]; simp
    · have hl := bmp_len w
      have hp := frow_ne w h0
      obtain ⟨⟨s, s1, s2, s3⟩, h2⟩ := ih (bmp w).length (by omega) (bmp w) rfl (bmp_nodup hn)
      rw [insAll_row w h0, List.length_cons]
      constructor
      · rcases snoc_cases s with rfl | ⟨s', b, rfl⟩
        · refine ⟨[nth (frow w) 0], frow_sub (nth_mem _ _ hp), by simp [Fall], ?_⟩
          have h0 : (insAll (bmp w)).length = 0 := by rw [← s3]; rfl
          rw [h0]; rfl
        · obtain ⟨d, x, d1, d2, d3, _⟩ := fall_up w hn s' b s1 s2
          refine ⟨d ++ [x], d3, d2, ?_⟩
          rw [← s3]; simp [d1]
      · intro t ht hf
        rcases snoc_cases t with rfl | ⟨t', y, rfl⟩
        · simp
        · obtain ⟨v, _, _, ⟨r, r1, r2, r3, _⟩, _⟩ := fall_down w hn t' y ht hf
          have := h2 r r1 r2
          simp; omega
end Go.Proofs.Ytooghdnlaonkaaa
