/- Several of my texts in one: Bak. -/
import Derived.Test.YtooghdnlaonkaaaRw37
/- Plain law of Robinson, Schensted, Knuth: an order is told by two tableaux of one form, and each two such tell an order. -/
namespace Go.Proofs.Ytooghdnlaonkaaa
open Go.RowKit

/-! from two tableaux to the word -/
def StdE : List (List Int) → Prop
  | [] => True
  | r :: rs => r.Pairwise (· < ·) ∧ StdE rs ∧ ∀ s, rs.head? = some s → Dom r s
theorem dom_len {r s : List Int} (h : Dom r s) : s.length ≤ r.length := h.1
/-- rows, one shortened -/
def dr : List (List Int) → Nat → List (List Int)
  | [], _ => []
  | r :: rs, 0 => r.dropLast :: rs
  | r :: rs, i + 1 => r :: dr rs i
/-- the row whose last number is this -/
def rowO : List (List Int) → Int → Nat
  | [], _ => 0
  | r :: rs, n => if r.getLast? = some n then 0 else rowO rs n + 1
def unput : List (List Int) → Nat → List (List Int) × Int
  | [], _ => ([], 0)
  | r :: rs, 0 => (r.dropLast :: rs, nth r (r.length - 1))
  | r :: rs, i + 1 => (r.set (pI r (unput rs i).2 - 1) (unput rs i).2 :: (unput rs i).1, nth r (pI r (unput rs i).2 - 1))
theorem snoc_last (t : List Int) (z : Int) : nth (t ++ [z]) ((t ++ [z]).length - 1) = z := by
  rw [List.length_append, List.length_singleton, Nat.add_sub_cancel, nth_snoc, if_pos rfl]
theorem dom_drop {r t : List Int} {z : Int} (h : Dom r (t ++ [z])) : Dom r t := by
  obtain ⟨h1, h2⟩ := h
  rw [List.length_append, List.length_singleton] at h1 h2
  refine ⟨by omega, fun i hi => ?_⟩
  have := h2 i (by omega)
  rwa [nth_snoc, if_neg (by omega)] at this
theorem dom_short {t s : List Int} {z : Int} (h : Dom (t ++ [z]) s) (hl : s.length ≤ t.length) : Dom t s := by
  refine ⟨hl, fun i hi => ?_⟩
  have := h.2 i hi
  rwa [nth_snoc, if_neg (by omega)] at this
theorem pw_last {t : List Int} {z : Int} (h : (t ++ [z]).Pairwise (· < ·)) : t.Pairwise (· < ·) ∧ ∀ c ∈ t, c < z := by
  rw [List.pairwise_append] at h
  exact ⟨h.1, fun c hc => h.2.2 c hc z (by simp)⟩
/-- where the greatest stands -/
theorem q_step (n : Int) : ∀ Q : List (List Int), StdE Q → n ∈ Q.flatten → (∀ v ∈ Q.flatten, v ≤ n) →
    ∃ t, Q[rowO Q n]? = some (t ++ [n]) ∧ (∀ s, Q[rowO Q n + 1]? = some s → s.length ≤ t.length) ∧ StdE (dr Q (rowO Q n)) ∧ ((dr Q (rowO Q n)).flatten ++ [n]).Perm Q.flatten ∧ (∀ s, (dr Q (rowO Q n)).head? = some s → ∀ r, Q.head? = some r → Dom r s ∨ s = r ∨ r = s ++ [n])
  | [], _, h, _ => by simp at h
  | r :: rs, hS, hn, hm => by
    obtain ⟨h1, h2, h3⟩ := hS
    by_cases hl : r.getLast? = some n
    · rw [rowO, if_pos hl]
      rcases snoc_cases r with rfl | ⟨t, z, rfl⟩
      · simp at hl
      · have hz : z = n := by simpa using hl
        subst hz
        obtain ⟨p1, p2⟩ := pw_last h1
        have hshort : ∀ s, rs.head? = some s → s.length ≤ t.length := fun s hs => by
          have hd := h3 s hs
          have hlen := hd.1
          rw [List.length_append, List.length_singleton] at hlen
          rcases Nat.lt_or_ge t.length s.length with c | c
          · have := hd.2 t.length c
            rw [nth_snoc, if_pos rfl] at this
            have h5 := hm (nth s t.length) (by
              cases rs with
              | nil => cases hs
              | cons s' rs =>
                have : s' = s := by simpa using hs
                subst this
                simp only [List.flatten_cons]
                exact List.mem_append_right _ (List.mem_append_left _ (nth_mem _ _ c)))
            omega
          · exact c
        refine ⟨t, rfl, fun s hs => hshort s (by rw [List.head?_eq_getElem?]; simpa using hs), ?_, ?_, ?_⟩
        · show StdE ((t ++ [z]).dropLast :: rs)
          rw [List.dropLast_concat]
          exact ⟨p1, h2, fun s hs => dom_short (h3 s hs) (hshort s hs)⟩
        · show (((t ++ [z]).dropLast :: rs).flatten ++ [z]).Perm _
          rw [List.dropLast_concat, List.flatten_cons, List.flatten_cons, List.append_assoc, List.append_assoc]
          exact List.Perm.append_left _ List.perm_append_comm
        · intro s hs r hr
          have e1 : s = t := by
            have : (t ++ [z]).dropLast = s := by simpa [dr] using hs
            rw [← this, List.dropLast_concat]
          have e2 : r = t ++ [z] := by simpa using hr.symm
          right; right; rw [e1, e2]
    · rw [rowO, if_neg hl]
      have hnr : n ∉ r := fun hm2 => by
        rcases snoc_cases r with rfl | ⟨t, z, rfl⟩
        · simp at hm2
        · obtain ⟨p1, p2⟩ := pw_last h1
          rcases List.mem_append.1 hm2 with e | e
          · have := p2 n e
            have := hm z (by rw [List.flatten_cons]; exact List.mem_append_left _ (by simp))
            omega
          · have : n = z := by simpa using e
            subst this
            simp at hl
      have hn' : n ∈ rs.flatten := by
        rw [List.flatten_cons] at hn
        exact (List.mem_append.1 hn).resolve_left hnr
      obtain ⟨t, i1, i2, i3, i4, i5⟩ := q_step n rs h2 hn' (fun v hv => hm v (by rw [List.flatten_cons]; exact List.mem_append_right _ hv))
      refine ⟨t, by rw [List.getElem?_cons_succ]; exact i1, fun s hs => i2 s (by rwa [List.getElem?_cons_succ] at hs), ?_, ?_, ?_⟩
      · refine ⟨h1, i3, fun s hs => ?_⟩
        cases rs with
        | nil => simp at hn'
        | cons r2 rs =>
          have hd := h3 r2 rfl
          rcases i5 s hs r2 rfl with e | e | e
          · refine ⟨Nat.le_trans e.1 hd.1, fun i hi => ?_⟩
            have a := e.2 i hi
            have b := hd.2 i (Nat.lt_of_lt_of_le hi e.1)
            omega
          · rw [e]; exact hd
          · rw [e] at hd; exact dom_drop hd
      · show (r ++ (dr rs (rowO rs n)).flatten ++ [n]).Perm _
        rw [List.flatten_cons, List.append_assoc]
        exact List.Perm.append_left _ i4
      · intro s hs r' hr'
        have e1 : s = r := by simpa [dr] using hs.symm
        have e2 : r' = r := by simpa using hr'.symm
        right; left; rw [e1, e2]
theorem pI_pos {r : List Int} {y : Int} (h0 : 0 < r.length) (h : nth r 0 ≤ y) : 0 < pI r y := by
  rcases Nat.eq_zero_or_pos (pI r y) with c | c
  · have := pI_hi r y (by omega)
    rw [c] at this; omega
  · exact c
theorem pI_char {r : List Int} {y : Int} {k : Nat} (_ : r.Pairwise (· < ·)) (hk : k ≤ r.length) (lo : ∀ i, i < k → nth r i ≤ y) (hi : ∀ i, k ≤ i → i < r.length → y < nth r i) : pI r y = k := by
  have h1 := pI_le r y
  rcases Nat.lt_trichotomy (pI r y) k with c | c | c
  · have := pI_hi r y (by omega)
    have := lo _ c
    omega
  · exact c
  · have := pI_lo r y k c
    have := hi k (Nat.le_refl _) (by omega)
    omega
theorem set_self {l : List Int} {k : Nat} (h : k < l.length) : l.set k (nth l k) = l := by
  have e : nth l k = l[k] := by simp [nth, h]
  rw [e]; exact List.set_getElem_self h
theorem pw_of_nth {l : List Int} (h : ∀ i j, i < j → j < l.length → nth l i < nth l j) : l.Pairwise (· < ·) := by
  rw [List.pairwise_iff_getElem]
  intro i j hi hj hij
  have := h i j hij hj
  simpa [nth, hi, hj] using this
theorem set_perm' {l : List Int} {k : Nat} {y : Int} (h : k < l.length) : (l.set k y ++ [nth l k]).Perm (l ++ [y]) := by
  have e1 : l = l.take k ++ nth l k :: l.drop (k + 1) := by
    have := List.take_append_drop k l
    rw [List.drop_eq_getElem_cons h] at this
    have e : nth l k = l[k] := by simp [nth, h]
    rw [e]; exact this.symm
  have e2 : l.set k y = l.take k ++ y :: l.drop (k + 1) := by rw [List.set_eq_take_append_cons_drop, if_pos h]
  rw [e2]
  conv => rhs; rw [e1]
  rw [List.append_assoc, List.append_assoc]
  refine List.Perm.append_left _ ?_
  have : (y :: List.drop (k + 1) l ++ [nth l k]).Perm (nth l k :: (y :: List.drop (k + 1) l)) := List.perm_append_singleton _ _
  refine this.trans ((List.Perm.swap _ _ _).trans ?_)
  have h3 : (nth l k :: List.drop (k + 1) l ++ [y]).Perm (y :: (nth l k :: List.drop (k + 1) l)) := List.perm_append_singleton _ _
  exact h3.symm
/-- how the first row turns -/
structure Hd (s s' : List Int) (y : Int) (i : Nat) (j : Nat) : Prop where
  lt : j < s.length
  at_ : nth s j = y
  two : (i = 0 ∧ s = s' ++ [y] ∧ j = s'.length) ∨ ∃ z, y < z ∧ s' = s.set j z ∧ ∀ t, j < t → t < s.length → z < nth s t
/-- one number taken out: put again it gives what was -/
theorem p_step : ∀ (P : List (List Int)) (i : Nat) (t : List Int) (z : Int), StdE P → P.flatten.Nodup → P[i]? = some (t ++ [z]) → (∀ s, P[i + 1]? = some s → s.length ≤ t.length) →
    StdE (unput P i).1 ∧ (unput P i).1.map List.length = (dr P i).map List.length ∧ ((unput P i).1.flatten ++ [(unput P i).2]).Perm P.flatten ∧ put (unput P i).1 (unput P i).2 = (P, i) ∧
    ∃ s s' R j, P.head? = some s ∧ (unput P i).1 = s' :: R ∧ Hd s s' (unput P i).2 i j
  | [], i, t, z, _, _, h, _ => by simp at h
  | r :: rs, 0, t, z, hS, _, h, hc => by
    have hr : r = t ++ [z] := by simpa using h
    subst hr
    obtain ⟨h1, h2, h3⟩ := hS
    obtain ⟨p1, p2⟩ := pw_last h1
    have e1 : unput ((t ++ [z]) :: rs) 0 = (t :: rs, z) := by
      rw [unput, List.dropLast_concat, snoc_last]
    rw [e1]
    obtain ⟨m1, m2⟩ := rT_end z t p2
    have hpi : ¬ pI t z < t.length := by
      unfold bu at m2
      intro c
      rw [if_pos c] at m2; cases m2
    refine ⟨⟨p1, h2, fun s hs => dom_short (h3 s hs) (hc s (by rw [List.head?_eq_getElem?] at hs; simpa using hs))⟩, ?_, ?_, ?_, ⟨t ++ [z], t, rs, t.length, rfl, rfl, ⟨by simp, by rw [nth_snoc, if_pos rfl], .inl ⟨rfl, rfl, rfl⟩⟩⟩⟩
    · simp [dr]
    · rw [List.flatten_cons, List.flatten_cons, List.append_assoc, List.append_assoc]
      exact List.Perm.append_left _ List.perm_append_comm
    · rw [put, if_neg hpi]
  | r :: rs, i + 1, t, z, hS, hnd, h, hc => by
    obtain ⟨h1, h2, h3⟩ := hS
    rw [List.getElem?_cons_succ] at h
    rw [List.flatten_cons, List.nodup_append] at hnd
    obtain ⟨i1, i2, i3, i4, s, s', R, j, k1, k2, k3⟩ := p_step rs i t z h2 hnd.2.1 h (fun s hs => hc s (by rw [List.getElem?_cons_succ]; exact hs))
    obtain ⟨y, hy⟩ : ∃ y, (unput rs i).2 = y := ⟨_, rfl⟩
    obtain ⟨U, hU⟩ : ∃ U, (unput rs i).1 = U := ⟨_, rfl⟩
    rw [hy] at i3 i4 k3
    rw [hU] at i1 i2 i3 i4 k2
    have eun : unput (r :: rs) (i + 1) = (r.set (pI r y - 1) y :: U, nth r (pI r y - 1)) := by rw [unput, hy, hU]
    rw [eun]
    have hd := h3 s k1
    have hy_in : y ∈ rs.flatten := i3.mem_iff.1 (List.mem_append_right _ (by simp))
    have hyr : y ∉ r := fun hm => hnd.2.2 y hm y hy_in rfl
    have hrj := hd.2 j k3.lt
    rw [k3.at_] at hrj
    have hjr : j < r.length := Nat.lt_of_lt_of_le k3.lt hd.1
    have hjp : j < pI r y := by
      rcases Nat.lt_or_ge j (pI r y) with c | c
      · exact c
      · exfalso
        have h5 := pI_hi r y (by omega)
        rcases Nat.eq_or_lt_of_le c with e | e
        · rw [e] at h5; omega
        · have := pw_nth_lt h1 e hjr; omega
    have hple := pI_le r y
    obtain ⟨q, hq⟩ : ∃ q, pI r y = q + 1 := ⟨pI r y - 1, by omega⟩
    have lo : ∀ a, a < q + 1 → nth r a < y := fun a ha => by
      have h5 := pI_lo r y a (by omega)
      have : nth r a ≠ y := fun e => hyr (by rw [← e]; exact nth_mem _ _ (by omega))
      omega
    have hi : ∀ a, q + 1 ≤ a → a < r.length → y < nth r a := fun a ha hal => by
      have h5 := pI_hi r y (by omega)
      rw [hq] at h5
      rcases Nat.eq_or_lt_of_le ha with e | e
      · rw [← e]; exact h5
      · have := pw_nth_lt h1 e hal; omega
    rw [hq, Nat.add_sub_cancel]
    have hql : q < r.length := by omega
    have sn : ∀ a, nth (r.set q y) a = if a = q then y else nth r a := fun a => nth_set _ _ _ _ hql
    have hpw' : (r.set q y).Pairwise (· < ·) := pw_of_nth fun a b hab hb => by
      rw [List.length_set] at hb
      rw [sn, sn]
      by_cases e1 : a = q
      · rw [if_pos e1, if_neg (by omega)]; exact hi b (by omega) hb
      · rw [if_neg e1]
        by_cases e2 : b = q
        · rw [if_pos e2]; exact lo a (by omega)
        · rw [if_neg e2]; exact pw_nth_lt h1 hab hb
    have hput : pI (r.set q y) (nth r q) = q := by
      refine pI_char hpw' (by rw [List.length_set]; omega) (fun a ha => ?_) (fun a ha hal => ?_)
      · rw [sn, if_neg (by omega)]
        exact Int.le_of_lt (pw_nth_lt h1 ha hql)
      · rw [List.length_set] at hal
        rw [sn]
        split
        · exact lo q (by omega)
        · exact pw_nth_lt h1 (by omega) hal
    refine ⟨⟨hpw', i1, fun s2 hs2 => ?_⟩, ?_, ?_, ?_, ⟨r, r.set q y, U, q, rfl, rfl, ⟨hql, rfl, .inr ⟨y, lo q (by omega), rfl, fun a ha hal => hi a (by omega) hal⟩⟩⟩⟩
    · have es : s2 = s' := by rw [k2] at hs2; simpa using hs2.symm
      subst es
      rcases k3.two with ⟨_, e2, e3⟩ | ⟨z', z1, z2, z3⟩
      · have hds : Dom r s2 := by rw [e2] at hd; exact dom_drop hd
        refine ⟨by rw [List.length_set]; exact hds.1, fun a ha => ?_⟩
        rw [sn, if_neg (by omega)]
        exact hds.2 a ha
      · have hls : s2.length = s.length := by rw [z2, List.length_set]
        refine ⟨by rw [List.length_set, hls]; exact hd.1, fun a ha => ?_⟩
        rw [hls] at ha
        have sn2 : nth s2 a = if a = j then z' else nth s a := by rw [z2]; exact nth_set _ _ _ _ k3.lt
        rw [sn, sn2]
        have hda := hd.2 a ha
        have haj := k3.at_
        have hspw : s.Pairwise (· < ·) := by
          cases rs with
          | nil => cases k1
          | cons s0 rs0 =>
            have : s0 = s := by simpa using k1
            subst this
            exact h2.1
        by_cases e1 : a = q
        · rw [if_pos e1]
          by_cases e2 : a = j
          · rw [if_pos e2]; exact z1
          · rw [if_neg e2]
            have := pw_nth_lt hspw (show j < a by omega) ha
            omega
        · rw [if_neg e1]
          by_cases e2 : a = j
          · rw [if_pos e2]; subst e2; omega
          · rw [if_neg e2]; exact hda
    · show (r.set q y).length :: U.map List.length = r.length :: (dr rs i).map List.length
      rw [List.length_set, i2]
    · rw [List.flatten_cons, List.flatten_cons, List.append_assoc]
      have a1 : (r.set q y ++ (U.flatten ++ [nth r q])).Perm ((r.set q y ++ [nth r q]) ++ U.flatten) := by
        rw [List.append_assoc]; exact List.Perm.append_left _ List.perm_append_comm
      refine a1.trans (((set_perm' hql).append_right _).trans ?_)
      rw [List.append_assoc]
      exact List.Perm.append_left _ (List.perm_append_comm.trans i3)
    · rw [put, hput, if_pos (by rw [List.length_set]; exact hql)]
      have e1 : nth (r.set q y) q = y := by rw [sn, if_pos rfl]
      rw [e1, i4, List.set_set, set_self hql]
/-- two tableaux of one form -/
structure Gd (P Q : List (List Int)) (n : Nat) : Prop where
  sp : StdE P
  sq : StdE Q
  len : P.map List.length = Q.map List.length
  nq : ∀ v : Int, v ∈ Q.flatten ↔ 0 ≤ v ∧ v < (n : Int)
  qd : Q.flatten.Nodup
  pd : P.flatten.Nodup
theorem dr_lens : ∀ (P Q : List (List Int)) (i : Nat), P.map List.length = Q.map List.length → (dr P i).map List.length = (dr Q i).map List.length
  | [], [], _, _ => rfl
  | [], _ :: _, _, h => by simp at h
  | _ :: _, [], _, h => by simp at h
  | r :: rs, q :: qs, 0, h => by
    rw [List.map_cons, List.map_cons, List.cons.injEq] at h
    simp [dr, h.1, h.2]
  | r :: rs, q :: qs, i + 1, h => by
    rw [List.map_cons, List.map_cons, List.cons.injEq] at h
    simp [dr, h.1, dr_lens rs qs i h.2]
/-- one step back -/
structure Stp (P Q : List (List Int)) (n : Nat) (i : Nat) (P' : List (List Int)) (y : Int) (Q' : List (List Int)) : Prop where
  gd : Gd P' Q' n
  put : put P' y = (P, i)
  perm : (P'.flatten ++ [y]).Perm P.flatten
  qrow : ∃ t, Q[i]? = some (t ++ [(n : Int)])
  prow : ∃ t z, P[i]? = some (t ++ [z]) ∧ ∀ s, P[i + 1]? = some s → s.length ≤ t.length
theorem gd_step {P Q : List (List Int)} {n : Nat} (h : Gd P Q (n + 1)) : Stp P Q n (rowO Q n) (unput P (rowO Q n)).1 (unput P (rowO Q n)).2 (dr Q (rowO Q n)) := by
  obtain ⟨t, q1, q2, q3, q4, _⟩ := q_step n Q h.sq ((h.nq n).2 (by omega)) (fun v hv => by have := (h.nq v).1 hv; omega)
  generalize rowO Q n = i at *
  have hlen : ∀ k : Nat, (P[k]?).map List.length = (Q[k]?).map List.length := fun k => by rw [← List.getElem?_map, ← List.getElem?_map, h.len]
  have hi := hlen i
  rw [q1] at hi
  obtain ⟨r, hr, hrl⟩ : ∃ r, P[i]? = some r ∧ r.length = t.length + 1 := by
    cases hp : P[i]? with
    | none => rw [hp] at hi; simp at hi
    | some r => rw [hp] at hi; simp at hi; exact ⟨r, rfl, hi⟩
  rcases snoc_cases r with rfl | ⟨t', z, rfl⟩
  · simp at hrl
  · have htl : t'.length = t.length := by simpa using hrl
    have hcorner : ∀ s, P[i + 1]? = some s → s.length ≤ t'.length := fun s hs => by
      have hk := hlen (i + 1)
      rw [hs] at hk
      cases hq : Q[i + 1]? with
      | none => rw [hq] at hk; simp at hk
      | some s2 =>
        rw [hq] at hk
        have := q2 s2 hq
        simp at hk
        omega
    obtain ⟨p1, p2, p3, p4, _⟩ := p_step P i t' z h.sp h.pd hr hcorner
    have qnd := (q4.nodup_iff).2 h.qd
    refine ⟨⟨p1, q3, by rw [p2]; exact dr_lens P Q i h.len, fun v => ?_, ?_, ?_⟩, p4, p3, ⟨t, q1⟩, ⟨t', z, hr, hcorner⟩⟩
    · have hm : v ∈ Q.flatten ↔ v ∈ (dr Q i).flatten ∨ v = n := by rw [← q4.mem_iff, List.mem_append]; simp
      have hnn : (n : Int) ∉ (dr Q i).flatten := fun e => by
        rw [List.nodup_append] at qnd
        exact qnd.2.2 n e n (by simp) rfl
      have := h.nq v
      constructor
      · intro hv
        have h1 := this.1 (hm.2 (.inl hv))
        have : v ≠ n := fun e => hnn (e ▸ hv)
        omega
      · intro hv
        rcases hm.1 (this.2 (by omega)) with e | e
        · exact e
        · omega
    · exact (List.nodup_append.1 qnd).1
    · exact (List.nodup_append.1 ((p3.nodup_iff).2 h.pd)).1
def back : Nat → List (List Int) → List (List Int) → List Int
  | 0, _, _ => []
  | n + 1, P, Q => back n (unput P (rowO Q n)).1 (dr Q (rowO Q n)) ++ [(unput P (rowO Q n)).2]
theorem back_len : ∀ n P Q, (back n P Q).length = n
  | 0, _, _ => rfl
  | n + 1, P, Q => by rw [back, List.length_append, back_len n]; rfl
theorem back_perm : ∀ n P Q, Gd P Q n → (back n P Q).Perm P.flatten
  | 0, P, Q, h => by
    have hq : Q.flatten = [] := List.eq_nil_iff_forall_not_mem.2 fun v hv => by have := (h.nq v).1 hv; omega
    have e : ∀ L : List (List Int), L.flatten.length = (L.map List.length).sum := fun L => by rw [List.length_flatten]
    have : P.flatten = [] := List.eq_nil_of_length_eq_zero (by rw [e, h.len, ← e, hq]; rfl)
    rw [this]; exact .refl _
  | n + 1, P, Q, h => by
    have s := gd_step h
    rw [back]
    exact ((back_perm n _ _ s.gd).append_right _).trans s.perm
/-- without the empty rows -/
def trim (L : List (List Int)) : List (List Int) := L.filter fun r => !r.isEmpty
theorem std_tail : ∀ (L : List (List Int)) (r : List Int), StdE (r :: L) → r = [] → trim L = []
  | [], _, _, _ => rfl
  | s :: L, r, h, e => by
    have hd := h.2.2 s rfl
    have hs : s = [] := List.eq_nil_of_length_eq_zero (by have := hd.1; rw [e] at this; simpa using this)
    have := std_tail L s h.2.1 hs
    unfold trim at this ⊢
    rw [List.filter_cons, hs]; simpa using this
theorem trim_put : ∀ (L : List (List Int)) (x : Int), StdE L → trim (put L x).1 = (put (trim L) x).1 ∧ (put (trim L) x).2 = (put L x).2
  | [], x, _ => ⟨by simp [put, trim], by simp [put, trim]⟩
  | r :: L, x, h => by
    by_cases hr : r = []
    · have ht := std_tail L r h hr
      subst hr
      have e1 : trim ([] :: L) = [] := by unfold trim at ht ⊢; rw [List.filter_cons]; simpa using ht
      have e2 : put ([] :: L) x = ([x] :: L, 0) := by rw [put]; simp [pI]
      rw [e1, e2]
      refine ⟨?_, rfl⟩
      unfold trim at ht ⊢
      rw [List.filter_cons, ht]
      simp [put]
    · have e1 : trim (r :: L) = r :: trim L := by
        unfold trim
        rw [List.filter_cons, if_pos (by simpa using hr)]
      have ne : ∀ s : List Int, s.length = r.length → s ≠ [] := fun s hs e => hr (List.eq_nil_of_length_eq_zero (by rw [← hs, e]; rfl))
      rw [e1, put, put]
      split
      · obtain ⟨i1, i2⟩ := trim_put L (nth r (pI r x)) h.2.1
        refine ⟨?_, by rw [i2]⟩
        show trim (r.set (pI r x) x :: _) = _
        unfold trim at i1 ⊢
        rw [List.filter_cons, if_pos (by simpa using hr), i1]
      · refine ⟨?_, rfl⟩
        unfold trim
        rw [List.filter_cons, if_pos (by simp)]
theorem trim_dr (k : Int) : ∀ (Q : List (List Int)) (i : Nat) (t : List Int), Q[i]? = some (t ++ [k]) → StdE Q → StdE (dr Q i) → i ≤ (trim (dr Q i)).length ∧ qPut (trim (dr Q i)) i k = trim Q
  | [], i, t, h, _, _ => by simp at h
  | r :: Q, 0, t, h, hS, hS' => by
    have hr : r = t ++ [k] := by simpa using h
    subst hr
    have ed : dr ((t ++ [k]) :: Q) 0 = t :: Q := by rw [dr, List.dropLast_concat]
    rw [ed] at hS' ⊢
    have e2 : trim ((t ++ [k]) :: Q) = (t ++ [k]) :: trim Q := by unfold trim; rw [List.filter_cons, if_pos (by simp)]
    rw [e2]
    refine ⟨Nat.zero_le _, ?_⟩
    by_cases ht : t = []
    · have h3 := std_tail Q t hS' ht
      subst ht
      have e1 : trim ([] :: Q) = [] := by unfold trim at h3 ⊢; rw [List.filter_cons]; simpa using h3
      rw [e1, h3]; rfl
    · have e1 : trim (t :: Q) = t :: trim Q := by unfold trim; rw [List.filter_cons, if_pos (by simpa using ht)]
      rw [e1, qPut_head]
  | r :: Q, i + 1, t, h, hS, hS' => by
    rw [List.getElem?_cons_succ] at h
    have hr : r ≠ [] := fun e => by
      have h3 := std_tail Q r hS e
      have hm : t ++ [k] ∈ trim Q := by
        unfold trim
        exact List.mem_filter.2 ⟨List.mem_of_getElem? h, by simp⟩
      rw [h3] at hm; simp at hm
    have e1 : ∀ L, trim (r :: L) = r :: trim L := fun L => by unfold trim; rw [List.filter_cons, if_pos (by simpa using hr)]
    obtain ⟨i1, i2⟩ := trim_dr k Q i t h hS.2.1 hS'.2.1
    rw [dr, e1, e1, qPut_succ, i2]
    exact ⟨by simpa using i1, rfl⟩
theorem rsk_pre (l m : List Int) : ∀ k, (∀ i, i < k → nth l i = nth m i) → rsk l k = rsk m k
  | 0, _ => rfl
  | k + 1, h => by rw [rsk, rsk, rsk_pre l m k (fun i hi => h i (by omega)), h k (by omega)]
/-- ROBINSON, SCHENSTED: each two such tell an order -/
theorem rsk_back : ∀ n P Q, Gd P Q n → rsk (back n P Q) n = (trim P, trim Q)
  | 0, P, Q, h => by
    have hq : Q.flatten = [] := List.eq_nil_iff_forall_not_mem.2 fun v hv => by have := (h.nq v).1 hv; omega
    have e : ∀ L : List (List Int), L.flatten.length = (L.map List.length).sum := fun L => by rw [List.length_flatten]
    have hp : P.flatten = [] := List.eq_nil_of_length_eq_zero (by rw [e, h.len, ← e, hq]; rfl)
    have tz : ∀ L : List (List Int), L.flatten = [] → trim L = [] := fun L hL => by
      unfold trim
      rw [List.filter_eq_nil_iff]
      intro r hr
      have := List.flatten_eq_nil_iff.1 hL r hr
      simp [this]
    rw [tz P hp, tz Q hq]; rfl
  | n + 1, P, Q, h => by
    have s := gd_step h
    have ih := rsk_back n _ _ s.gd
    obtain ⟨t, q1⟩ := s.qrow
    have hb : back (n + 1) P Q = back n (unput P (rowO Q n)).1 (dr Q (rowO Q n)) ++ [(unput P (rowO Q n)).2] := rfl
    generalize (unput P (rowO Q n)).1 = P' at *
    generalize (unput P (rowO Q n)).2 = y at *
    generalize rowO Q n = i at *
    have hl := back_len n P' (dr Q i)
    have hpre : rsk (back (n + 1) P Q) n = (trim P', trim (dr Q i)) := by
      rw [← ih]
      refine rsk_pre _ _ n fun k hk => ?_
      rw [hb, nth_snoc, if_neg (by omega)]
    have hy : nth (back (n + 1) P Q) n = y := by rw [hb, nth_snoc, if_pos hl.symm]
    rw [rsk, hpre, hy]
    obtain ⟨t1, t2⟩ := trim_put P' y s.gd.sp
    simp only
    rw [← t1, t2, s.put]
    simp only
    rw [(trim_dr n Q i t q1 h.sq s.gd.sq).2]

/-- what was put in comes out -/
theorem unput_put : ∀ (T : List (List Int)) (x : Int), StdE T → T.flatten.Nodup → x ∉ T.flatten → unput (put T x).1 (put T x).2 = (if (put T x).2 < T.length then T else T ++ [[]], x)
  | [], x, _, _, _ => by simp [put, unput, nth]
  | r :: rs, x, hS, hn, hx => by
    obtain ⟨h1, h2, h3⟩ := hS
    rw [List.flatten_cons, List.nodup_append] at hn
    rw [List.flatten_cons] at hx
    have hxr : x ∉ r := fun h => hx (List.mem_append_left _ h)
    rw [put]
    by_cases hk : pI r x < r.length
    · rw [if_pos hk]
      have hb := nth_mem r _ hk
      have ih := unput_put rs (nth r (pI r x)) h2 hn.2.1 (fun h => hn.2.2 _ hb _ h rfl)
      have hlt := pI_hi r x hk
      have hpw : (r.set (pI r x) x).Pairwise (· < ·) := by have := set_pw h1 hxr; rwa [if_pos hk] at this
      generalize pI r x = k at *
      have sn : ∀ a, nth (r.set k x) a = if a = k then x else nth r a := fun a => nth_set _ _ _ _ hk
      have e : pI (r.set k x) (nth r k) = k + 1 := by
        refine pI_char hpw (by rw [List.length_set]; omega) (fun a ha => ?_) (fun a ha hal => ?_)
        · rw [sn]
          split
          · omega
          · exact Int.le_of_lt (pw_nth_lt h1 (by omega) hk)
        · rw [List.length_set] at hal
          rw [sn, if_neg (by omega)]
          exact pw_nth_lt h1 (by omega) hal
      simp only
      rw [unput, ih]
      simp only
      rw [e, Nat.add_sub_cancel, List.set_set, set_self hk, sn, if_pos rfl]
      simp only [List.length_cons, Nat.add_lt_add_iff_right]
      split <;> rfl
    · rw [if_neg hk]
      simp only
      rw [unput, List.dropLast_concat, snoc_last, if_pos (by simp)]
theorem rowO_put (n : Int) : ∀ (Q : List (List Int)) (i : Nat), i ≤ Q.length → n ∉ Q.flatten → rowO (qPut Q i n) n = i ∧ dr (qPut Q i n) i = (if i < Q.length then Q else Q ++ [[]])
  | [], i, hi, _ => by
    have : i = 0 := by simpa using hi
    subst this
    simp [qPut, qPre, rowO, dr]
  | q :: Q, 0, _, _ => by
    rw [qPut_head, rowO, if_pos (by simp), if_pos (by simp), dr, List.dropLast_concat]
    exact ⟨rfl, rfl⟩
  | q :: Q, i + 1, hi, hn => by
    rw [List.flatten_cons] at hn
    obtain ⟨i1, i2⟩ := rowO_put n Q i (by simpa using hi) (fun h => hn (List.mem_append_right _ h))
    have hq : ¬ q.getLast? = some n := fun e => hn (List.mem_append_left _ (List.mem_of_getLast? e))
    rw [qPut_succ, rowO, if_neg hq, i1, dr, i2]
    refine ⟨rfl, ?_⟩
    simp only [List.length_cons, Nat.add_lt_add_iff_right]
    split <;> rfl
theorem trim_full {L : List (List Int)} (h : ∀ r ∈ L, r ≠ []) : trim L = L ∧ trim (L ++ [[]]) = L := by
  have : trim L = L := by
    unfold trim
    rw [List.filter_eq_self]
    intro r hr
    simpa using h r hr
  refine ⟨this, ?_⟩
  unfold trim at this ⊢
  rw [List.filter_append, this]; simp
theorem put_flat : ∀ (T : List (List Int)) (x : Int), ((put T x).1.flatten).Perm (T.flatten ++ [x])
  | [], x => by simp [put]
  | r :: rs, x => by
    rw [put]
    split
    · next h =>
      show (r.set _ x ++ (put rs _).1.flatten).Perm _
      refine ((put_flat rs _).append_left _).trans ?_
      rw [List.flatten_cons, ← List.append_assoc]
      have a1 : (r.set (pI r x) x ++ rs.flatten ++ [nth r (pI r x)]).Perm ((r.set (pI r x) x ++ [nth r (pI r x)]) ++ rs.flatten) := by
        rw [List.append_assoc, List.append_assoc]; exact List.Perm.append_left _ List.perm_append_comm
      refine a1.trans (((set_perm' h).append_right _).trans ?_)
      rw [List.append_assoc, List.append_assoc]
      exact List.Perm.append_left _ List.perm_append_comm
    · show ((r ++ [x]) ++ rs.flatten).Perm _
      rw [List.flatten_cons, List.append_assoc, List.append_assoc]
      exact List.Perm.append_left _ List.perm_append_comm
theorem rsk_flat (l : List Int) : ∀ k, k ≤ l.length → ((rsk l k).1.flatten).Perm (l.take k)
  | 0, _ => by simp [rsk]
  | k + 1, h => by
    rw [rsk, take_nth l k (by omega)]
    exact (put_flat _ _).trans ((rsk_flat l k (by omega)).append_right _)
theorem qPut_flat : ∀ (Q : List (List Int)) (i : Nat) (k : Int), i ≤ Q.length → (qPut Q i k).flatten.Perm (Q.flatten ++ [k])
  | [], i, k, h => by
    have : i = 0 := by simpa using h
    subst this
    simp [qPut, qPre]
  | q :: Q, 0, k, _ => by
    rw [qPut_head, List.flatten_cons, List.flatten_cons, List.append_assoc, List.append_assoc]
    exact List.Perm.append_left _ List.perm_append_comm
  | q :: Q, i + 1, k, h => by
    rw [qPut_succ, List.flatten_cons, List.flatten_cons, List.append_assoc]
    exact List.Perm.append_left _ (qPut_flat Q i k (by simpa using h))
theorem rskQ_mem (l : List Int) : ∀ k, ∀ v : Int, v ∈ (rsk l k).2.flatten ↔ 0 ≤ v ∧ v < (k : Int)
  | 0, v => by simp [rsk] <;> omega
  | k + 1, v => by
    have h1 := (put_shape (rsk l k).1 (nth l k)).1
    have h2 := (rsk_bd l k).2.1
    rw [rsk]
    show v ∈ (qPut _ _ _).flatten ↔ _
    rw [(qPut_flat _ _ _ (by omega)).mem_iff, List.mem_append, rskQ_mem l k v]
    simp
    omega
/-- an order is told by its two tableaux -/
theorem rsk_inj (c l : List Int) : ∀ n, n ≤ c.length → n ≤ l.length → (c.take n).Nodup → (l.take n).Nodup → (∀ k, k ≤ n → StdE (rsk c k).1) → (∀ k, k ≤ n → StdE (rsk l k).1) → rsk c n = rsk l n → ∀ i, i < n → nth c i = nth l i
  | 0, _, _, _, _, _, _, _, i, hi => by omega
  | n + 1, hc, hl, nc, nl, sc, sl, e, i, hi => by
    have pos : ∀ m : List Int, (∀ r ∈ (rsk m n).1, r ≠ []) ∧ ∀ r ∈ (rsk m n).2, r ≠ [] := fun m => by
      obtain ⟨h1, _, h3⟩ := rsk_shape m n
      refine ⟨fun r hr e => ?_, fun r hr e => ?_⟩
      · have := h3 r.length (List.mem_map_of_mem hr)
        rw [e] at this; simp at this
      · have := h3 r.length (by rw [h1]; exact List.mem_map_of_mem hr)
        rw [e] at this; simp at this
    rw [take_nth c n (by omega)] at nc
    rw [take_nth l n (by omega)] at nl
    obtain ⟨nc1, nc2⟩ := nodup_snoc nc
    obtain ⟨nl1, nl2⟩ := nodup_snoc nl
    have fc := rsk_flat c n (by omega)
    have fl := rsk_flat l n (by omega)
    have uc := unput_put (rsk c n).1 (nth c n) (sc n (by omega)) (fc.nodup_iff.2 nc1) (fun h => nc2 (fc.mem_iff.1 h))
    have ul := unput_put (rsk l n).1 (nth l n) (sl n (by omega)) (fl.nodup_iff.2 nl1) (fun h => nl2 (fl.mem_iff.1 h))
    have lc := (put_shape (rsk c n).1 (nth c n)).1
    have ll := (put_shape (rsk l n).1 (nth l n)).1
    have kc := (rsk_bd c n).2.1
    have kl := (rsk_bd l n).2.1
    obtain ⟨rc1, rc2⟩ := rowO_put (n : Int) (rsk c n).2 (put (rsk c n).1 (nth c n)).2 (by omega) (fun h => by have := (rskQ_mem c n _).1 h; omega)
    obtain ⟨rl1, rl2⟩ := rowO_put (n : Int) (rsk l n).2 (put (rsk l n).1 (nth l n)).2 (by omega) (fun h => by have := (rskQ_mem l n _).1 h; omega)
    rw [rsk, rsk, Prod.mk.injEq] at e
    obtain ⟨e1, e2⟩ := e
    rw [e2, rl1] at rc1
    rw [e1, ← rc1, ul] at uc
    rw [e2, ← rc1, rl2] at rc2
    rw [Prod.mk.injEq] at uc
    obtain ⟨u1, u2⟩ := uc
    have tp : (rsk c n).1 = (rsk l n).1 := by
      have := congrArg trim u1
      have a := trim_full (pos c).1
      have b := trim_full (pos l).1
      split at this <;> split at this <;> simp_all
    have tq : (rsk c n).2 = (rsk l n).2 := by
      have := congrArg trim rc2
      have a := trim_full (pos c).2
      have b := trim_full (pos l).2
      split at this <;> split at this <;> simp_all
    by_cases hin : i = n
    · subst hin; exact u2.symm
    · exact rsk_inj c l n (by omega) (by omega) nc1 nl1 (fun k hk => sc k (by omega)) (fun k hk => sl k (by omega)) (Prod.ext tp tq) i (by omega)
theorem stdT_E : ∀ {T : List (List Int)}, StdT T → StdE T
  | [], _ => trivial
  | _ :: _, h => ⟨h.2.1, stdT_E h.2.2.1, h.2.2.2⟩
end Go.Proofs.Ytooghdnlaonkaaa
