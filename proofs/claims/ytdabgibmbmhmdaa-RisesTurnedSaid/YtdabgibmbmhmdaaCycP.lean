/- Plain laws of signs: turns, changes and crossings. -/
import Derived.Test.YtdabgibmbmhmdaaCycM2
namespace Go.Proofs.Ytdabgibmbmhmdaa
open Go.RowKit

/-! turns and changes -/
section
variable {o : List Int} (h : IsP o)
include h
omit h in
theorem pf_sw_at {x : Nat} (hx : x ≤ o.length) : pf (sw o o.length x) x = o.length := by
  unfold pf; rw [sw_nth _ _ _ hx, if_pos rfl]; simp
omit h in
theorem pf_sw_last {x : Nat} (hx : x < o.length) : pf (sw o o.length x) o.length = pf o x := by
  unfold pf; rw [sw_nth _ _ _ (by omega), if_neg (by omega), if_pos rfl]
omit h in
theorem pf_sw_else {x i : Nat} (hx : x ≤ o.length) (h1 : i ≠ x) (h2 : i < o.length) : pf (sw o o.length x) i = pf o i := by
  unfold pf; rw [sw_nth _ _ _ hx, if_neg h1, if_neg (by omega)]
/-- the way in o is in the new one -/
theorem sw_way {x v : Nat} (hx : x ≤ o.length) (hv : v < o.length) : ∀ t, ∃ t', itP (sw o o.length x) t' v = itP o t v
  | 0 => ⟨0, rfl⟩
  | t + 1 => by
    obtain ⟨t', e⟩ := sw_way hx hv t
    have hu := itP_lt h hv t
    by_cases hxu : itP o t v = x
    · refine ⟨t' + 2, ?_⟩
      rw [itP, itP, e, hxu, pf_sw_at hx, pf_sw_last (by omega)]
      rw [itP, hxu]
    · exact ⟨t' + 1, by rw [itP, e, pf_sw_else hx hxu hu, itP]⟩
/-- the way in the new one is in o, but for the new place -/
theorem sw_way' {x v : Nat} (hx : x ≤ o.length) (hv : v < o.length) : ∀ t, (∃ t', itP (sw o o.length x) t v = itP o t' v) ∨ (itP (sw o o.length x) t v = o.length ∧ x < o.length ∧ ∃ t', itP o t' v = x)
  | 0 => .inl ⟨0, rfl⟩
  | t + 1 => by
    rcases sw_way' hx hv t with ⟨t', e⟩ | ⟨e, hxl, t', e'⟩
    · have hu := itP_lt h hv t'
      by_cases hxu : itP o t' v = x
      · exact .inr ⟨by rw [itP, e, hxu, pf_sw_at hx], by omega, t', hxu⟩
      · exact .inl ⟨t' + 1, by rw [itP, e, pf_sw_else hx hxu hu, itP]⟩
    · exact .inl ⟨t' + 1, by rw [itP, e, pf_sw_last hxl, itP, e']⟩
theorem isMin_sw {x v : Nat} (hx : x ≤ o.length) (hv : v < o.length) : isMinB (sw o o.length x) v = isMinB o v := by
  unfold isMinB
  rw [Bool.eq_iff_iff]
  simp only [decide_eq_true_eq]
  constructor
  · intro hall t
    obtain ⟨t', e⟩ := sw_way h hx hv t
    rw [← e]; exact hall t'
  · intro hall t
    rcases sw_way' h hx hv t with ⟨t', e⟩ | ⟨e, _⟩
    · rw [e]; exact hall t'
    · rw [e]; omega
theorem isMin_sw_last {x : Nat} (hx : x ≤ o.length) : isMinB (sw o o.length x) o.length = decide (x = o.length) := by
  unfold isMinB
  rw [Bool.eq_iff_iff]
  simp only [decide_eq_true_eq]
  constructor
  · intro hall
    refine Classical.byContradiction fun hne => ?_
    have h1 := hall 1
    rw [show itP (sw o o.length x) 1 o.length = pf (sw o o.length x) o.length from rfl, pf_sw_last (by omega)] at h1
    have := pf_lt h (show x < o.length by omega)
    omega
  · rintro rfl t
    have : ∀ t, itP (sw o o.length o.length) t o.length = o.length := fun t => by
      induction t with
      | zero => rfl
      | succ t ih => rw [itP, ih, pf_sw_at (Nat.le_refl _)]
    rw [this t]; exact Nat.le_refl _
theorem cntMin_sw {x : Nat} (hx : x ≤ o.length) : cntMin (sw o o.length x) (o.length + 1) = cntMin o o.length + if x = o.length then 1 else 0 := by
  rw [cntMin_succ, isMin_sw_last h hx]
  have : cntMin (sw o o.length x) o.length = cntMin o o.length := by
    unfold cntMin
    exact List.countP_congr fun v hv => by rw [isMin_sw h hx (List.mem_range.1 hv)]
  rw [this]
  by_cases e : x = o.length
  · simp [e]
  · simp [e]
end
/-- how many changes make it -/
def mvN : Nat → List Int → Nat
  | 0, _ => 0
  | i + 1, q => mvN i (unsw q i) + if idxL q i = i then 0 else 1
theorem turns_moves : ∀ (n : Nat) (q : List Int), q.length = n → IsP q → cntMin q n + mvN n q = n
  | 0, q, hl, h => by simp [cntMin, mvN]
  | n + 1, q, hl, h => by
    obtain ⟨a1, a2, a3, a4, a5⟩ := sw_unsw q n hl h
    have ih := turns_moves n (unsw q n) a3 a4
    have e := cntMin_sw a4 (x := idxL q n) (by rw [a3]; exact a1)
    rw [a3, a5] at e
    rw [e, mvN]
    split <;> omega

/-! changes and crossings -/
def invN : List Int → Nat
  | [] => 0
  | x :: l => lessC x l + invN l
theorem invN_code : ∀ l, ((invN l : Nat) : Int) = isumR (codeL l)
  | [] => rfl
  | x :: l => by rw [invN, codeL, isumR, ← invN_code l]; omega
theorem invN_app (A B : List Int) (hAB : ∀ a ∈ A, ∀ b ∈ B, a < b) : invN (A ++ B) = invN A + invN B := by
  induction A with
  | nil => simp [invN]
  | cons a A ih =>
    have h0 : lessC a B = 0 := List.countP_eq_zero.2 fun b hb => by have := hAB a List.mem_cons_self b hb; simp; omega
    rw [List.cons_append, invN, invN, lessC_app, h0, ih (fun a' ha' => hAB a' (List.mem_cons_of_mem _ ha'))]; omega
def gtC (x : Int) (l : List Int) : Nat := l.countP (fun y => decide (x < y))
theorem lt_gt (x : Int) (l : List Int) (h : x ∉ l) : lessC x l + gtC x l = l.length := by
  induction l with
  | nil => rfl
  | cons y l ih =>
    have h1 : x ≠ y := fun e => h (e ▸ List.mem_cons_self)
    have := ih (fun hm => h (List.mem_cons_of_mem _ hm))
    rw [lessC_cons]
    unfold gtC at this ⊢
    rw [List.countP_cons, List.length_cons]
    by_cases c : y < x
    · rw [if_pos c]; simp [show ¬ x < y by omega]; omega
    · rw [if_neg c]; simp [show x < y by omega]; omega
/-- crossings of what stands ahead with what stands behind -/
def xx : List Int → List Int → Nat
  | [], _ => 0
  | a :: A, B => lessC a B + xx A B
theorem invN_split (A B : List Int) : invN (A ++ B) = invN A + xx A B + invN B := by
  induction A with
  | nil => simp [invN, xx]
  | cons a A ih => rw [List.cons_append, invN, invN, xx, lessC_app, ih]; omega
theorem xx_cons (A : List Int) (y : Int) (B : List Int) : xx A (y :: B) = gtC y A + xx A B := by
  induction A with
  | nil => rfl
  | cons a A ih =>
    rw [xx, xx, ih, lessC_cons]
    unfold gtC
    rw [List.countP_cons]
    by_cases c : y < a
    · rw [if_pos c]; simp [c]; omega
    · rw [if_neg c]; simp [c]; omega
/-- two changed: odd -/
theorem inv_change (A B C : List Int) (x y : Int) (hxy : x ≠ y) (hxB : x ∉ B) (hyB : y ∉ B) : (invN (A ++ x :: (B ++ y :: C)) + invN (A ++ y :: (B ++ x :: C))) % 2 = 1 := by
  have e : ∀ x y : Int, invN (A ++ x :: (B ++ y :: C)) = invN A + (gtC x A + (xx A B + gtC y A + xx A C)) + (lessC x B + (lessC x C + if y < x then 1 else 0) + (invN B + (gtC y B + xx B C) + (lessC y C + invN C))) := fun x y => by
    have hx : xx A (B ++ y :: C) = xx A B + gtC y A + xx A C := by
      have : ∀ B' : List Int, xx A (B' ++ y :: C) = xx A B' + (gtC y A + xx A C) := fun B' => by
        induction B' with
        | nil => rw [List.nil_append, xx_cons]; have : xx A [] = 0 := by induction A with | nil => rfl | cons a A ih => rw [xx, ih]; rfl
                 omega
        | cons b B' ih => rw [List.cons_append, xx_cons, ih, xx_cons]; omega
      rw [this]; omega
    rw [invN_split, xx_cons, hx, invN, lessC_app, lessC_cons, invN_split B, xx_cons, invN]
  rw [e x y, e y x]
  have h1 := lt_gt x B hxB
  have h2 := lt_gt y B hyB
  rcases Int.lt_or_gt_of_ne hxy with c | c
  · rw [if_neg (show ¬ y < x by omega), if_pos c]; omega
  · rw [if_pos (show y < x by omega), if_neg (show ¬ x < y by omega)]; omega
theorem swp_split (p : List Int) (a b : Nat) (hab : a < b) (hb : b < p.length) : ∃ A B C, p = A ++ nth p a :: (B ++ nth p b :: C) ∧ swp p a b = A ++ nth p b :: (B ++ nth p a :: C) ∧ A.length = a ∧ A.length + 1 + B.length = b := by
  have n1 : nth p a = p[a]'(by omega) := by simp [nth, show a < p.length by omega]
  have n2 : nth p b = p[b] := by simp [nth, hb]
  have e1 : p = p.take a ++ nth p a :: p.drop (a + 1) := by rw [n1, ← List.drop_eq_getElem_cons (by omega), List.take_append_drop]
  have e2 : p.drop (a + 1) = (p.drop (a + 1)).take (b - a - 1) ++ nth p b :: p.drop (b + 1) := by
    have h3 : (p.drop (a + 1)).drop (b - a - 1) = p.drop b := by rw [List.drop_drop]; congr 1; omega
    have h4 : p.drop b = nth p b :: p.drop (b + 1) := by rw [n2, ← List.drop_eq_getElem_cons hb]
    rw [← h4, ← h3, List.take_append_drop]
  have la : (p.take a).length = a := by rw [List.length_take]; omega
  have lb : ((p.drop (a + 1)).take (b - a - 1)).length = b - a - 1 := by rw [List.length_take, List.length_drop]; omega
  refine ⟨p.take a, (p.drop (a + 1)).take (b - a - 1), p.drop (b + 1), ?_, ?_, la, by omega⟩
  · rw [← e2]; exact e1
  · have e3 : p = p.take a ++ nth p a :: ((p.drop (a + 1)).take (b - a - 1) ++ nth p b :: p.drop (b + 1)) := by rw [← e2]; exact e1
    unfold swp
    generalize nth p a = x at *
    generalize nth p b = y at *
    generalize p.take a = A at *
    generalize (p.drop (a + 1)).take (b - a - 1) = B at *
    generalize p.drop (b + 1) = C at *
    subst e3
    rw [List.set_append_right _ _ (by omega), List.set_append_right _ _ (by omega), show a - A.length = 0 by omega, show b - A.length = (B.length) + 1 by omega, List.set_cons_zero, List.set_cons_succ, List.set_append_right _ _ (Nat.le_refl _), Nat.sub_self, List.set_cons_zero]
theorem swp_comm (p : List Int) (a b : Nat) (ha : a < p.length) (hb : b < p.length) : swp p a b = swp p b a := by
  refine ext_nth (by rw [swp_len, swp_len]) fun i hi => ?_
  rw [swp_nth _ _ _ _ ha hb, swp_nth _ _ _ _ hb ha]
  by_cases h1 : i = b <;> by_cases h2 : i = a
  · rw [if_pos h1, if_pos h2]; rw [← h1, ← h2]
  · rw [if_pos h1, if_neg h2, if_pos h1]
  · rw [if_neg h1, if_pos h2, if_pos h2]
  · rw [if_neg h1, if_neg h2, if_neg h2, if_neg h1]
theorem inv_swp {p : List Int} (h : IsP p) {a b : Nat} (ha : a < p.length) (hb : b < p.length) (hne : a ≠ b) : (invN p + invN (swp p a b)) % 2 = 1 := by
  have main : ∀ a b, a < b → b < p.length → (invN p + invN (swp p a b)) % 2 = 1 := fun a b hab hb => by
    obtain ⟨A, B, C, e1, e2, l1, l2⟩ := swp_split p a b hab hb
    have nd : ∀ i j, i < p.length → j < p.length → i ≠ j → nth p i ≠ nth p j := fun i j hi hj hij e => hij (h.inj i j hi hj e)
    have hB : ∀ k, k < B.length → nth p (a + 1 + k) = nth B k := fun k hk => by
      have na : ∀ (u v : List Int) (i : Nat), nth (u ++ v) (u.length + i) = nth v i := fun u v i => by
        unfold nth; rw [List.getD_eq_getElem?_getD, List.getD_eq_getElem?_getD, List.getElem?_append_right (by omega)]; congr 2; omega
      have nb : ∀ (u v : List Int) (i : Nat), i < u.length → nth (u ++ v) i = nth u i := fun u v i hi => by
        unfold nth; rw [List.getD_eq_getElem?_getD, List.getD_eq_getElem?_getD, List.getElem?_append_left hi]
      rw [e1, show a + 1 + k = A.length + (k + 1) by omega, na]
      rw [show nth (nth p a :: (B ++ nth p b :: C)) (k + 1) = nth (B ++ nth p b :: C) k from rfl, nb _ _ _ hk]
    have hxB : nth p a ∉ B := fun hm => by
      obtain ⟨k, hk, e⟩ := List.getElem_of_mem hm
      have : nth B k = nth p a := by simp [nth, hk] at e ⊢; exact e
      rw [← hB k hk] at this
      exact nd _ _ (by omega) (by omega) (by omega) this
    have hyB : nth p b ∉ B := fun hm => by
      obtain ⟨k, hk, e⟩ := List.getElem_of_mem hm
      have : nth B k = nth p b := by simp [nth, hk] at e ⊢; exact e
      rw [← hB k hk] at this
      exact nd _ _ (by omega) (by omega) (by omega) this
    have key := inv_change A B C (nth p a) (nth p b) (nd a b (by omega) hb (by omega)) hxB hyB
    rw [← e2, ← e1] at key; exact key
  rcases Nat.lt_or_gt_of_ne hne with c | c
  · exact main a b c hb
  · rw [swp_comm p a b ha hb]; exact main b a c ha
/-! an order of the first ones, and all others where they are -/
def extP (o : List Int) (n : Nat) : List Int := o ++ (List.range' o.length (n - o.length)).map fun i : Nat => (i : Int)
theorem extP_len (o : List Int) (n : Nat) (h : o.length ≤ n) : (extP o n).length = n := by simp [extP]; omega
theorem extP_nth (o : List Int) (n i : Nat) (_ho : o.length ≤ n) (hi : i < n) : nth (extP o n) i = if i < o.length then nth o i else i := by
  unfold extP nth
  rw [List.getD_eq_getElem?_getD, List.getElem?_append]
  by_cases c : i < o.length
  · rw [if_pos c, if_pos c]; simp [c]
  · rw [if_neg c, if_neg c, List.getElem?_map, List.getElem?_range' (by omega)]; simp; omega
theorem extP_all (o : List Int) : extP o o.length = o := by simp [extP]
theorem extP_nil (n : Nat) : extP [] n = (List.range n).map fun i : Nat => (i : Int) := by simp [extP, List.range_eq_range']
theorem extP_sw (o : List Int) (x n : Nat) (hx : x ≤ o.length) (hn : o.length < n) : extP (sw o o.length x) n = swp (extP o n) o.length x := by
  refine ext_nth (by rw [extP_len _ _ (by rw [sw_len]; omega), swp_len, extP_len _ _ (by omega)]) fun i hi => ?_
  rw [extP_len _ _ (by rw [sw_len]; omega)] at hi
  rw [extP_nth _ _ _ (by rw [sw_len]; omega) hi, swp_nth _ _ _ _ (by rw [extP_len _ _ (by omega)]; exact hn) (by rw [extP_len _ _ (by omega)]; omega), sw_len]
  rw [extP_nth o n i (by omega) hi, extP_nth o n o.length (by omega) hn, extP_nth o n x (by omega) (by omega), if_neg (Nat.lt_irrefl _)]
  by_cases c : i < o.length + 1
  · rw [if_pos c, sw_nth _ _ _ hx]
    by_cases e1 : i = x
    · rw [if_pos e1, if_pos e1]
    · rw [if_neg e1, if_neg e1]
      by_cases e2 : i = o.length
      · rw [if_pos e2, if_pos e2, if_pos (by omega)]
      · rw [if_neg e2, if_neg e2, if_pos (by omega)]
  · rw [if_neg c, if_neg (by omega), if_neg (by omega), if_neg (by omega)]
theorem extP_isP {o : List Int} (h : IsP o) : ∀ n, o.length ≤ n → IsP (extP o n) := fun n hn => by
  have l := extP_len o n hn
  refine ⟨fun i hi => ?_, fun i j hi hj e => ?_⟩
  · rw [l] at hi ⊢
    rw [extP_nth _ _ _ hn hi]; split
    · next c => have := h.bd i c; omega
    · omega
  · rw [l] at hi hj
    rw [extP_nth _ _ _ hn hi, extP_nth _ _ _ hn hj] at e
    by_cases c1 : i < o.length <;> by_cases c2 : j < o.length
    · rw [if_pos c1, if_pos c2] at e; exact h.inj i j c1 c2 e
    · rw [if_pos c1, if_neg c2] at e; have := h.bd i c1; omega
    · rw [if_neg c1, if_pos c2] at e; have := h.bd j c2; omega
    · rw [if_neg c1, if_neg c2] at e; omega
theorem tm_swp {a b : List Int} (u v : Nat) (hu : u < b.length) (hv : v < b.length) : tmL a (swp b u v) = swp (tmL a b) u v := by
  refine ext_nth (by rw [tmL_len, swp_len, swp_len, tmL_len]) fun i hi => ?_
  rw [tmL_len, swp_len] at hi
  rw [tmL_nth _ _ _ (by rw [swp_len]; exact hi), swp_nth _ _ _ _ hu hv, swp_nth _ _ _ _ (by rw [tmL_len]; exact hu) (by rw [tmL_len]; exact hv), tmL_nth _ _ _ hu, tmL_nth _ _ _ hv, tmL_nth _ _ _ hi]
  split
  · rfl
  · split <;> rfl
/-- the crossings of a after b: those of a, and as many changes as make b, but for twos -/
theorem inv_tm_ext {a : List Int} (ha : IsP a) : ∀ (i : Nat) (o : List Int), o.length = i → IsP o → i ≤ a.length → (invN (tmL a (extP o a.length)) + invN a + mvN i o) % 2 = 0
  | 0, o, hl, _, _ => by
    rw [List.eq_nil_of_length_eq_zero hl]
    have : tmL a (extP [] a.length) = a := by
      refine ext_nth (by rw [tmL_len, extP_len _ _ (by simp)]) fun i hi => ?_
      rw [tmL_len, extP_len _ _ (by simp)] at hi
      rw [tmL_nth _ _ _ (by rw [extP_len _ _ (by simp)]; exact hi), extP_nth _ _ _ (by simp) hi, if_neg (by simp)]
      simp
    rw [this, mvN]; omega
  | i + 1, q, hl, h, hi => by
    obtain ⟨a1, a2, a3, a4, a5⟩ := sw_unsw q i hl h
    have ih := inv_tm_ext ha i (unsw q i) a3 a4 (by omega)
    have e := extP_sw (unsw q i) (idxL q i) a.length (by rw [a3]; exact a1) (by rw [a3]; omega)
    rw [a3, a5] at e
    have lx := extP_len (unsw q i) a.length (by rw [a3]; omega)
    rw [e, tm_swp _ _ (by rw [lx]; omega) (by rw [lx]; omega), mvN]
    by_cases c : idxL q i = i
    · rw [if_pos c, c]
      have : swp (tmL a (extP (unsw q i) a.length)) i i = tmL a (extP (unsw q i) a.length) := by
        have lt : (tmL a (extP (unsw q i) a.length)).length = a.length := by rw [tmL_len, lx]
        refine ext_nth (by rw [swp_len]) fun j hj => ?_
        rw [swp_nth _ _ _ _ (by rw [lt]; omega) (by rw [lt]; omega)]
        split
        · next e => rw [e]
        · rfl
      rw [this]; omega
    · rw [if_neg c]
      have hp := tm_isP ha (extP_isP a4 a.length (by rw [a3]; omega)) (by rw [lx])
      have := inv_swp hp (a := i) (b := idxL q i) (by rw [tmL_len, lx]; omega) (by rw [tmL_len, lx]; omega) (fun e => c e.symm)
      omega
theorem inv_id (n : Nat) : invN (extP [] n) = 0 := by
  have : ∀ (k s : Nat), invN ((List.range' s k).map fun i : Nat => (i : Int)) = 0 := fun k => by
    induction k with
    | zero => intro s; rfl
    | succ k ih =>
      intro s
      rw [List.range'_succ, List.map_cons, invN, ih (s + 1)]
      have : lessC (s : Int) ((List.range' (s + 1) k).map fun i : Nat => (i : Int)) = 0 := List.countP_eq_zero.2 fun b hb => by
        obtain ⟨u, hu, rfl⟩ := List.mem_map.1 hb
        have := List.mem_range'.1 hu
        simp; omega
      omega
  unfold extP; simpa using this n 0
theorem id_tm {b : List Int} (hb : IsP b) : tmL (extP [] b.length) b = b := by
  refine ext_nth (by rw [tmL_len]) fun i hi => ?_
  rw [tmL_len] at hi
  have := hb.at i hi
  rw [tmL_nth _ _ _ hi, extP_nth _ _ _ (by simp) this.1, if_neg (by simp), this.2]
/-- as many crossings as changes, but for twos -/
theorem inv_moves {b : List Int} (hb : IsP b) : (invN b + mvN b.length b) % 2 = 0 := by
  have l := extP_len [] b.length (by simp)
  have := inv_tm_ext (extP_isP IsP.nil b.length (by simp)) b.length b rfl hb (by rw [l]; exact Nat.le_refl _)
  rw [l, extP_all, id_tm hb, inv_id] at this
  omega
theorem inv_tm_par {a b : List Int} (ha : IsP a) (hb : IsP b) (hl : a.length = b.length) : (invN (tmL a b) + invN a + invN b) % 2 = 0 := by
  have h1 := inv_tm_ext ha b.length b rfl hb (by omega)
  rw [hl, extP_all] at h1
  have h2 := inv_moves hb
  omega
theorem inv_inv_par {a : List Int} (ha : IsP a) : (invN (invL a) + invN a) % 2 = 0 := by
  have h1 := inv_tm_par ha (inv_isP ha) (invL_len a).symm
  have h2 : tmL a (invL a) = extP [] a.length := ext_nth (by rw [tmL_len, invL_len, extP_len _ _ (by simp)]) fun i hi => by
    rw [tmL_len, invL_len] at hi
    rw [tm_inv_right ha i hi, extP_nth _ _ _ (by simp) hi, if_neg (by simp)]
  rw [h2, inv_id] at h1
  omega
/-- the sign by turns is that by crossings -/
theorem turns_par {p : List Int} (h : IsP p) : (p.length - cntMin p p.length) % 2 = invN p % 2 := by
  have h1 := turns_moves p.length p rfl h
  have h2 := inv_moves h
  omega
end Go.Proofs.Ytdabgibmbmhmdaa
