/- Several of my texts in one: Knu. -/
import Derived.Test.YtooghdnlaonkaaaRw29
/- Plain law of Knuth: words with one tableau; from behind the columns are the rows. -/
namespace Go.Proofs.Ytooghdnlaonkaaa
open Go.RowKit

/-! KNUTH: words with one tableau -/
def bu (T : List Int) (x : Int) : Option Int := if pI T x < T.length then some (nth T (pI T x)) else none
theorem rT_cons (a : Int) (T : List Int) (x : Int) : rT (a :: T) x = if x < a then x :: T else a :: rT T x := by
  unfold rT pI
  rw [List.findIdx_cons]
  by_cases h : x < a
  · simp [h]
  · rw [if_neg h]
    simp only [h, decide_false, cond_false, List.length_cons, Nat.add_lt_add_iff_right, List.set_cons_succ, List.cons_append]
    split <;> rfl
theorem bu_cons (a : Int) (T : List Int) (x : Int) : bu (a :: T) x = if x < a then some a else bu T x := by
  unfold bu pI
  rw [List.findIdx_cons]
  by_cases h : x < a
  · simp [h, nth]
  · rw [if_neg h]
    simp only [h, decide_false, cond_false, List.length_cons, Nat.add_lt_add_iff_right]
    split
    · simp [nth]
    · rfl
theorem rT_nil (x : Int) : rT [] x = [x] := rfl
theorem bu_nil (x : Int) : bu [] x = none := rfl
/-- the word that is pushed out -/
def bW : List Int → List Int → List Int
  | _, [] => []
  | T, x :: w => (bu T x).toList ++ bW (rT T x) w
theorem bW_app : ∀ (T u v : List Int), bW T (u ++ v) = bW T u ++ bW (u.foldl rT T) v
  | T, [], v => rfl
  | T, x :: u, v => by rw [List.cons_append, bW, bW, bW_app, List.foldl_cons, List.append_assoc]
theorem bmp_bW (w : List Int) : bmp w = bW [] w := by
  refine snoc_ind (P := fun w => bmp w = bW [] w) rfl (fun w x ih => ?_) w
  rw [bmp_snoc, bW_app, ← ih]
  show _ = _ ++ ((bu (frow w) x).toList ++ [])
  unfold bu
  split <;> simp
theorem frow_app (u v : List Int) : frow (u ++ v) = v.foldl rT (frow u) := by unfold frow; rw [List.foldl_append]
theorem bu_mem : ∀ {T : List Int} {x b : Int}, bu T x = some b → b ∈ T ∧ x < b
  | [], x, b, h => by simp [bu_nil] at h
  | a :: T, x, b, h => by
    rw [bu_cons] at h
    split at h
    · next c =>
      have := Option.some.inj h
      subst this
      exact ⟨List.mem_cons_self, c⟩
    · obtain ⟨h1, h2⟩ := bu_mem h
      exact ⟨List.mem_cons_of_mem _ h1, h2⟩
theorem bu_least : ∀ {T : List Int} {x b c : Int}, T.Pairwise (· < ·) → bu T x = some b → c ∈ T → x < c → b ≤ c
  | [], x, b, c, _, h, _, _ => by simp [bu_nil] at h
  | a :: T, x, b, c, hT, h, hc, hx => by
    obtain ⟨h1, h2⟩ := List.pairwise_cons.1 hT
    rw [bu_cons] at h
    split at h
    · have := Option.some.inj h
      subst this
      rcases List.mem_cons.1 hc with e | e
      · omega
      · have := h1 c e; omega
    · next hn =>
      rcases List.mem_cons.1 hc with e | e
      · omega
      · exact bu_least h2 h e hx
theorem bu_none : ∀ {T : List Int} {x c : Int}, bu T x = none → c ∈ T → c ≤ x
  | [], x, c, _, h => by simp at h
  | a :: T, x, c, h, hc => by
    rw [bu_cons] at h
    split at h
    · cases h
    · rcases List.mem_cons.1 hc with e | e
      · omega
      · exact bu_none h e
theorem bu_ex {T : List Int} {x c : Int} (hc : c ∈ T) (hx : x < c) : ∃ b, bu T x = some b := by
  cases h : bu T x with
  | none => have := bu_none h hc; omega
  | some b => exact ⟨b, rfl⟩
/-- who was pushed out is not there -/
theorem bu_gone : ∀ {T : List Int} {x b : Int}, T.Pairwise (· < ·) → x ∉ T → bu T x = some b → b ∉ rT T x
  | [], x, b, _, _, h => by simp [bu_nil] at h
  | a :: T, x, b, hT, hx, h => by
    obtain ⟨h1, h2⟩ := List.pairwise_cons.1 hT
    rw [bu_cons] at h
    rw [rT_cons]
    split at h
    · next c =>
      have := Option.some.inj h
      subst this
      rw [if_pos c]
      intro hm
      rcases List.mem_cons.1 hm with e | e
      · omega
      · have := h1 _ e; omega
    · next c =>
      rw [if_neg c]
      intro hm
      rcases List.mem_cons.1 hm with e | e
      · have := (bu_mem h).2; omega
      · exact bu_gone h2 (fun hh => hx (List.mem_cons_of_mem _ hh)) h e
/-- one step -/
inductive Kn : List Int → List Int → Prop
  | a (u v : List Int) (x y z : Int) : x < y → y < z → Kn (u ++ [x, z, y] ++ v) (u ++ [z, x, y] ++ v)
  | b (u v : List Int) (x y z : Int) : x < y → y < z → Kn (u ++ [y, x, z] ++ v) (u ++ [y, z, x] ++ v)
/-- alike, or one step of one kind or the other -/
def Ks (p q : List Int) : Prop := p = q ∨ (∃ x y z : Int, x < y ∧ y < z ∧ ((p = [x, z, y] ∧ q = [z, x, y]) ∨ (p = [y, x, z] ∧ q = [y, z, x]) ∨ (p = [y, z, x] ∧ q = [y, x, z])))
theorem tri_a {x y z : Int} (hxy : x < y) (hyz : y < z) : ∀ T : List Int, T.Pairwise (· < ·) → x ∉ T → y ∉ T → z ∉ T →
    rT (rT (rT T x) z) y = rT (rT (rT T z) x) y ∧ Ks (bW T [x, z, y]) (bW T [z, x, y])
  | [], _, _, _, _ => by
    have e1 : ¬ z < x := by omega
    have e2 : ¬ y < x := by omega
    have e3 : x < z := by omega
    simp [rT_nil, bu_nil, rT_cons, bu_cons, bW, e1, e2, e3, hyz, Ks]
  | a :: T, hT, hx, hy, hz => by
    obtain ⟨h1, h2⟩ := List.pairwise_cons.1 hT
    have hxa : a ≠ x := fun e => hx (by simp [e])
    have hya : a ≠ y := fun e => hy (by simp [e])
    have hza : a ≠ z := fun e => hz (by simp [e])
    have hx' : x ∉ T := fun e => hx (List.mem_cons_of_mem _ e)
    have hy' : y ∉ T := fun e => hy (List.mem_cons_of_mem _ e)
    have hz' : z ∉ T := fun e => hz (List.mem_cons_of_mem _ e)
    by_cases c1 : a < x
    · obtain ⟨i1, i2⟩ := tri_a hxy hyz T h2 hx' hy' hz'
      have n1 : ¬ x < a := by omega
      have n2 : ¬ y < a := by omega
      have n3 : ¬ z < a := by omega
      constructor
      · simp only [rT_cons, n1, n2, n3, if_false, i1]
      · simp only [bW, bu_cons, rT_cons, n1, n2, n3, if_false] at i2 ⊢
        exact i2
    · have p1 : x < a := by omega
      by_cases c2 : a < z
      · have n3 : ¬ z < a := by omega
        have e1 : ¬ z < x := by omega
        have e2 : ¬ y < x := by omega
        constructor
        · simp only [rT_cons, p1, n3, e1, e2, if_true, if_false]
        · simp only [bW, bu_cons, rT_cons, p1, n3, e1, e2, if_true, if_false, Option.toList_some, List.append_nil]
          have hzr : z ∈ rT T z := rT_new T z
          obtain ⟨s, hs⟩ := bu_ex hzr hyz
          have hs2 := bu_mem hs
          have hpw : (rT T z).Pairwise (· < ·) := set_pw h2 hz'
          have hsz := bu_least hpw hs hzr hyz
          have has : a < s := by
            rcases rT_mem hs2.1 with e | e
            · omega
            · exact h1 s e
          rw [hs]
          cases hZ : bu T z with
          | none => left; simp
          | some Z =>
            have := bu_mem hZ
            right
            exact ⟨a, s, Z, has, by omega, .inl ⟨by simp, by simp⟩⟩
      · have n1 : y < a := by omega
        have n2 : z < a := by omega
        have e1 : ¬ z < x := by omega
        have e2 : ¬ y < x := by omega
        have e3 : x < z := by omega
        cases T with
        | nil =>
          simp [rT_nil, bu_nil, rT_cons, bu_cons, bW, p1, n2, e1, e2, e3, hyz, Ks]
        | cons t T' =>
          have ht := h1 t List.mem_cons_self
          have m1 : z < t := by omega
          have m2 : y < t := by omega
          constructor
          · simp only [rT_cons, p1, n2, e1, e2, e3, m1, m2, hyz, if_true, if_false]
          · simp only [bW, bu_cons, rT_cons, p1, n2, e1, e2, e3, m1, m2, hyz, if_true, if_false, Option.toList_some, List.append_nil]
            right
            exact ⟨z, a, t, n2, ht, .inr (.inr ⟨by simp, by simp⟩)⟩
theorem tri_b {x y z : Int} (hxy : x < y) (hyz : y < z) : ∀ T : List Int, T.Pairwise (· < ·) → x ∉ T → y ∉ T → z ∉ T →
    rT (rT (rT T y) x) z = rT (rT (rT T y) z) x ∧ Ks (bW T [y, x, z]) (bW T [y, z, x])
  | [], _, _, _, _ => by
    have e1 : ¬ z < x := by omega
    have e2 : ¬ z < y := by omega
    simp [rT_nil, bu_nil, rT_cons, bu_cons, bW, e1, e2, hxy, Ks]
  | a :: T, hT, hx, hy, hz => by
    obtain ⟨h1, h2⟩ := List.pairwise_cons.1 hT
    have hxa : a ≠ x := fun e => hx (by simp [e])
    have hya : a ≠ y := fun e => hy (by simp [e])
    have hza : a ≠ z := fun e => hz (by simp [e])
    have hx' : x ∉ T := fun e => hx (List.mem_cons_of_mem _ e)
    have hy' : y ∉ T := fun e => hy (List.mem_cons_of_mem _ e)
    have hz' : z ∉ T := fun e => hz (List.mem_cons_of_mem _ e)
    by_cases c1 : a < x
    · obtain ⟨i1, i2⟩ := tri_b hxy hyz T h2 hx' hy' hz'
      have n1 : ¬ x < a := by omega
      have n2 : ¬ y < a := by omega
      have n3 : ¬ z < a := by omega
      constructor
      · simp only [rT_cons, n1, n2, n3, if_false, i1]
      · simp only [bW, bu_cons, rT_cons, n1, n2, n3, if_false] at i2 ⊢
        exact i2
    · have p1 : x < a := by omega
      by_cases c2 : a < y
      · have n2 : ¬ y < a := by omega
        have n3 : ¬ z < a := by omega
        have e1 : ¬ z < x := by omega
        constructor
        · simp only [rT_cons, p1, n2, n3, e1, if_true, if_false]
        · simp only [bW, bu_cons, rT_cons, p1, n2, n3, e1, if_true, if_false, Option.toList_some, List.append_nil]
          cases hY : bu T y with
          | none =>
            have : bu (rT T y) z = none := by
              cases hZ : bu (rT T y) z with
              | none => rfl
              | some Z =>
                obtain ⟨m1, m2⟩ := bu_mem hZ
                rcases rT_mem m1 with e | e
                · omega
                · have := bu_none hY e; omega
            rw [this]; left; simp
          | some Y =>
            cases hZ : bu (rT T y) z with
            | none => left; simp
            | some Z =>
              obtain ⟨m1, m2⟩ := bu_mem hZ
              obtain ⟨k1, k2⟩ := bu_mem hY
              have hZT : Z ∈ T := by
                rcases rT_mem m1 with e | e
                · omega
                · exact e
              have hle := bu_least h2 hY hZT (by omega)
              have hne : Z ≠ Y := fun e => bu_gone h2 hy' hY (e ▸ m1)
              right
              exact ⟨a, Y, Z, by omega, by omega, .inr (.inl ⟨by simp, by simp⟩)⟩
      · have n1 : y < a := by omega
        have e1 : ¬ z < x := by omega
        have e2 : ¬ z < y := by omega
        constructor
        · simp only [rT_cons, n1, hxy, e1, e2, if_true, if_false]
        · simp only [bW, bu_cons, rT_cons, n1, hxy, e1, e2, if_true, if_false, Option.toList_some, List.append_nil]
          cases hZ : bu T z with
          | none => left; simp
          | some Z =>
            obtain ⟨m1, m2⟩ := bu_mem hZ
            have := h1 Z m1
            right
            exact ⟨y, a, Z, n1, this, .inr (.inl ⟨by simp, by simp⟩)⟩
theorem Ks.kn {p q : List Int} (h : Ks p q) (u v : List Int) : u ++ p ++ v = u ++ q ++ v ∨ Kn (u ++ p ++ v) (u ++ q ++ v) ∨ Kn (u ++ q ++ v) (u ++ p ++ v) := by
  rcases h with rfl | ⟨x, y, z, h1, h2, ⟨rfl, rfl⟩ | ⟨rfl, rfl⟩ | ⟨rfl, rfl⟩⟩
  · exact .inl rfl
  · exact .inr (.inl (.a u v x y z h1 h2))
  · exact .inr (.inl (.b u v x y z h1 h2))
  · exact .inr (.inr (.b u v x y z h1 h2))
theorem kn_row {w w' : List Int} (h : Kn w w') (hn : w.Nodup) : frow w = frow w' ∧ (bmp w = bmp w' ∨ Kn (bmp w) (bmp w') ∨ Kn (bmp w') (bmp w)) ∧ w'.Perm w := by
  have out : ∀ (u v t : List Int), (u ++ t ++ v).Nodup → ∀ c ∈ t, c ∉ frow u := fun u v t hn c hc hm => by
    rw [List.append_assoc, List.nodup_append] at hn
    exact hn.2.2 c (frow_mem hm) c (List.mem_append_left _ hc) rfl
  have nu : ∀ (u v t : List Int), (u ++ t ++ v).Nodup → u.Nodup := fun u v t hn => by
    rw [List.append_assoc, List.nodup_append] at hn; exact hn.1
  cases h with
  | a u v x y z h1 h2 =>
    obtain ⟨t1, t2⟩ := tri_a h1 h2 (frow u) (frow_pw u (nu _ _ _ hn)) (out u v [x, z, y] hn x (by simp)) (out u v [x, z, y] hn y (by simp)) (out u v [x, z, y] hn z (by simp))
    have e : ([x, z, y] : List Int).foldl rT (frow u) = ([z, x, y] : List Int).foldl rT (frow u) := t1
    refine ⟨?_, ?_, ?_⟩
    · rw [List.append_assoc, List.append_assoc, frow_app, frow_app u, List.foldl_append, List.foldl_append, e]
    · rw [bmp_bW, bmp_bW, bW_app, bW_app _ (u ++ [z, x, y]), bW_app, bW_app _ u [z, x, y], List.foldl_append, List.foldl_append]
      show _ ∨ _
      have e2 : ([x, z, y] : List Int).foldl rT (u.foldl rT []) = ([z, x, y] : List Int).foldl rT (u.foldl rT []) := e
      rw [e2]
      exact t2.kn _ _
    · exact ((List.Perm.swap _ _ _).append_left u).append_right v
  | b u v x y z h1 h2 =>
    obtain ⟨t1, t2⟩ := tri_b h1 h2 (frow u) (frow_pw u (nu _ _ _ hn)) (out u v [y, x, z] hn x (by simp)) (out u v [y, x, z] hn y (by simp)) (out u v [y, x, z] hn z (by simp))
    have e : ([y, x, z] : List Int).foldl rT (frow u) = ([y, z, x] : List Int).foldl rT (frow u) := t1
    refine ⟨?_, ?_, ?_⟩
    · rw [List.append_assoc, List.append_assoc, frow_app, frow_app u, List.foldl_append, List.foldl_append, e]
    · rw [bmp_bW, bmp_bW, bW_app, bW_app _ (u ++ [y, z, x]), bW_app, bW_app _ u [y, z, x], List.foldl_append, List.foldl_append]
      have e2 : ([y, x, z] : List Int).foldl rT (u.foldl rT []) = ([y, z, x] : List Int).foldl rT (u.foldl rT []) := e
      rw [e2]
      exact t2.kn _ _
    · exact (((List.Perm.swap _ _ _).cons y).append_left u).append_right v
theorem kn_ins : ∀ n (w w' : List Int), w.length = n → Kn w w' → w.Nodup → insAll w = insAll w' := by
  intro n
  induction n using Nat.strongRecOn with
  | _ n ih =>
    intro w w' hl h hn
    obtain ⟨h1, h2, h3⟩ := kn_row h hn
    have hn' := h3.symm.nodup_iff.1 hn
    have hw : w ≠ [] := by
      intro e
      cases h with
      | a u v x y z => simp at e
      | b u v x y z => simp at e
    have hw' : w' ≠ [] := by
      intro e
      rw [e] at h3
      exact hw (List.nil_perm.1 h3)
    rw [insAll_row w hw, insAll_row w' hw', h1]
    congr 1
    have hb := bmp_len w
    have hb' := bmp_len w'
    have hf := frow_ne w hw
    have hf' := frow_ne w' hw'
    have hll := h3.length_eq
    rcases h2 with e | e | e
    · rw [e]
    · exact ih _ (by omega) _ _ rfl e (bmp_nodup hn)
    · exact (ih _ (by omega) _ _ rfl e (bmp_nodup hn')).symm
inductive Kq : List Int → List Int → Prop
  | refl (w : List Int) : Kq w w
  | step {w w' : List Int} : Kn w w' → Kq w w'
  | symm {w w' : List Int} : Kq w w' → Kq w' w
  | trans {w w' w'' : List Int} : Kq w w' → Kq w' w'' → Kq w w''
theorem kn_perm {w w' : List Int} (h : Kn w w') : w'.Perm w := by
  cases h with
  | a u v x y z => exact ((List.Perm.swap _ _ _).append_left u).append_right v
  | b u v x y z => exact (((List.Perm.swap _ _ _).cons y).append_left u).append_right v
theorem Kq.perm {w w' : List Int} (h : Kq w w') : w.Perm w' := by
  induction h with
  | refl => exact .refl _
  | step h => exact (kn_perm h).symm
  | symm _ ih => exact ih.symm
  | trans _ _ h1 h2 => exact h1.trans h2
theorem Kq.ins {w w' : List Int} (h : Kq w w') : w.Nodup → insAll w = insAll w' := by
  induction h with
  | refl => intro _; rfl
  | step h => intro hn; exact kn_ins _ _ _ rfl h hn
  | symm h ih => intro hn; exact (ih (h.perm.nodup_iff.2 hn)).symm
  | trans h1 _ i1 i2 => intro hn; exact (i1 hn).trans (i2 (h1.perm.nodup_iff.1 hn))
theorem Kn.ctx {w w' : List Int} (h : Kn w w') (p q : List Int) : Kn (p ++ w ++ q) (p ++ w' ++ q) := by
  cases h with
  | a u v x y z h1 h2 =>
    have := Kn.a (p ++ u) (v ++ q) x y z h1 h2
    simpa [List.append_assoc] using this
  | b u v x y z h1 h2 =>
    have := Kn.b (p ++ u) (v ++ q) x y z h1 h2
    simpa [List.append_assoc] using this
theorem Kq.ctx {w w' : List Int} (h : Kq w w') (p q : List Int) : Kq (p ++ w ++ q) (p ++ w' ++ q) := by
  induction h with
  | refl => exact .refl _
  | step h => exact .step (h.ctx p q)
  | symm _ ih => exact ih.symm
  | trans _ _ h1 h2 => exact h1.trans h2
theorem Kn.rev {w w' : List Int} (h : Kn w w') : Kq w.reverse w'.reverse := by
  cases h with
  | a u v x y z h1 h2 =>
    have := Kq.symm (Kq.step (Kn.b v.reverse u.reverse x y z h1 h2))
    simpa [List.append_assoc] using this
  | b u v x y z h1 h2 =>
    have := Kq.symm (Kq.step (Kn.a v.reverse u.reverse x y z h1 h2))
    simpa [List.append_assoc] using this
theorem Kq.rev {w w' : List Int} (h : Kq w w') : Kq w.reverse w'.reverse := by
  induction h with
  | refl => exact .refl _
  | step h => exact h.rev
  | symm _ ih => exact ih.symm
  | trans _ _ h1 h2 => exact h1.trans h2
/-- a small number goes to the left, behind a greater one -/
theorem kq_left (x : Int) : ∀ (T : List Int) (a : Int), (a :: T).Pairwise (· < ·) → x < a → Kq (a :: (T ++ [x])) (a :: x :: T)
  | [], a, _, _ => .refl _
  | t :: T, a, hT, hx => by
    obtain ⟨h1, h2⟩ := List.pairwise_cons.1 hT
    have hat := h1 t List.mem_cons_self
    have i := (kq_left x T t h2 (by omega)).ctx [a] []
    have s := Kq.symm (Kq.step (Kn.b [] T x a t hx hat))
    simp only [List.append_nil, List.singleton_append, List.nil_append] at i s
    exact i.trans s
/-- a number put into a row, as words -/
theorem kq_put (x : Int) : ∀ (T : List Int), T.Pairwise (· < ·) → x ∉ T → Kq (T ++ [x]) ((bu T x).toList ++ rT T x)
  | [], _, _ => by rw [bu_nil, rT_nil]; exact .refl _
  | a :: T, hT, hx => by
    obtain ⟨h1, h2⟩ := List.pairwise_cons.1 hT
    rw [bu_cons, rT_cons]
    by_cases c : x < a
    · rw [if_pos c, if_pos c]
      exact kq_left x T a hT c
    · have hax : a < x := by
        have : a ≠ x := fun e => hx (by simp [e])
        omega
      rw [if_neg c, if_neg c]
      have hx' : x ∉ T := fun e => hx (List.mem_cons_of_mem _ e)
      have i := (kq_put x T h2 hx').ctx [a] []
      simp only [List.append_nil, List.singleton_append] at i
      cases hb : bu T x with
      | none => rw [hb] at i; exact i
      | some b =>
        rw [hb] at i
        simp only [Option.toList_some, List.singleton_append] at i ⊢
        have hxb := (bu_mem hb).2
        have hxr := rT_new T x
        have hpw : (rT T x).Pairwise (· < ·) := set_pw h2 hx'
        cases hr : rT T x with
        | nil => rw [hr] at hxr; simp at hxr
        | cons h R =>
          rw [hr] at i hxr hpw
          have hle : h ≤ x := by
            rcases List.mem_cons.1 hxr with e | e
            · omega
            · have := (List.pairwise_cons.1 hpw).1 x e; omega
          have hah : a < h := by
            have : h ∈ rT T x := by rw [hr]; exact List.mem_cons_self
            rcases rT_mem this with e | e
            · omega
            · exact h1 h e
          have s := Kq.step (Kn.a [] R a h b hah (by omega))
          simp only [List.nil_append] at s
          exact i.trans s
theorem kq_row (w : List Int) : w.Nodup → Kq w (bmp w ++ frow w) := by
  refine snoc_ind (P := fun w => w.Nodup → Kq w (bmp w ++ frow w)) (fun _ => .refl _) (fun w x ih hn => ?_) w
  obtain ⟨h1, h2⟩ := nodup_snoc hn
  have i := (ih h1).ctx [] [x]
  have s := (kq_put x (frow w) (frow_pw w h1) (fun hm => h2 (frow_mem hm))).ctx (bmp w) []
  have e : bmp (w ++ [x]) ++ frow (w ++ [x]) = bmp w ++ ((bu (frow w) x).toList ++ rT (frow w) x) := by
    rw [bmp_snoc, frow_snoc']
    unfold bu
    split <;> simp
  rw [e]
  simp only [List.nil_append, List.append_nil, List.append_assoc] at i s ⊢
  exact i.trans s
/-- the rows, the last one first -/
def rwd : List (List Int) → List Int
  | [] => []
  | r :: rs => rwd rs ++ r
theorem kq_rwd : ∀ n (w : List Int), w.length = n → w.Nodup → Kq w (rwd (insAll w)) := by
  intro n
  induction n using Nat.strongRecOn with
  | _ n ih =>
    intro w hl hn
    by_cases h0 : w = []
    · subst h0; exact .refl _
    · have hb := bmp_len w
      have hf := frow_ne w h0
      have i := (ih (bmp w).length (by omega) (bmp w) rfl (bmp_nodup hn)).ctx [] (frow w)
      rw [insAll_row w h0, rwd]
      exact (kq_row w hn).trans (by simpa using i)
/-! standard tableaux -/
def Dom (r s : List Int) : Prop := s.length ≤ r.length ∧ ∀ i, i < s.length → nth r i < nth s i
def StdT : List (List Int) → Prop
  | [] => True
  | r :: rs => r ≠ [] ∧ r.Pairwise (· < ·) ∧ StdT rs ∧ ∀ s, rs.head? = some s → Dom r s
theorem dom_nil (r : List Int) : Dom r [] := ⟨Nat.zero_le _, fun i hi => by simp at hi⟩
theorem dom_cons {a b : Int} {r s : List Int} : Dom (a :: r) (b :: s) ↔ a < b ∧ Dom r s := by
  unfold Dom
  constructor
  · rintro ⟨h1, h2⟩
    refine ⟨by simpa [nth] using h2 0 (by simp), by simpa using h1, fun i hi => ?_⟩
    have := h2 (i + 1) (by simpa using hi)
    simpa [nth] using this
  · rintro ⟨h0, h1, h2⟩
    refine ⟨by simpa using h1, fun i hi => ?_⟩
    cases i with
    | zero => simpa [nth] using h0
    | succ i => have := h2 i (by simpa using hi); simpa [nth] using this
theorem rT_mid (x b : Int) (s : List Int) (hb : x < b) : ∀ p : List Int, (∀ c ∈ p, c < x) → rT (p ++ b :: s) x = p ++ x :: s ∧ bu (p ++ b :: s) x = some b
  | [], _ => by simp [rT_cons, bu_cons, hb]
  | c :: p, h => by
    have hc := h c List.mem_cons_self
    obtain ⟨h1, h2⟩ := rT_mid x b s hb p (fun d hd => h d (List.mem_cons_of_mem _ hd))
    have n : ¬ x < c := by omega
    simp [rT_cons, bu_cons, n, h1, h2]
theorem rT_end (x : Int) : ∀ p : List Int, (∀ c ∈ p, c < x) → rT p x = p ++ [x] ∧ bu p x = none
  | [], _ => ⟨rfl, rfl⟩
  | c :: p, h => by
    have hc := h c List.mem_cons_self
    obtain ⟨h1, h2⟩ := rT_end x p (fun d hd => h d (List.mem_cons_of_mem _ hd))
    have n : ¬ x < c := by omega
    simp [rT_cons, bu_cons, n, h1, h2]
/-- a row put into the row below -/
theorem row_over : ∀ (r p s : List Int), r.Pairwise (· < ·) → (∀ c ∈ p, ∀ x ∈ r, c < x) → Dom r s → r.foldl rT (p ++ s) = p ++ r ∧ bW (p ++ s) r = s
  | [], p, s, _, _, hd => by
    have : s = [] := List.eq_nil_of_length_eq_zero (by have := hd.1; simpa using this)
    subst this
    exact ⟨rfl, rfl⟩
  | x :: r, p, s, hr, hp, hd => by
    obtain ⟨h1, h2⟩ := List.pairwise_cons.1 hr
    have hp' : ∀ c ∈ p ++ [x], ∀ y ∈ r, c < y := fun c hc y hy => by
      rcases List.mem_append.1 hc with e | e
      · exact hp c e y (List.mem_cons_of_mem _ hy)
      · have : c = x := by simpa using e
        subst this; exact h1 y hy
    cases s with
    | nil =>
      obtain ⟨e1, e2⟩ := rT_end x p (fun c hc => hp c hc x List.mem_cons_self)
      obtain ⟨i1, i2⟩ := row_over r (p ++ [x]) [] h2 hp' (dom_nil r)
      rw [List.append_nil] at i1 i2 ⊢
      rw [List.foldl_cons, bW, e1, e2, i1, i2]
      exact ⟨by simp, rfl⟩
    | cons b s =>
      obtain ⟨d1, d2⟩ := dom_cons.1 hd
      obtain ⟨e1, e2⟩ := rT_mid x b s d1 p (fun c hc => hp c hc x List.mem_cons_self)
      obtain ⟨i1, i2⟩ := row_over r (p ++ [x]) s h2 hp' d2
      rw [List.append_assoc, List.singleton_append] at i1 i2
      rw [List.foldl_cons, bW, e1, e2, i1, i2]
      exact ⟨by simp, rfl⟩
theorem rwd_row : ∀ (r : List Int) (rs : List (List Int)), StdT (r :: rs) → frow (rwd (r :: rs)) = r ∧ bmp (rwd (r :: rs)) = rwd rs
  | r, [], h => by
    have := row_over r [] [] h.2.1 (by simp) (dom_nil r)
    rw [bmp_bW]
    exact this
  | r, s :: rs, h => by
    obtain ⟨_, h2, h3, h4⟩ := h
    obtain ⟨i1, i2⟩ := rwd_row s rs h3
    obtain ⟨o1, o2⟩ := row_over r [] s h2 (by simp) (h4 s rfl)
    rw [rwd, frow_app, i1]
    refine ⟨o1, ?_⟩
    rw [bmp_bW, bW_app, ← bmp_bW, i2]
    show rwd rs ++ bW (frow (rwd (s :: rs))) r = _
    rw [i1]
    show rwd rs ++ bW ([] ++ s) r = _
    rw [o2]; rfl
theorem rwd_ne {r : List Int} {rs : List (List Int)} (h : StdT (r :: rs)) : rwd (r :: rs) ≠ [] := by
  intro e
  rw [rwd] at e
  exact h.1 (List.append_eq_nil_iff.1 e).2
theorem ins_rwd : ∀ (T : List (List Int)), StdT T → insAll (rwd T) = T
  | [], _ => rfl
  | r :: rs, h => by
    obtain ⟨h1, h2⟩ := rwd_row r rs h
    rw [insAll_row _ (rwd_ne h), h1, h2, ins_rwd rs h.2.2.1]
/-! columns -/
def zc : List Int → List (List Int) → List (List Int)
  | [], _ => []
  | a :: r, [] => [a] :: zc r []
  | a :: r, c :: cs => (a :: c) :: zc r cs
def tr : List (List Int) → List (List Int)
  | [] => []
  | r :: rs => zc r (tr rs)
def cwd (L : List (List Int)) : List Int := (L.map List.reverse).flatten
theorem cwd_rev : ∀ L : List (List Int), (cwd L).reverse = rwd L
  | [] => rfl
  | c :: L => by
    have := cwd_rev L
    unfold cwd at this ⊢
    rw [List.map_cons, List.flatten_cons, List.reverse_append, this, List.reverse_reverse]
    rfl
/-- heads of columns -/
def hds (L : List (List Int)) : List Int := L.map fun c => nth c 0
theorem zc_len : ∀ (r : List Int) (cs : List (List Int)), (zc r cs).length = r.length
  | [], _ => rfl
  | _ :: r, [] => by simp [zc, zc_len r []]
  | _ :: r, _ :: cs => by simp [zc, zc_len r cs]
theorem zc_hds : ∀ (r : List Int) (cs : List (List Int)), hds (zc r cs) = r
  | [], _ => rfl
  | a :: r, [] => by
    have := zc_hds r []
    unfold hds at this ⊢
    rw [zc, List.map_cons, this]; rfl
  | a :: r, c :: cs => by
    have := zc_hds r cs
    unfold hds at this ⊢
    rw [zc, List.map_cons, this]; rfl
theorem zc_std : ∀ (r : List Int) (cs : List (List Int)), r.Pairwise (· < ·) → StdT cs → Dom r (hds cs) → StdT (zc r cs)
  | [], _, _, _, _ => trivial
  | [a], [], _, _, _ => ⟨by simp, by simp, trivial, fun s hs => by simp [zc] at hs⟩
  | a :: b :: r, [], hr, hc, _ => by
    obtain ⟨h1, h2⟩ := List.pairwise_cons.1 hr
    refine ⟨by simp, by simp, zc_std (b :: r) [] h2 trivial (dom_nil _), fun s hs => ?_⟩
    have : s = [b] := by simpa [zc] using hs.symm
    subst this
    exact dom_cons.2 ⟨h1 b (by simp), dom_nil _⟩
  | a :: r, c :: cs, hr, hc, hd => by
    obtain ⟨h1, h2⟩ := List.pairwise_cons.1 hr
    obtain ⟨c0, c1, c2, c3⟩ := hc
    obtain ⟨d1, d2⟩ := dom_cons.1 (show Dom (a :: r) (nth c 0 :: hds cs) from hd)
    refine ⟨by simp, ?_, zc_std r cs h2 c2 d2, fun s hs => ?_⟩
    · rw [List.pairwise_cons]
      refine ⟨fun y hy => ?_, c1⟩
      obtain ⟨k, hk, rfl⟩ := mem_nth hy
      rcases Nat.eq_zero_or_pos k with e | e
      · subst e; exact d1
      · have := pw_nth_lt c1 e hk; omega
    · cases r with
      | nil => simp [zc] at hs
      | cons b r =>
        have hab := h1 b (by simp)
        cases cs with
        | nil =>
          have : s = [b] := by simpa [zc] using hs.symm
          subst this
          exact dom_cons.2 ⟨hab, dom_nil _⟩
        | cons d cs =>
          have : s = b :: d := by simpa [zc] using hs.symm
          subst this
          exact dom_cons.2 ⟨hab, c3 d rfl⟩
theorem tr_hds : ∀ (T : List (List Int)), hds (tr T) = T.head?.getD []
  | [] => rfl
  | r :: rs => by rw [tr, zc_hds]; rfl
theorem tr_std : ∀ (T : List (List Int)), StdT T → StdT (tr T)
  | [], _ => trivial
  | r :: rs, h => by
    obtain ⟨_, h2, h3, h4⟩ := h
    refine zc_std r (tr rs) h2 (tr_std rs h3) ?_
    rw [tr_hds]
    cases rs with
    | nil => exact dom_nil _
    | cons s rs => exact h4 s rfl
/-- one column from below -/
theorem col_in : ∀ (c p : List Int), c ≠ [] → c.Pairwise (· < ·) → (∀ x ∈ p, ∀ y ∈ c, x < y) → c.reverse.foldl rT p = p ++ [nth c 0] ∧ bW p c.reverse = c.tail.reverse
  | [], _, h, _, _ => absurd rfl h
  | [d], p, _, _, hp => by
    obtain ⟨e1, e2⟩ := rT_end d p (fun x hx => hp x hx d (by simp))
    simp [bW, e1, e2, nth]
  | d :: e :: c, p, _, hc, hp => by
    obtain ⟨h1, h2⟩ := List.pairwise_cons.1 hc
    obtain ⟨i1, i2⟩ := col_in (e :: c) p (by simp) h2 (fun x hx y hy => hp x hx y (List.mem_cons_of_mem _ hy))
    have i1' : (e :: c).reverse.foldl rT p = p ++ e :: [] := by rw [i1]; rfl
    obtain ⟨m1, m2⟩ := rT_mid d e [] (h1 e (by simp)) p (fun x hx => hp x hx d (by simp))
    rw [List.reverse_cons, List.foldl_append, bW_app, i1', i2]
    refine ⟨by simp [m1, nth], ?_⟩
    show _ ++ ((bu (p ++ e :: []) d).toList ++ []) = _
    rw [m2]
    simp
theorem zc_cwd : ∀ (r : List Int) (cs : List (List Int)) (p : List Int), StdT (zc r cs) → cs.length ≤ r.length → (∀ x ∈ p, ∀ y ∈ r, x < y) → (cwd (zc r cs)).foldl rT p = p ++ r ∧ bW p (cwd (zc r cs)) = cwd cs
  | [], cs, p, _, hl, _ => by
    have : cs = [] := List.eq_nil_of_length_eq_zero (by simpa using hl)
    subst this
    simp [zc, cwd, bW]
  | a :: r, cs, p, hs, hl, hp => by
    obtain ⟨c, cs', hz, hcs, hl'⟩ : ∃ c cs', zc (a :: r) cs = (a :: c) :: zc r cs' ∧ cwd cs = c.reverse ++ cwd cs' ∧ cs'.length ≤ r.length := by
      cases cs with
      | nil => exact ⟨[], [], rfl, rfl, by simp⟩
      | cons c cs => exact ⟨c, cs, rfl, by simp [cwd], by simpa using hl⟩
    rw [hz] at hs ⊢
    obtain ⟨_, s2, s3, s4⟩ := hs
    have hac : ∀ y ∈ a :: c, a ≤ y := fun y hy => by
      rcases List.mem_cons.1 hy with e | e
      · omega
      · have := (List.pairwise_cons.1 s2).1 y e; omega
    obtain ⟨i1, i2⟩ := col_in (a :: c) p (by simp) s2 (fun x hx y hy => by
      have := hp x hx a List.mem_cons_self
      have := hac y hy
      omega)
    have hrs : ∀ y ∈ r, a < y := fun y hy => by
      have hhd := zc_hds r cs'
      cases r with
      | nil => simp at hy
      | cons b r =>
        have hb : a < b ∧ (b :: r).Pairwise (· < ·) := by
          constructor
          · have : ∀ s, (zc (b :: r) cs').head? = some s → nth s 0 = b := fun s hs => by
              cases cs' with
              | nil => have : s = [b] := by simpa [zc] using hs.symm
                       subst this; rfl
              | cons d cs' => have : s = b :: d := by simpa [zc] using hs.symm
                              subst this; rfl
            cases hq : (zc (b :: r) cs').head? with
            | none => cases cs' <;> simp [zc] at hq
            | some s =>
              have hd := s4 s hq
              have hb := this s hq
              have hsne : 0 < s.length := by
                cases cs' with
                | nil => have : s = [b] := by simpa [zc] using hq.symm
                         subst this; simp
                | cons d cs' => have : s = b :: d := by simpa [zc] using hq.symm
                                subst this; simp
              have := hd.2 0 hsne
              rw [hb] at this
              simpa [nth] using this
          · have srt : ∀ (L : List (List Int)), StdT L → (hds L).Pairwise (· < ·) := fun L => by
              induction L with
              | nil => intro _; simp [hds]
              | cons c L ih =>
                intro h
                obtain ⟨_, _, h3, h4⟩ := h
                have i := ih h3
                cases L with
                | nil => simp [hds]
                | cons d L =>
                  have hd := h4 d rfl
                  have hdn : 0 < d.length := List.length_pos_iff.2 h3.1
                  have h0 := hd.2 0 hdn
                  unfold hds at i ⊢
                  rw [List.map_cons, List.pairwise_cons]
                  refine ⟨fun y hy => ?_, i⟩
                  rw [List.map_cons] at hy i
                  rcases List.mem_cons.1 hy with e | e
                  · rw [e]; exact h0
                  · have := (List.pairwise_cons.1 i).1 y e; omega
            have := srt _ s3
            rwa [hhd] at this
        rcases List.mem_cons.1 hy with e | e
        · omega
        · have := (List.pairwise_cons.1 hb.2).1 y e; omega
    obtain ⟨j1, j2⟩ := zc_cwd r cs' (p ++ [a]) s3 hl' (fun x hx y hy => by
      rcases List.mem_append.1 hx with e | e
      · exact hp x e y (List.mem_cons_of_mem _ hy)
      · have : x = a := by simpa using e
        subst this; exact hrs y hy)
    have i1' : (a :: c).reverse.foldl rT p = p ++ [a] := by rw [i1]; rfl
    have e : cwd ((a :: c) :: zc r cs') = (a :: c).reverse ++ cwd (zc r cs') := by simp [cwd]
    rw [e, List.foldl_append, bW_app, i1', j1, i2, j2, hcs]
    exact ⟨by simp, rfl⟩
theorem tr_len (r : List Int) (rs : List (List Int)) : (tr (r :: rs)).length = r.length := by rw [tr, zc_len]
theorem tr_len_le : ∀ (r : List Int) (rs : List (List Int)), StdT (r :: rs) → (tr rs).length ≤ r.length
  | _, [], _ => Nat.zero_le _
  | r, s :: rs, h => by rw [tr_len]; exact (h.2.2.2 s rfl).1
theorem ins_cwd : ∀ (T : List (List Int)), StdT T → insAll (cwd (tr T)) = T
  | [], _ => rfl
  | r :: rs, h => by
    have hs := tr_std _ h
    obtain ⟨h1, h2⟩ := zc_cwd r (tr rs) [] hs (tr_len_le r rs h) (by simp)
    have hne : cwd (tr (r :: rs)) ≠ [] := by
      intro e
      have e1 : frow (cwd (tr (r :: rs))) = r := h1
      rw [e] at e1
      exact h.1 e1.symm
    rw [insAll_row _ hne, show frow (cwd (tr (r :: rs))) = r from h1, bmp_bW, show bW [] (cwd (tr (r :: rs))) = cwd (tr rs) from h2, ins_cwd rs h.2.2.1]
/-! tableaux that are made are standard -/
theorem dom_put (w : List Int) : w.Nodup → Dom (frow w) (frow (bmp w)) := by
  refine snoc_ind (P := fun w => w.Nodup → Dom (frow w) (frow (bmp w))) (fun _ => dom_nil _) (fun w x ih hn => ?_) w
  obtain ⟨n1, n2⟩ := nodup_snoc hn
  obtain ⟨d1, d2⟩ := ih n1
  rw [frow_snoc, bmp_snoc]
  have hT := frow_pw w n1
  have hB := frow_pw _ (bmp_nodup n1)
  split
  · next hk =>
    rw [frow_snoc]
    have hx := pI_hi _ _ hk
    generalize frow w = T at *
    generalize frow (bmp w) = U at *
    generalize pI T x = k at *
    have sn : ∀ i, nth (T.set k x) i = if i = k then x else nth T i := fun i => nth_set _ _ _ _ hk
    have hle : pI U (nth T k) ≤ k := by
      rcases Nat.lt_or_ge k (pI U (nth T k)) with c | c
      · have h1 := pI_lo U (nth T k) k c
        have h2 := d2 k (by have := pI_le U (nth T k); omega)
        omega
      · exact c
    have key : ∀ i, i ≤ k → nth (T.set k x) i < nth T k := fun i hi => by
      rw [sn]
      split
      · exact hx
      · exact pw_nth_lt hT (by omega) hk
    have old : ∀ i, i < U.length → nth (T.set k x) i < nth U i := fun i hi => by
      rw [sn]
      split
      · next e => subst e; have := d2 i hi; omega
      · exact d2 i hi
    split
    · next hu =>
      refine ⟨by rw [List.length_set, List.length_set]; exact d1, fun i hi => ?_⟩
      rw [List.length_set] at hi
      have un : nth (U.set (pI U (nth T k)) (nth T k)) i = if i = pI U (nth T k) then nth T k else nth U i := nth_set _ _ _ _ hu
      rw [un]
      split
      · next e => exact key i (by omega)
      · exact old i hi
    · next hu =>
      have hul : pI U (nth T k) = U.length := by have := pI_le U (nth T k); omega
      refine ⟨by rw [List.length_set, List.length_append]; simp; omega, fun i hi => ?_⟩
      rw [List.length_append, List.length_singleton] at hi
      by_cases e : i < U.length
      · rw [nth_snoc, if_neg (by omega)]; exact old i e
      · obtain rfl : i = U.length := by omega
        rw [nth_snoc, if_pos rfl]; exact key _ (by omega)
  · refine ⟨by rw [List.length_append]; omega, fun i hi => ?_⟩
    rw [nth_snoc, if_neg (by omega)]; exact d2 i hi
theorem ins_std : ∀ n (w : List Int), w.length = n → w.Nodup → StdT (insAll w) := by
  intro n
  induction n using Nat.strongRecOn with
  | _ n ih =>
    intro w hl hn
    by_cases h0 : w = []
    · subst h0; exact trivial
    · have hb := bmp_len w
      have hf := frow_ne w h0
      rw [insAll_row w h0]
      refine ⟨fun e => by rw [e] at hf; simp at hf, frow_pw w hn, ih _ (by omega) _ rfl (bmp_nodup hn), fun s hs => ?_⟩
      by_cases hb0 : bmp w = []
      · rw [hb0] at hs; cases hs
      · rw [insAll_row _ hb0] at hs
        have : s = frow (bmp w) := by simpa using hs.symm
        subst this
        exact dom_put w hn
/-- SCHENSTED, KNUTH: from behind, the columns are the rows -/
theorem ins_rev {w : List Int} (hn : w.Nodup) : insAll w.reverse = tr (insAll w) := by
  have hs := ins_std _ w rfl hn
  have k1 := kq_rwd _ w rfl hn
  have hc : (cwd (tr (insAll w))).Nodup := by
    have p1 : (rwd (insAll w)).Perm w := k1.perm.symm
    have cp : ∀ L : List (List Int), (cwd L).Perm (rwd L) := fun L => by
      rw [← cwd_rev]; exact (List.reverse_perm _).symm
    have tp : ∀ T : List (List Int), StdT T → (cwd (tr T)).Perm (rwd T) := fun T => by
      intro h
      have := ins_cwd T h
      have i2 : ∀ n (u : List Int), u.length = n → (rwd (insAll u)).Perm u := by
        intro n
        induction n using Nat.strongRecOn with
        | _ n ih =>
          intro u hl
          by_cases h0 : u = []
          · subst h0; exact .refl _
          · have hb := bmp_len u
            have hf := frow_ne u h0
            rw [insAll_row u h0, rwd]
            refine ((ih _ (by omega) (bmp u) rfl).append_right _).trans ?_
            exact List.perm_append_comm.trans (frow_perm u)
      have p := i2 _ (cwd (tr T)) rfl
      rw [this] at p
      exact p.symm
    exact (tp _ hs).nodup_iff.2 (p1.nodup_iff.2 hn)
  have k2 := kq_rwd _ _ rfl hc
  rw [ins_cwd _ hs] at k2
  have k3 := (k1.trans k2.symm).rev
  rw [cwd_rev] at k3
  rw [k3.ins ((List.reverse_perm _).nodup_iff.2 hn), ins_rwd _ (tr_std _ hs)]
/-- what stands in the columns -/
theorem zc_get : ∀ (r : List Int) (cs : List (List Int)) (k : Nat), k < r.length → (zc r cs)[k]? = some (nth r k :: cs.getD k [])
  | [], _, k, h => by simp at h
  | a :: r, [], 0, _ => rfl
  | a :: r, [], k + 1, h => by
    rw [zc, List.getElem?_cons_succ, zc_get r [] k (by simpa using h)]
    simp [nth]
  | a :: r, c :: cs, 0, _ => rfl
  | a :: r, c :: cs, k + 1, h => by
    rw [zc, List.getElem?_cons_succ, zc_get r cs k (by simpa using h)]
    simp [nth]
theorem tr_get : ∀ (T : List (List Int)), StdT T → ∀ i r, T[i]? = some r → ∀ k, k < r.length → ∃ c, (tr T)[k]? = some c ∧ i < c.length ∧ nth c i = nth r k
  | [], _, i, r, h, _, _ => by simp at h
  | r0 :: rs, hs, 0, r, h, k, hk => by
    have : r0 = r := by simpa using h
    subst this
    exact ⟨_, zc_get r0 (tr rs) k hk, by simp, by simp [nth]⟩
  | r0 :: rs, hs, i + 1, r, h, k, hk => by
    rw [List.getElem?_cons_succ] at h
    obtain ⟨c, h1, h2, h3⟩ := tr_get rs hs.2.2.1 i r h k hk
    have hkl : k < r0.length := by
      have := (List.getElem?_eq_some_iff.1 h1).1
      have := tr_len_le r0 rs hs
      omega
    refine ⟨_, zc_get r0 (tr rs) k hkl, ?_, ?_⟩
    · rw [List.getD_eq_getElem?_getD, h1]; simp; omega
    · rw [List.getD_eq_getElem?_getD, h1, ← h3]; simp [nth]
end Go.Proofs.Ytooghdnlaonkaaa
