/- Several of my texts in one: Vie. -/
import Derived.Test.YtooghdnlaonkaaaRw32
import Derived.Test.YtooghdnlaonkaaaRw36
/- Plain law of Viennot and Schuetzenberger: what undoes an order has the two tableaux the other way round. -/
namespace Go.Proofs.Ytooghdnlaonkaaa
open Go.RowKit

/-! VIENNOT: the rows by places and numbers -/
def cb (T : List Int) (j : Nat) : Nat := T.countP fun y => decide (y < (j : Int))
theorem cb_cons (a : Int) (T : List Int) (j : Nat) : cb (a :: T) j = cb T j + if a < j then 1 else 0 := by
  unfold cb
  rw [List.countP_cons]
  simp only [decide_eq_true_eq]
theorem cb_zero {T : List Int} {j : Nat} (h : ∀ y ∈ T, (j : Int) ≤ y) : cb T j = 0 := by
  unfold cb
  rw [List.countP_eq_zero]
  intro y hy
  have := h y hy
  simp; omega
theorem cb_all {T : List Int} {j : Nat} (h : ∀ y ∈ T, y < (j : Int)) : cb T j = T.length := by
  unfold cb
  rw [List.countP_eq_length]
  intro y hy
  exact decide_eq_true (h y hy)
theorem rT_cb (x : Nat) (j : Nat) : ∀ T : List Int, T.Pairwise (· < ·) → ((x : Int) ∉ T) → cb (rT T x) j = if x < j then max (cb T j) (cb T x + 1) else cb T j
  | [], _, _ => by
    have : rT [] (x : Int) = [(x : Int)] := by simp [rT, pI]
    rw [this, cb_cons]
    unfold cb
    simp only [List.countP_nil]
    by_cases h : x < j
    · rw [if_pos (by omega), if_pos h]; rfl
    · rw [if_neg (by omega), if_neg h]
  | a :: T, hT, hx => by
    obtain ⟨h1, h2⟩ := List.pairwise_cons.1 hT
    have hax : a ≠ x := fun e => hx (by rw [e]; exact List.mem_cons_self)
    rw [rT_cons]
    by_cases h : (x : Int) < a
    · rw [if_pos h, cb_cons]
      have hz : cb (a :: T) x = 0 := cb_zero fun y hy => by
        rcases List.mem_cons.1 hy with rfl | hy
        · omega
        · have := h1 y hy; omega
      rw [hz, cb_cons]
      by_cases hj : x < j
      · rw [if_pos (show (x : Int) < (j : Int) by omega), if_pos hj]
        by_cases ha : a < (j : Int)
        · rw [if_pos ha]; omega
        · rw [if_neg ha]
          have : cb T j = 0 := cb_zero fun y hy => by have := h1 y hy; omega
          omega
      · rw [if_neg (show ¬ (x : Int) < (j : Int) by omega), if_neg hj, if_neg (by omega)]
    · rw [if_neg h, cb_cons, rT_cb x j T h2 (fun h => hx (List.mem_cons_of_mem _ h)), cb_cons, cb_cons]
      by_cases hj : x < j
      · rw [if_pos hj, if_pos hj, if_pos (show a < (j : Int) by omega), if_pos (show a < (x : Int) by omega)]; omega
      · rw [if_neg hj, if_neg hj]
/-- two places' functions that undo each other, below n -/
structure Opp (n : Nat) (p q : Nat → Option Nat) : Prop where
  iff : ∀ t v, p t = some v ↔ q v = some t
  bt : ∀ t v, p t = some v → t < n
  bv : ∀ t v, p t = some v → v < n
theorem Opp.symm {n : Nat} {p q : Nat → Option Nat} (h : Opp n p q) : Opp n q p :=
  ⟨fun t v => (h.iff v t).symm, fun t v e => h.bv v t ((h.iff v t).2 e), fun t v e => h.bt v t ((h.iff v t).2 e)⟩
theorem Opp.inj {n : Nat} {p q : Nat → Option Nat} (h : Opp n p q) {s t v : Nat} (h1 : p s = some v) (h2 : p t = some v) : s = t := by
  have a := (h.iff s v).1 h1
  have b := (h.iff t v).1 h2
  rw [a] at b
  exact Option.some.inj b
def rowF (p : Nat → Option Nat) : Nat → List Int
  | 0 => []
  | t + 1 => match p t with
    | none => rowF p t
    | some x => rT (rowF p t) x
def QF (p : Nat → Option Nat) : Nat → List Int
  | 0 => []
  | t + 1 => match p t with
    | none => QF p t
    | some x => if pI (rowF p t) x < (rowF p t).length then QF p t else QF p t ++ [(t : Int)]
def bF (p : Nat → Option Nat) (t : Nat) : Option Nat := match p t with
  | none => none
  | some x => if pI (rowF p t) x < (rowF p t).length then some (nth (rowF p t) (pI (rowF p t) x)).toNat else none
def RF (p : Nat → Option Nat) : Nat → Nat → Nat
  | 0, _ => 0
  | t + 1, j => match p t with
    | none => RF p t j
    | some x => if x < j then max (RF p t j) (RF p t x + 1) else RF p t j
theorem rowF_none {p : Nat → Option Nat} {t : Nat} (h : p t = none) : rowF p (t + 1) = rowF p t := by rw [rowF, h]
theorem rowF_some {p : Nat → Option Nat} {t x : Nat} (h : p t = some x) : rowF p (t + 1) = rT (rowF p t) x := by rw [rowF, h]
theorem rowF_mem (p : Nat → Option Nat) : ∀ t y, y ∈ rowF p t → ∃ s v : Nat, s < t ∧ p s = some v ∧ y = (v : Int)
  | 0, y, h => by simp [rowF] at h
  | t + 1, y, h => by
    cases hp : p t with
    | none =>
      rw [rowF_none hp] at h
      obtain ⟨s, v, h1, h2⟩ := rowF_mem p t y h
      exact ⟨s, v, by omega, h2⟩
    | some x =>
      rw [rowF_some hp] at h
      rcases rT_mem h with h | h
      · exact ⟨t, x, by omega, hp, h⟩
      · obtain ⟨s, v, h1, h2⟩ := rowF_mem p t y h
        exact ⟨s, v, by omega, h2⟩
theorem rowF_new {n : Nat} {p q : Nat → Option Nat} (h : Opp n p q) {t x : Nat} (hp : p t = some x) : (x : Int) ∉ rowF p t := fun hm => by
  obtain ⟨s, v, h1, h2, h3⟩ := rowF_mem p t _ hm
  have : v = x := by omega
  subst this
  have := h.inj h2 hp
  omega
theorem rowF_pw {n : Nat} {p q : Nat → Option Nat} (h : Opp n p q) : ∀ t, (rowF p t).Pairwise (· < ·)
  | 0 => by simp [rowF]
  | t + 1 => by
    cases hp : p t with
    | none => rw [rowF_none hp]; exact rowF_pw h t
    | some x => rw [rowF_some hp]; exact set_pw (rowF_pw h t) (rowF_new h hp)
theorem rowF_cb {n : Nat} {p q : Nat → Option Nat} (h : Opp n p q) : ∀ t j, cb (rowF p t) j = RF p t j
  | 0, j => by simp [rowF, cb, RF]
  | t + 1, j => by
    cases hp : p t with
    | none => rw [rowF_none hp, RF, hp]; exact rowF_cb h t j
    | some x => rw [rowF_some hp, rT_cb x j _ (rowF_pw h t) (rowF_new h hp), RF, hp, rowF_cb h t j, rowF_cb h t x]
theorem RF_zero (p : Nat → Option Nat) : ∀ t, RF p t 0 = 0
  | 0 => rfl
  | t + 1 => by
    rw [RF]
    split
    · exact RF_zero p t
    · rw [if_neg (by omega)]; exact RF_zero p t
theorem RF_col (p : Nat → Option Nat) : ∀ t j, RF p t j ≤ RF p t (j + 1) ∧ RF p t (j + 1) ≤ RF p t j + 1
  | 0, j => by simp [RF]
  | t + 1, j => by
    have ih := RF_col p t
    have h1 := ih j
    rw [RF, RF]
    cases p t with
    | none => exact h1
    | some x =>
      simp only
      by_cases c : x < j
      · rw [if_pos c, if_pos (by omega)]; omega
      · rw [if_neg c]
        by_cases c2 : x < j + 1
        · obtain rfl : x = j := by omega
          rw [if_pos c2]; omega
        · rw [if_neg c2]; exact h1
theorem RF_mono (p : Nat → Option Nat) (t : Nat) : ∀ d j, RF p t j ≤ RF p t (j + d)
  | 0, _ => Nat.le_refl _
  | d + 1, j => Nat.le_trans (RF_mono p t d j) (by rw [← Nat.add_assoc]; exact (RF_col p t (j + d)).1)
theorem RF_row (p : Nat → Option Nat) (t j : Nat) : RF p t j ≤ RF p (t + 1) j ∧ RF p (t + 1) j ≤ RF p t j + 1 := by
  rw [RF]
  cases p t with
  | none => exact ⟨Nat.le_refl _, by simp only; omega⟩
  | some x =>
    simp only
    split
    · next h =>
      have := RF_mono p t (j - x) x
      rw [show x + (j - x) = j by omega] at this
      omega
    · omega
/-- FOMIN's local rule -/
theorem RF_loc (p : Nat → Option Nat) (i j : Nat) : RF p (i + 1) (j + 1) = if p i = some j then RF p i j + 1 else max (RF p i (j + 1)) (RF p (i + 1) j) := by
  have h1 := RF_col p i j
  rw [RF, RF]
  cases hp : p i with
  | none => rw [if_neg (by simp)]; simp only; omega
  | some x =>
    simp only [Option.some.injEq]
    by_cases c : x = j
    · subst c
      rw [if_pos rfl, if_pos (by omega)]; omega
    · rw [if_neg c]
      by_cases c2 : x < j
      · rw [if_pos c2, if_pos (by omega)]; omega
      · rw [if_neg c2, if_neg (by omega)]; omega
theorem RF_opp {n : Nat} {p q : Nat → Option Nat} (h : Opp n p q) : ∀ i j, RF p i j = RF q j i
  | 0, j => by rw [RF_zero]; rfl
  | i + 1, 0 => by rw [RF_zero]; rfl
  | i + 1, j + 1 => by
    rw [RF_loc p i j, RF_loc q j i, RF_opp h i j, RF_opp h i (j + 1), RF_opp h (i + 1) j]
    by_cases c : p i = some j
    · rw [if_pos c, if_pos ((h.iff i j).1 c)]
    · rw [if_neg c, if_neg (fun e => c ((h.iff i j).2 e)), Nat.max_comm]
/-- who stands in a row -/
theorem mem_cb {T : List Int} (hT : T.Pairwise (· < ·)) (b : Nat) : (b : Int) ∈ T ↔ cb T (b + 1) = cb T b + 1 := by
  induction T with
  | nil => simp [cb]
  | cons a T ih =>
    obtain ⟨h1, h2⟩ := List.pairwise_cons.1 hT
    have ih := ih h2
    rw [cb_cons, cb_cons, List.mem_cons]
    by_cases e : (b : Int) = a
    · subst e
      have z1 : cb T (b + 1) = 0 := cb_zero fun y hy => by have := h1 y hy; omega
      have z2 : cb T b = 0 := cb_zero fun y hy => by have := h1 y hy; omega
      rw [z1, z2, if_pos (by omega), if_neg (by omega)]
      simp
    · have hc : (a < ((b + 1 : Nat) : Int)) ↔ (a < (b : Int)) := by omega
      simp only [hc]
      constructor
      · intro h
        have := ih.1 (h.resolve_left e)
        omega
      · intro h
        exact .inr (ih.2 (by omega))
theorem bF_iff {n : Nat} {p q : Nat → Option Nat} (h : Opp n p q) (t b : Nat) : bF p t = some b ↔ RF p t (b + 1) = RF p t b + 1 ∧ RF p (t + 1) (b + 1) = RF p (t + 1) b := by
  have hm : ∀ s, (b : Int) ∈ rowF p s ↔ RF p s (b + 1) = RF p s b + 1 := fun s => by rw [mem_cb (rowF_pw h s) b, rowF_cb h, rowF_cb h]
  have key : bF p t = some b ↔ (b : Int) ∈ rowF p t ∧ (b : Int) ∉ rowF p (t + 1) := by
    unfold bF
    cases hp : p t with
    | none =>
      rw [rowF_none hp]
      simp only [reduceCtorEq, false_iff]
      exact fun ⟨a, b⟩ => b a
    | some x =>
      rw [rowF_some hp]
      have hT := rowF_pw h t
      have hx := rowF_new h hp
      have hnn : ∀ y ∈ rowF p t, 0 ≤ y := fun y hy => by obtain ⟨_, v, _, _, e⟩ := rowF_mem p t y hy; omega
      generalize rowF p t = T at *
      simp only
      by_cases hk : pI T x < T.length
      · rw [if_pos hk]
        have hlt := pI_hi T x hk
        have hin := nth_mem T _ hk
        have h0 := hnn _ hin
        constructor
        · intro e
          have e2 : (b : Int) = nth T (pI T x) := by have := Option.some.inj e; omega
          rw [e2]
          refine ⟨hin, fun hm => ?_⟩
          unfold rT at hm
          rw [if_pos hk] at hm
          obtain ⟨i, hi, hie⟩ := mem_nth hm
          rw [List.length_set] at hi
          have hsn : nth (T.set (pI T x) x) i = if i = pI T x then (x : Int) else nth T i := by
            unfold nth
            rw [List.getD_eq_getElem?_getD, List.getD_eq_getElem?_getD, List.getElem?_set]
            by_cases e : pI T x = i
            · subst e; simp [hk]
            · rw [if_neg e, if_neg (fun x => e x.symm)]
          rw [hsn] at hie
          split at hie
          · omega
          · next hne =>
            rcases Nat.lt_or_ge i (pI T x) with c | c
            · have := pw_nth_lt hT c hk; omega
            · have := pw_nth_lt hT (show pI T x < i by omega) hi; omega
        · rintro ⟨h1, h2⟩
          rcases rT_stay (x := (x : Int)) hT h1 with h3 | ⟨_, h3⟩
          · exact absurd h3 h2
          · rw [h3]; simp
      · rw [if_neg hk]
        simp only [reduceCtorEq, false_iff]
        rintro ⟨h1, h2⟩
        rcases rT_stay (x := (x : Int)) hT h1 with h3 | ⟨h3, _⟩
        · exact h2 h3
        · exact hk h3
  rw [key, hm t, hm (t + 1)]
  have := RF_col p (t + 1) b
  constructor
  · rintro ⟨a, c⟩; exact ⟨a, by omega⟩
  · rintro ⟨a, c⟩; exact ⟨a, by omega⟩
theorem bF_opp {n : Nat} {p q : Nat → Option Nat} (h : Opp n p q) : Opp n (bF p) (bF q) := by
  have hb : ∀ {p q : Nat → Option Nat}, Opp n p q → ∀ t b, bF p t = some b → t < n ∧ b < n := fun {p q} h t b hb => by
    have hb2 := hb
    unfold bF at hb
    cases hp : p t with
    | none => rw [hp] at hb; cases hb
    | some x =>
      refine ⟨h.bt t x hp, ?_⟩
      have hm : (b : Int) ∈ rowF p t := by
        rw [mem_cb (rowF_pw h t) b, rowF_cb h, rowF_cb h]
        exact ((bF_iff h t b).1 hb2).1
      obtain ⟨s, v, _, h2, h3⟩ := rowF_mem p t _ hm
      have := h.bv s v h2
      omega
  refine ⟨fun t v => ?_, fun t v e => (hb h t v e).1, fun t v e => (hb h t v e).2⟩
  rw [bF_iff h t v, bF_iff h.symm v t, ← RF_opp h, ← RF_opp h, ← RF_opp h, ← RF_opp h]
  have a1 := RF_col p t v
  have a2 := RF_row p t v
  have a3 := RF_col p (t + 1) v
  have a4 := RF_row p t (v + 1)
  omega
theorem row_len {n : Nat} {p q : Nat → Option Nat} (h : Opp n p q) (t : Nat) : (rowF p t).length = RF p t n := by
  rw [← rowF_cb h, cb_all]
  intro y hy
  obtain ⟨s, v, _, h2, h3⟩ := rowF_mem p t y hy
  have := h.bv s v h2
  omega
theorem rT_len (T : List Int) (x : Int) : (rT T x).length = if pI T x < T.length then T.length else T.length + 1 := by
  unfold rT; split
  · rw [List.length_set]
  · rw [List.length_append]; rfl
theorem QF_said (p : Nat → Option Nat) : ∀ t, (QF p t).length = (rowF p t).length ∧ (QF p t).Pairwise (· < ·) ∧ (∀ y ∈ QF p t, 0 ≤ y ∧ y < (t : Int)) ∧ ∀ j, j ≤ t → cb (QF p t) j = (rowF p j).length
  | 0 => ⟨rfl, by simp [QF], by simp [QF], fun j hj => by obtain rfl : j = 0 := by omega
                                                          simp [QF, cb, rowF]⟩
  | t + 1 => by
    obtain ⟨h1, h2, h3, h4⟩ := QF_said p t
    have fin : ∀ {L : List Int}, L.length = (rowF p (t + 1)).length → (∀ y ∈ L, 0 ≤ y ∧ y < ((t + 1 : Nat) : Int)) → (∀ j, j ≤ t → cb L j = cb (QF p t) j) → ∀ j, j ≤ t + 1 → cb L j = (rowF p j).length := fun {L} e1 e2 e3 j hj => by
      by_cases c : j ≤ t
      · rw [e3 j c]; exact h4 j c
      · obtain rfl : j = t + 1 := by omega
        rw [cb_all fun y hy => (e2 y hy).2, e1]
    have keep : (∀ y ∈ QF p t, 0 ≤ y ∧ y < ((t + 1 : Nat) : Int)) := fun y hy => by have := h3 y hy; omega
    rw [QF]
    cases hp : p t with
    | none =>
      simp only
      have e : (QF p t).length = (rowF p (t + 1)).length := by rw [rowF_none hp]; exact h1
      exact ⟨e, h2, keep, fin e keep fun _ _ => rfl⟩
    | some x =>
      simp only
      have hl := rT_len (rowF p t) x
      split
      · next hk =>
        rw [if_pos hk] at hl
        have e : (QF p t).length = (rowF p (t + 1)).length := by rw [rowF_some hp, hl]; exact h1
        exact ⟨e, h2, keep, fin e keep fun _ _ => rfl⟩
      · next hk =>
        rw [if_neg hk] at hl
        have e : (QF p t ++ [(t : Int)]).length = (rowF p (t + 1)).length := by rw [rowF_some hp, hl, List.length_append, h1]; rfl
        have k2 : ∀ y ∈ QF p t ++ [(t : Int)], 0 ≤ y ∧ y < ((t + 1 : Nat) : Int) := fun y hy => by
          rcases List.mem_append.1 hy with hy | hy
          · exact keep y hy
          · have : y = t := by simpa using hy
            omega
        refine ⟨e, ?_, k2, fin e k2 fun j hj => ?_⟩
        · rw [List.pairwise_append]
          refine ⟨h2, by simp, fun a ha b hb => ?_⟩
          have := h3 a ha
          have : b = t := by simpa using hb
          omega
        · unfold cb
          rw [List.countP_append, List.countP_singleton]
          have : decide ((t : Int) < (j : Int)) = false := decide_eq_false (by omega)
          rw [this]; rfl
theorem rows_eq {A B : List Int} {n : Nat} (hA : A.Pairwise (· < ·)) (hB : B.Pairwise (· < ·)) (a : ∀ y ∈ A, 0 ≤ y ∧ y < (n : Int)) (b : ∀ y ∈ B, 0 ≤ y ∧ y < (n : Int)) (e : ∀ j, j ≤ n → cb A j = cb B j) : A = B := by
  have nd : ∀ {L : List Int}, L.Pairwise (· < ·) → L.Nodup := fun h => h.imp fun h => by omega
  have hp : A.Perm B := by
    rw [List.perm_ext_iff_of_nodup (nd hA) (nd hB)]
    intro y
    constructor
    · intro hy
      obtain ⟨h0, h1⟩ := a y hy
      rw [show y = ((y.toNat : Nat) : Int) by omega] at hy ⊢
      rw [mem_cb hA] at hy
      rw [mem_cb hB, ← e _ (by omega), ← e _ (by omega)]; exact hy
    · intro hy
      obtain ⟨h0, h1⟩ := b y hy
      rw [show y = ((y.toNat : Nat) : Int) by omega] at hy ⊢
      rw [mem_cb hB] at hy
      rw [mem_cb hA, e _ (by omega), e _ (by omega)]; exact hy
  exact hp.eq_of_pairwise (le := fun x y => x < y) (fun _ _ _ _ h h' => by omega) hA hB
/-- the first rows change places -/
theorem row_opp {n : Nat} {p q : Nat → Option Nat} (h : Opp n p q) : QF p n = rowF q n := by
  obtain ⟨h1, h2, h3, h4⟩ := QF_said p n
  refine rows_eq h2 (rowF_pw h.symm n) h3 (fun y hy => ?_) (fun j hj => ?_)
  · obtain ⟨s, v, _, e, e2⟩ := rowF_mem q n y hy
    have := h.symm.bv s v e
    omega
  · rw [h4 j hj, row_len h, rowF_cb h.symm, RF_opp h]
/-! both tableaux by places -/
def SF (p : Nat → Option Nat) : Nat → List (List Int) × List (List Int)
  | 0 => ([], [])
  | t + 1 => match p t with
    | none => SF p t
    | some x => ((put (SF p t).1 x).1, qPut (SF p t).2 (put (SF p t).1 x).2 t)
theorem SF_none {p : Nat → Option Nat} {t : Nat} (h : p t = none) : SF p (t + 1) = SF p t := by rw [SF, h]
theorem SF_some {p : Nat → Option Nat} {t x : Nat} (h : p t = some x) : SF p (t + 1) = ((put (SF p t).1 x).1, qPut (SF p t).2 (put (SF p t).1 x).2 t) := by rw [SF, h]
def NoPt (p : Nat → Option Nat) (t : Nat) : Prop := ∀ s, s < t → p s = none
theorem NoPt.row {p : Nat → Option Nat} : ∀ {t : Nat}, NoPt p t → rowF p t = [] ∧ QF p t = [] ∧ SF p t = ([], []) ∧ NoPt (bF p) t
  | 0, _ => ⟨rfl, rfl, rfl, fun s hs => by omega⟩
  | t + 1, h => by
    obtain ⟨h1, h2, h3, h4⟩ := NoPt.row (p := p) (t := t) fun s hs => h s (by omega)
    have hp := h t (by omega)
    refine ⟨by rw [rowF_none hp, h1], by rw [QF, hp]; exact h2, by rw [SF_none hp, h3], fun s hs => ?_⟩
    unfold bF
    rw [h s hs]
theorem qPut_succ (q : List Int) (Q : List (List Int)) (i : Nat) (k : Int) : qPut (q :: Q) (i + 1) k = q :: qPut Q i k := by
  unfold qPut qPre
  by_cases h : i = Q.length
  · rw [if_pos (by simp [h]), if_pos h]; simp
  · rw [if_neg (by simp [h]), if_neg h]; simp
theorem qPut_head (q : List Int) (Q : List (List Int)) (k : Int) : qPut (q :: Q) 0 k = (q ++ [k]) :: Q := by
  unfold qPut qPre
  rw [if_neg (by simp)]; simp
theorem SF_row (p : Nat → Option Nat) : ∀ t, NoPt p t ∨ SF p t = (rowF p t :: (SF (bF p) t).1, QF p t :: (SF (bF p) t).2)
  | 0 => .inl fun s hs => by omega
  | t + 1 => by
    cases hp : p t with
    | none =>
      have hb : bF p t = none := by unfold bF; rw [hp]
      rcases SF_row p t with h | h
      · left
        intro s hs
        by_cases c : s = t
        · subst c; exact hp
        · exact h s (by omega)
      · right
        rw [SF_none hp, SF_none hb, h, rowF_none hp, QF, hp]
    | some x =>
      right
      rw [SF_some hp, rowF_some hp, QF, hp]
      rcases SF_row p t with h | h
      · obtain ⟨h1, h2, h3, h4⟩ := h.row
        have hb : bF p t = none := by
          unfold bF
          rw [hp, h1]
          simp [pI]
        rw [SF_none hb, (h4.row).2.2.1, h3, h1, h2]
        rfl
      · rw [h]
        simp only [put]
        by_cases hk : pI (rowF p t) x < (rowF p t).length
        · have hb : bF p t = some (nth (rowF p t) (pI (rowF p t) x)).toNat := by
            unfold bF
            rw [hp]
            simp only
            rw [if_pos hk]
          have h0 : 0 ≤ nth (rowF p t) (pI (rowF p t) x) := by
            obtain ⟨_, v, _, _, e⟩ := rowF_mem p t _ (nth_mem _ _ hk)
            omega
          rw [SF_some hb, if_pos hk, if_pos hk, show (((nth (rowF p t) (pI (rowF p t) x)).toNat : Nat) : Int) = nth (rowF p t) (pI (rowF p t) x) by omega]
          simp only [qPut_succ]
          unfold rT
          rw [if_pos hk]
        · have hb : bF p t = none := by
            unfold bF
            rw [hp]
            simp only
            rw [if_neg hk]
          rw [SF_none hb, if_neg hk, if_neg hk]
          simp only [qPut_head]
          unfold rT
          rw [if_neg hk]
/-- how many places -/
def cPt (p : Nat → Option Nat) (n : Nat) : Nat := (List.range n).countP fun t => (p t).isSome
theorem cPt_succ (p : Nat → Option Nat) (n : Nat) : cPt p (n + 1) = cPt p n + if (p n).isSome = true then 1 else 0 := by
  unfold cPt
  rw [List.range_succ, List.countP_append, List.countP_singleton]
theorem cPt_row (p : Nat → Option Nat) : ∀ t, (rowF p t).length + cPt (bF p) t = cPt p t
  | 0 => rfl
  | t + 1 => by
    have ih := cPt_row p t
    rw [cPt_succ, cPt_succ]
    cases hp : p t with
    | none =>
      have hb : bF p t = none := by unfold bF; rw [hp]
      rw [rowF_none hp, hb]; simp; omega
    | some x =>
      rw [rowF_some hp, rT_len]
      by_cases hk : pI (rowF p t) x < (rowF p t).length
      · have hb : (bF p t).isSome = true := by
          unfold bF; rw [hp]; simp only; rw [if_pos hk]; rfl
        rw [if_pos hk, if_pos hb]; simp; omega
      · have hb : bF p t = none := by
          unfold bF; rw [hp]; simp only; rw [if_neg hk]
        rw [if_neg hk, hb]; simp; omega
theorem row_pos {p : Nat → Option Nat} : ∀ {t : Nat}, ¬ NoPt p t → 0 < (rowF p t).length
  | 0, h => absurd (fun s hs => by omega) h
  | t + 1, h => by
    cases hp : p t with
    | none =>
      rw [rowF_none hp]
      refine row_pos fun hn => h fun s hs => ?_
      by_cases c : s = t
      · subst c; exact hp
      · exact hn s (by omega)
    | some x =>
      rw [rowF_some hp, rT_len]
      split <;> omega
/-- SCHUETZENBERGER -/
theorem SF_opp {n : Nat} : ∀ m {p q : Nat → Option Nat}, Opp n p q → cPt p n = m → (SF p n).1 = (SF q n).2 ∧ (SF p n).2 = (SF q n).1 := by
  intro m
  induction m using Nat.strongRecOn with
  | _ m ih =>
    intro p q h hm
    have hno : NoPt p n ↔ NoPt q n := by
      have one : ∀ {p q : Nat → Option Nat}, Opp n p q → NoPt p n → NoPt q n := fun {p q} h hn s hs => by
        cases hq : q s with
        | none => rfl
        | some v =>
          have h1 := (h.iff v s).2 hq
          have := hn v (h.bt v s h1)
          rw [this] at h1; cases h1
      exact ⟨one h, one h.symm⟩
    by_cases hn : NoPt p n
    · rw [hn.row.2.2.1, ((hno.1 hn).row).2.2.1]; exact ⟨rfl, rfl⟩
    · have h1 := (SF_row p n).resolve_left hn
      have h2 := (SF_row q n).resolve_left (fun e => hn (hno.2 e))
      have hc := cPt_row p n
      have hp := row_pos hn
      obtain ⟨i1, i2⟩ := ih (cPt (bF p) n) (by omega) (bF_opp h) rfl
      rw [h1, h2, i1, i2, row_opp h, row_opp h.symm]
      exact ⟨rfl, rfl⟩
end Go.Proofs.Ytooghdnlaonkaaa
