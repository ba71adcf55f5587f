/- Plain laws of runners (package warp). -/
import Derived.Test.YtgblmbhbbjgdiaaArr4
namespace Go.Proofs.Ytgblmbhbbjgdiaa
open Go.RowKit

/-! rows of structs -/
theorem flat_len {α : Type} (f : α → List Value) (c : Nat) (hf : ∀ a, (f a).length = c) : ∀ l : List α, (l.flatMap f).length = l.length * c
  | [] => by simp
  | x :: r => by rw [List.flatMap_cons, List.length_append, hf, flat_len f c hf r, List.length_cons, Nat.add_mul]; omega
theorem flat_get {α : Type} (f : α → List Value) (c : Nat) (hf : ∀ a, (f a).length = c) (d : α) : ∀ (l : List α) (i j : Nat), i < l.length → j < c → (l.flatMap f)[i * c + j]? = (f (l.getD i d))[j]?
  | [], i, j, h, _ => by simp at h
  | x :: r, 0, j, _, hj => by
    rw [List.flatMap_cons, Nat.zero_mul, Nat.zero_add, List.getElem?_append_left (by rw [hf]; exact hj)]; rfl
  | x :: r, i + 1, j, h, hj => by
    rw [List.flatMap_cons, List.getElem?_append_right (by rw [hf, Nat.add_mul]; omega), hf]
    have := flat_get f c hf d r i j (by simpa using h) hj
    rw [show (i + 1) * c + j - c = i * c + j by rw [Nat.add_mul]; omega]
    simpa using this
theorem flat_set {α : Type} (f : α → List Value) (c : Nat) (hf : ∀ a, (f a).length = c) (d : α) (v : Value) (y : α) : ∀ (l : List α) (i j : Nat), i < l.length → j < c → (f (l.getD i d)).set j v = f y → (l.flatMap f).set (i * c + j) v = (l.set i y).flatMap f
  | [], i, j, h, _, _ => by simp at h
  | x :: r, 0, j, _, hj, e => by
    rw [List.flatMap_cons, Nat.zero_mul, Nat.zero_add, List.set_append_left _ _ (by rw [hf]; exact hj)]
    simp only [List.getD_cons_zero] at e
    rw [e]; rfl
  | x :: r, i + 1, j, h, hj, e => by
    rw [List.flatMap_cons, List.set_append_right _ _ (by rw [hf, Nat.add_mul]; omega), hf]
    have := flat_set f c hf d v y r i j (by simpa using h) hj (by simpa using e)
    rw [show (i + 1) * c + j - c = i * c + j by rw [Nat.add_mul]; omega, this]
    rfl
theorem flat_drop {α : Type} (f : α → List Value) (c : Nat) (hf : ∀ a, (f a).length = c) : ∀ (l : List α) (k : Nat), (l.flatMap f).drop (k * c) = (l.drop k).flatMap f
  | [], k => by simp
  | x :: r, 0 => by simp
  | x :: r, k + 1 => by
    rw [List.flatMap_cons, List.drop_append, hf, List.drop_eq_nil_of_le (by rw [hf, Nat.add_mul]; omega), show (k + 1) * c - c = k * c by rw [Nat.add_mul]; omega, flat_drop f c hf r k]
    simp
theorem getD_set {α : Type} (l : List α) (i j : Nat) (x d : α) (h : i < l.length) : (l.set i x).getD j d = if j = i then x else l.getD j d := by
  rw [List.getD_eq_getElem?_getD, List.getD_eq_getElem?_getD, List.getElem?_set]
  by_cases e : i = j
  · subst e; simp [h]
  · rw [if_neg e, if_neg (fun x => e x.symm)]
theorem getD_mem' {α : Type} (l : List α) (i : Nat) (d : α) (h : i < l.length) : l.getD i d ∈ l := by
  rw [List.getD_eq_getElem?_getD, List.getElem?_eq_getElem h]; exact List.getElem_mem _

structure Rn where
  sh : Int
  wa : Int
  th : Bool
  ah : Bool
  ps : Int
structure Tu where
  t : Int
  who : Int
  kind : Int
def rn0 : Rn := ⟨1, 0, false, false, 0⟩
def tu0 : Tu := ⟨0, 0, 0⟩
def rnC (r : Rn) : List Value := [.int .i64 r.sh, .int .i64 r.wa, .bool r.th, .bool r.ah, .int .i64 r.ps]
def thC (r : Rn) : List Value := [.int .i64 r.sh, .int .i64 r.wa, .bool r.th, .bool r.ah]
def tuC (x : Tu) : List Value := [.int .i64 x.t, .int .i64 x.who, .int .i64 x.kind]
def rns (l : List Rn) : List Value := l.flatMap rnC
def ths (l : List Rn) : List Value := l.flatMap thC
def tus (l : List Tu) : List Value := l.flatMap tuC
def rnA (l : List Rn) (i : Nat) : Rn := l.getD i rn0
def tuA (l : List Tu) (i : Nat) : Tu := l.getD i tu0
theorem rns_len (l : List Rn) : (rns l).length = l.length * 5 := flat_len rnC 5 (fun _ => rfl) l
theorem ths_len (l : List Rn) : (ths l).length = l.length * 4 := flat_len thC 4 (fun _ => rfl) l
theorem tus_len (l : List Tu) : (tus l).length = l.length * 3 := flat_len tuC 3 (fun _ => rfl) l
theorem rns_get (l : List Rn) (i j : Nat) (h : i < l.length) (hj : j < 5) : (rns l)[i * 5 + j]? = (rnC (rnA l i))[j]? := flat_get rnC 5 (fun _ => rfl) rn0 l i j h hj
theorem ths_get (l : List Rn) (i j : Nat) (h : i < l.length) (hj : j < 4) : (ths l)[i * 4 + j]? = (thC (rnA l i))[j]? := flat_get thC 4 (fun _ => rfl) rn0 l i j h hj
theorem tus_get (l : List Tu) (i j : Nat) (h : i < l.length) (hj : j < 3) : (tus l)[i * 3 + j]? = (tuC (tuA l i))[j]? := flat_get tuC 3 (fun _ => rfl) tu0 l i j h hj
theorem rns_set (l : List Rn) (i j : Nat) (v : Value) (y : Rn) (h : i < l.length) (hj : j < 5) (e : (rnC (rnA l i)).set j v = rnC y) : (rns l).set (i * 5 + j) v = rns (l.set i y) := flat_set rnC 5 (fun _ => rfl) rn0 v y l i j h hj e
theorem rns_snoc (l : List Rn) (r : Rn) : rns l ++ rnC r = rns (l ++ [r]) := by simp [rns]
theorem ths_snoc (l : List Rn) (r : Rn) : ths l ++ thC r = ths (l ++ [r]) := by simp [ths]
theorem tus_snoc (l : List Tu) (r : Tu) : tus l ++ tuC r = tus (l ++ [r]) := by simp [tus]
theorem rnA_set (l : List Rn) (i j : Nat) (x : Rn) (h : i < l.length) : rnA (l.set i x) j = if j = i then x else rnA l j := getD_set l i j x rn0 h
theorem rnA_mem (l : List Rn) (i : Nat) (h : i < l.length) : rnA l i ∈ l := getD_mem' l i rn0 h
theorem tuA_mem (l : List Tu) (i : Nat) (h : i < l.length) : tuA l i ∈ l := getD_mem' l i tu0 h
theorem rnA_take (l : List Rn) (k : Nat) (h : k < l.length) : l.take (k + 1) = l.take k ++ [rnA l k] := by
  rw [List.take_succ_eq_append_getElem h]; simp [rnA, h]
theorem tuA_take (l : List Tu) (k : Nat) (h : k < l.length) : l.take (k + 1) = l.take k ++ [tuA l k] := by
  rw [List.take_succ_eq_append_getElem h]; simp [tuA, h]

/-! Check -/
def badR (r : Rn) : Bool := decide (r.sh < 1) || decide (10 < r.sh) || decide (r.wa < 0) || decide (100000 < r.wa)
def badT (n : Nat) (x : Tu) : Bool := decide (x.t < 0) || decide (200 < x.t) || decide (x.who < 0) || decide ((n : Int) ≤ x.who) || decide (x.kind < 1) || decide (4 < x.kind)
def chkU (n : Nat) (T : List Tu) : Nat → Int
  | 0 => 0
  | k + 1 => if chkU n T k ≠ 0 then chkU n T k else if badT n (tuA T k) = true then 1 else if 0 < k ∧ (tuA T k).t < (tuA T (k - 1)).t then 3 else 0
def chkR (l : List Rn) : Nat → Int
  | 0 => 0
  | k + 1 => if chkR l k ≠ 0 then chkR l k else if badR (rnA l k) = true then 1 else 0
def chkW (l : List Rn) (T : List Tu) : Int := if 8 < l.length ∨ 30 < T.length then 2 else if chkR l l.length ≠ 0 then chkR l l.length else chkU l.length T T.length
theorem chkR_stays (l : List Rn) (k : Nat) (h : chkR l k ≠ 0) : ∀ d, chkR l (k + d) = chkR l k
  | 0 => rfl
  | d + 1 => by
    have ih := chkR_stays l k h d
    rw [show k + (d + 1) = (k + d) + 1 from rfl, chkR, ih, if_pos h]
theorem chkU_stays (n : Nat) (T : List Tu) (k : Nat) (h : chkU n T k ≠ 0) : ∀ d, chkU n T (k + d) = chkU n T k
  | 0 => rfl
  | d + 1 => by
    have ih := chkU_stays n T k h d
    rw [show k + (d + 1) = (k + d) + 1 from rfl, chkU, ih, if_pos h]
theorem chkR_front (l : List Rn) (n : Nat) (h : chkR l n = 0) : ∀ k, k ≤ n → chkR l k = 0 := fun k hk => by
  by_cases e : chkR l k = 0
  · exact e
  · have := chkR_stays l k e (n - k)
    rw [show k + (n - k) = n by omega, h] at this
    exact this.symm
theorem chkU_front (n : Nat) (T : List Tu) (m : Nat) (h : chkU n T m = 0) : ∀ k, k ≤ m → chkU n T k = 0 := fun k hk => by
  by_cases e : chkU n T k = 0
  · exact e
  · have := chkU_stays n T k e (m - k)
    rw [show k + (m - k) = m by omega, h] at this
    exact this.symm
theorem chkR_ok {l : List Rn} {k : Nat} (h : chkR l l.length = 0) (hk : k < l.length) : 1 ≤ (rnA l k).sh ∧ (rnA l k).sh ≤ 10 ∧ 0 ≤ (rnA l k).wa ∧ (rnA l k).wa ≤ 100000 := by
  have h1 := chkR_front l l.length h k (by omega)
  have h2 := chkR_front l l.length h (k + 1) (by omega)
  rw [chkR, if_neg (by omega)] at h2
  have h3 : badR (rnA l k) = false := by
    cases hb : badR (rnA l k)
    · rfl
    · rw [if_pos hb] at h2; cases h2
  unfold badR at h3
  simp only [Bool.or_eq_false_iff, decide_eq_false_iff_not] at h3
  omega
theorem chkU_ok {n : Nat} {T : List Tu} {k : Nat} (h : chkU n T T.length = 0) (hk : k < T.length) : 0 ≤ (tuA T k).t ∧ (tuA T k).t ≤ 200 ∧ 0 ≤ (tuA T k).who ∧ (tuA T k).who < n ∧ 1 ≤ (tuA T k).kind ∧ (tuA T k).kind ≤ 4 ∧ (0 < k → (tuA T (k - 1)).t ≤ (tuA T k).t) := by
  have h1 := chkU_front n T T.length h k (by omega)
  have h2 := chkU_front n T T.length h (k + 1) (by omega)
  rw [chkU, if_neg (by omega)] at h2
  have h3 : badT n (tuA T k) = false := by
    cases hb : badT n (tuA T k)
    · rfl
    · rw [if_pos hb] at h2; cases h2
  rw [if_neg (by simp [h3])] at h2
  have h4 : ¬ (0 < k ∧ (tuA T k).t < (tuA T (k - 1)).t) := fun c => by rw [if_pos c] at h2; cases h2
  unfold badT at h3
  simp only [Bool.or_eq_false_iff, decide_eq_false_iff_not] at h3
  omega

/-! turns -/
def anyR (L : List Rn) : Nat → Bool
  | 0 => false
  | k + 1 => anyR L k || (rnA L k).th
def lstR (L : List Rn) : Nat → Int
  | 0 => 0
  | k + 1 => if (rnA L k).th = true ∧ (anyR L k = false ∨ (rnA L k).ps < lstR L k) then (rnA L k).ps else lstR L k
def turnR (L : List Rn) (x : Tu) : List Rn :=
  if x.kind = 1 then L.set x.who.toNat { rnA L x.who.toNat with th := false }
  else if x.kind = 2 then
    if (rnA L x.who.toNat).th = true then L
    else L.set x.who.toNat { rnA L x.who.toNat with th := true, ps := if anyR L L.length = true then max (rnA L x.who.toNat).ps (lstR L L.length) else (rnA L x.who.toNat).ps }
  else if x.kind = 3 then L.set x.who.toNat { rnA L x.who.toNat with ah := true }
  else if x.kind = 4 then L.set x.who.toNat { rnA L x.who.toNat with ah := false } else L
def eW (r : Rn) : Int := if r.ah = true then r.ps - r.wa else r.ps
def besW (L : List Rn) : Nat → Int
  | 0 => -1
  | k + 1 => if (rnA L k).th = true ∧ (besW L k < 0 ∨ eW (rnA L k) < eW (rnA L (besW L k).toNat)) then k else besW L k
theorem besW_lt (L : List Rn) : ∀ k, -1 ≤ besW L k ∧ besW L k < k
  | 0 => ⟨by simp [besW], by simp [besW]⟩
  | k + 1 => by
    have := besW_lt L k
    rw [besW]; split <;> omega
def leastW (L : List Rn) (k : Nat) : Int := if besW L k < 0 then 0 else eW (rnA L (besW L k).toNat)
def bumpW (L : List Rn) (b : Int) : List Rn := if 0 ≤ b then L.set b.toNat { rnA L b.toNat with ps := (rnA L b.toNat).ps + 2520 / (rnA L b.toNat).sh } else L
def evs (T : List Tu) (t : Nat) : List Tu := T.filter fun x => x.t == (t : Int)
def zeroR (l : List Rn) : List Rn := l.map fun r => { r with ps := 0 }
def stL (l : List Rn) (T : List Tu) : Nat → List Rn
  | 0 => zeroR l
  | t + 1 => bumpW ((evs T t).foldl turnR (stL l T t)) (besW ((evs T t).foldl turnR (stL l T t)) l.length)
def evL (l : List Rn) (T : List Tu) (t : Nat) : List Rn := (evs T t).foldl turnR (stL l T t)
def ranW (l : List Rn) (T : List Tu) (n : Nat) : List Int := (List.range n).map fun t => besW (evL l T t) l.length
def endW (L : List Rn) : List Int := L.map Rn.ps
theorem ranW_len (l : List Rn) (T : List Tu) (n : Nat) : (ranW l T n).length = n := by simp [ranW]
theorem ranW_succ (l : List Rn) (T : List Tu) (n : Nat) : ranW l T (n + 1) = ranW l T n ++ [besW (evL l T n) l.length] := by simp [ranW, List.range_succ]
theorem ranW_nth (l : List Rn) (T : List Tu) (n t : Nat) (h : t < n) : nth (ranW l T n) t = besW (evL l T t) l.length := by simp [nth, ranW, h]
theorem ranW_take (l : List Rn) (T : List Tu) (n k : Nat) (h : k ≤ n) : (ranW l T n).take k = ranW l T k := by
  unfold ranW
  rw [← List.map_take, List.take_range, Nat.min_eq_left h]
theorem turnR_len (L : List Rn) (x : Tu) : (turnR L x).length = L.length := by
  unfold turnR
  repeat' split
  all_goals simp
theorem fold_len (E : List Tu) : ∀ L : List Rn, (E.foldl turnR L).length = L.length := by
  induction E with
  | nil => intro L; rfl
  | cons x r ih => intro L; rw [List.foldl_cons, ih, turnR_len]
theorem bumpW_len (L : List Rn) (b : Int) : (bumpW L b).length = L.length := by unfold bumpW; split <;> simp
theorem zeroR_len (l : List Rn) : (zeroR l).length = l.length := by simp [zeroR]
theorem stL_len (l : List Rn) (T : List Tu) : ∀ t, (stL l T t).length = l.length
  | 0 => zeroR_len l
  | t + 1 => by rw [stL, bumpW_len, fold_len, stL_len l T t]
theorem evL_len (l : List Rn) (T : List Tu) (t : Nat) : (evL l T t).length = l.length := by rw [evL, fold_len, stL_len]
theorem stL_succ (l : List Rn) (T : List Tu) (t : Nat) : stL l T (t + 1) = bumpW (evL l T t) (besW (evL l T t) l.length) := rfl
theorem besW_none (L : List Rn) : ∀ k, besW L k < 0 → ∀ j, j < k → (rnA L j).th = false
  | 0, _, j, hj => by omega
  | k + 1, h, j, hj => by
    have hb := besW_lt L k
    rw [besW] at h
    split at h
    · omega
    · next hc =>
      by_cases ej : j = k
      · subst ej
        cases ht : (rnA L j).th
        · rfl
        · exact absurd ⟨ht, .inl h⟩ hc
      · exact besW_none L k h j (by omega)
theorem besW_best (L : List Rn) : ∀ k, 0 ≤ besW L k → (rnA L (besW L k).toNat).th = true ∧ ∀ j, j < k → (rnA L j).th = true → eW (rnA L (besW L k).toNat) ≤ eW (rnA L j)
  | 0, h => by simp [besW] at h
  | k + 1, h => by
    have hb := besW_lt L k
    by_cases hc : (rnA L k).th = true ∧ (besW L k < 0 ∨ eW (rnA L k) < eW (rnA L (besW L k).toNat))
    · have e : besW L (k + 1) = k := by rw [besW, if_pos hc]
      rw [e]
      simp only [Int.toNat_natCast]
      refine ⟨hc.1, fun j hj ht => ?_⟩
      by_cases ej : j = k
      · subst ej; exact Int.le_refl _
      · by_cases h0 : besW L k < 0
        · have := besW_none L k h0 j (by omega); rw [this] at ht; cases ht
        · have := (besW_best L k (by omega)).2 j (by omega) ht
          rcases hc.2 with h2 | h2 <;> omega
    · have e : besW L (k + 1) = besW L k := by rw [besW, if_neg hc]
      rw [e] at h ⊢
      have ih := besW_best L k h
      refine ⟨ih.1, fun j hj ht => ?_⟩
      by_cases ej : j = k
      · subst ej
        rcases Int.lt_or_le (eW (rnA L j)) (eW (rnA L (besW L j).toNat)) with h1 | h1
        · exact absurd ⟨ht, .inr h1⟩ hc
        · exact h1
      · exact ih.2 j (by omega) ht

/-- what holds of runners at every time -/
structure RnOk (L : List Rn) (n : Nat) (b : Int) : Prop where
  len : L.length = n
  ok : ∀ i, i < n → 1 ≤ (rnA L i).sh ∧ (rnA L i).sh ≤ 10 ∧ 0 ≤ (rnA L i).wa ∧ (rnA L i).wa ≤ 100000 ∧ 0 ≤ (rnA L i).ps ∧ (rnA L i).ps ≤ b
theorem lstR_in (L : List Rn) (n : Nat) (b : Int) (h : RnOk L n b) (hb : 0 ≤ b) : ∀ k, k ≤ n → 0 ≤ lstR L k ∧ lstR L k ≤ b
  | 0, _ => by rw [lstR]; omega
  | k + 1, hk => by
    have ih := lstR_in L n b h hb k (by omega)
    have := h.ok k (by omega)
    rw [lstR]; split <;> omega
theorem RnOk.set {L : List Rn} {n : Nat} {b : Int} (h : RnOk L n b) (i : Nat) (hi : i < n) (r : Rn) (h1 : 1 ≤ r.sh ∧ r.sh ≤ 10 ∧ 0 ≤ r.wa ∧ r.wa ≤ 100000 ∧ 0 ≤ r.ps ∧ r.ps ≤ b) : RnOk (L.set i r) n b := by
  refine ⟨by rw [List.length_set, h.len], fun j hj => ?_⟩
  rw [rnA_set _ _ _ _ (by rw [h.len]; exact hi)]
  split
  · exact h1
  · exact h.ok j hj
theorem RnOk.turn {L : List Rn} {n : Nat} {b : Int} (h : RnOk L n b) (hb : 0 ≤ b) (x : Tu) (hx : 0 ≤ x.who ∧ x.who < n) : RnOk (turnR L x) n b := by
  have ho := h.ok x.who.toNat (by omega)
  have hl := lstR_in L n b h hb n (by omega)
  unfold turnR
  split
  · exact h.set _ (by omega) _ ho
  · split
    · split
      · exact h
      · refine h.set _ (by omega) _ ?_
        rw [h.len]
        show 1 ≤ (rnA L x.who.toNat).sh ∧ (rnA L x.who.toNat).sh ≤ 10 ∧ 0 ≤ (rnA L x.who.toNat).wa ∧ (rnA L x.who.toNat).wa ≤ 100000 ∧ 0 ≤ (if anyR L n = true then max (rnA L x.who.toNat).ps (lstR L n) else (rnA L x.who.toNat).ps) ∧ (if anyR L n = true then max (rnA L x.who.toNat).ps (lstR L n) else (rnA L x.who.toNat).ps) ≤ b
        split <;> omega
    · split
      · exact h.set _ (by omega) _ ho
      · split
        · exact h.set _ (by omega) _ ho
        · exact h
theorem RnOk.fold {n : Nat} {b : Int} (hb : 0 ≤ b) : ∀ (E : List Tu) (L : List Rn), RnOk L n b → (∀ x ∈ E, 0 ≤ x.who ∧ x.who < n) → RnOk (E.foldl turnR L) n b
  | [], L, h, _ => h
  | x :: r, L, h, hE => RnOk.fold hb r _ (h.turn hb x (hE x (by simp))) (fun y hy => hE y (by simp [hy]))
theorem share_div (s : Int) (h1 : 1 ≤ s) (h2 : s ≤ 10) : 252 ≤ 2520 / s ∧ 2520 / s ≤ 2520 ∧ s * (2520 / s) = 2520 := by
  have : s = 1 ∨ s = 2 ∨ s = 3 ∨ s = 4 ∨ s = 5 ∨ s = 6 ∨ s = 7 ∨ s = 8 ∨ s = 9 ∨ s = 10 := by omega
  rcases this with rfl | rfl | rfl | rfl | rfl | rfl | rfl | rfl | rfl | rfl <;> decide
theorem RnOk.bump {L : List Rn} {n : Nat} {b : Int} (h : RnOk L n b) (k : Int) (hk : k < n) : RnOk (bumpW L k) n (b + 2520) := by
  unfold bumpW
  have h' : RnOk L n (b + 2520) := ⟨h.len, fun i hi => by have := h.ok i hi; omega⟩
  split
  · have ho := h.ok k.toNat (by omega)
    have hs := share_div (rnA L k.toNat).sh ho.1 ho.2.1
    refine h'.set _ (by omega) _ ?_
    show 1 ≤ (rnA L k.toNat).sh ∧ (rnA L k.toNat).sh ≤ 10 ∧ 0 ≤ (rnA L k.toNat).wa ∧ (rnA L k.toNat).wa ≤ 100000 ∧ 0 ≤ (rnA L k.toNat).ps + 2520 / (rnA L k.toNat).sh ∧ (rnA L k.toNat).ps + 2520 / (rnA L k.toNat).sh ≤ b + 2520
    omega
  · exact h'
/-- what Check allows -/
structure WOk (l : List Rn) (T : List Tu) (n m : Nat) : Prop where
  ln : l.length = n
  lm : T.length = m
  n8 : n ≤ 8
  m30 : m ≤ 30
  rn : ∀ i, i < n → 1 ≤ (rnA l i).sh ∧ (rnA l i).sh ≤ 10 ∧ 0 ≤ (rnA l i).wa ∧ (rnA l i).wa ≤ 100000
  tu : ∀ k, k < m → 0 ≤ (tuA T k).t ∧ (tuA T k).t ≤ 200 ∧ 0 ≤ (tuA T k).who ∧ (tuA T k).who < n ∧ 1 ≤ (tuA T k).kind ∧ (tuA T k).kind ≤ 4 ∧ (0 < k → (tuA T (k - 1)).t ≤ (tuA T k).t)
theorem chkW_ok {l : List Rn} {T : List Tu} (h : chkW l T = 0) : WOk l T l.length T.length := by
  unfold chkW at h
  by_cases h1 : 8 < l.length ∨ 30 < T.length
  · rw [if_pos h1] at h; cases h
  rw [if_neg h1] at h
  by_cases h2 : chkR l l.length ≠ 0
  · rw [if_pos h2] at h; exact absurd h h2
  rw [if_neg h2] at h
  have h2 : chkR l l.length = 0 := by omega
  exact ⟨rfl, rfl, by omega, by omega, fun i hi => chkR_ok h2 hi, fun k hk => chkU_ok h hk⟩
theorem WOk.who {l : List Rn} {T : List Tu} {n m : Nat} (h : WOk l T n m) (x : Tu) (hx : x ∈ T) : 0 ≤ x.t ∧ x.t ≤ 200 ∧ 0 ≤ x.who ∧ x.who < n ∧ 1 ≤ x.kind ∧ x.kind ≤ 4 := by
  obtain ⟨k, hk, rfl⟩ := List.getElem_of_mem hx
  have := h.tu k (by rw [← h.lm]; exact hk)
  have e : tuA T k = T[k] := by simp [tuA, hk]
  rw [e] at this
  omega
theorem rnA_zero (l : List Rn) (i : Nat) (h : i < l.length) : rnA (zeroR l) i = { rnA l i with ps := 0 } := by simp [rnA, zeroR, h]
theorem WOk.st {l : List Rn} {T : List Tu} {n m : Nat} (h : WOk l T n m) : ∀ t : Nat, RnOk (stL l T t) n (2520 * t) ∧ RnOk (evL l T t) n (2520 * t) := by
  have key : ∀ t, RnOk (stL l T t) n (2520 * t) → RnOk (evL l T t) n (2520 * t) := fun t hs =>
    RnOk.fold (by omega) _ _ hs (fun x hx => by have := h.who x (List.mem_filter.1 hx).1; omega)
  intro t
  induction t with
  | zero =>
    have h0 : RnOk (stL l T 0) n (2520 * (0 : Nat)) := ⟨by rw [stL_len, h.ln], fun i hi => by
      have := h.rn i hi
      rw [stL, rnA_zero _ _ (by rw [h.ln]; exact hi)]
      show 1 ≤ (rnA l i).sh ∧ (rnA l i).sh ≤ 10 ∧ 0 ≤ (rnA l i).wa ∧ (rnA l i).wa ≤ 100000 ∧ (0 : Int) ≤ 0 ∧ (0 : Int) ≤ 2520 * ((0 : Nat) : Int)
      omega⟩
    exact ⟨h0, key 0 h0⟩
  | succ t ih =>
    have hb := besW_lt (evL l T t) l.length
    have h1 := ih.2.bump (besW (evL l T t) l.length) (by rw [h.ln] at hb ⊢; omega)
    have h2 : RnOk (stL l T (t + 1)) n (2520 * ((t + 1 : Nat) : Int)) := by
      rw [stL_succ]
      refine ⟨h1.len, fun i hi => ?_⟩
      have := h1.ok i hi
      omega
    exact ⟨h2, key _ h2⟩
/-- the turns lie in the order of their times -/
theorem WOk.sorted {l : List Rn} {T : List Tu} {n m : Nat} (h : WOk l T n m) : ∀ i d, i + d < m → (tuA T i).t ≤ (tuA T (i + d)).t
  | i, 0, _ => Int.le_refl _
  | i, d + 1, hd => by
    have ih := WOk.sorted h i d (by omega)
    have := (h.tu (i + (d + 1)) hd).2.2.2.2.2.2 (by omega)
    rw [show i + (d + 1) - 1 = i + d by omega] at this
    omega
theorem tuA_drop (T : List Tu) (p i : Nat) : tuA (T.drop p) i = tuA T (p + i) := by
  unfold tuA; rw [List.getD_eq_getElem?_getD, List.getD_eq_getElem?_getD, List.getElem?_drop]
/-- the turns at a time: those between two places -/
theorem evs_mid {T : List Tu} (t p q : Nat) (hpq : p ≤ q) (hq : q ≤ T.length) (h1 : ∀ i, i < p → (tuA T i).t < t) (h2 : ∀ i, p ≤ i → i < q → (tuA T i).t = t) (h3 : ∀ i, q ≤ i → i < T.length → (t : Int) < (tuA T i).t) :
    evs T t = (T.drop p).take (q - p) := by
  have e : T = T.take p ++ ((T.drop p).take (q - p) ++ T.drop q) := by
    rw [show T.drop q = (T.drop p).drop (q - p) by rw [List.drop_drop]; congr 1; omega, List.take_append_drop, List.take_append_drop]
  have hA : ∀ i (hi : i < T.length), tuA T i = T[i] := fun i hi => by simp [tuA, hi]
  unfold evs
  conv => lhs; rw [e]
  rw [List.filter_append, List.filter_append]
  have f1 : (T.take p).filter (fun x => x.t == (t : Int)) = [] := by
    rw [List.filter_eq_nil_iff]
    intro x hx
    obtain ⟨i, hi, rfl⟩ := List.getElem_of_mem hx
    rw [List.length_take] at hi
    have := h1 i (by omega)
    rw [hA i (by omega)] at this
    rw [List.getElem_take]
    simp only [beq_iff_eq]
    omega
  have f2 : ((T.drop p).take (q - p)).filter (fun x => x.t == (t : Int)) = (T.drop p).take (q - p) := by
    rw [List.filter_eq_self]
    intro x hx
    obtain ⟨i, hi, rfl⟩ := List.getElem_of_mem hx
    rw [List.length_take, List.length_drop] at hi
    have := h2 (p + i) (by omega) (by omega)
    rw [hA (p + i) (by omega)] at this
    rw [List.getElem_take, List.getElem_drop]
    simpa using this
  have f3 : (T.drop q).filter (fun x => x.t == (t : Int)) = [] := by
    rw [List.filter_eq_nil_iff]
    intro x hx
    obtain ⟨i, hi, rfl⟩ := List.getElem_of_mem hx
    rw [List.length_drop] at hi
    have := h3 (q + i) (by omega) (by omega)
    rw [hA (q + i) (by omega)] at this
    rw [List.getElem_drop]
    simp only [beq_iff_eq]
    omega
  rw [f1, f2, f3]; simp
end Go.Proofs.Ytgblmbhbbjgdiaa
