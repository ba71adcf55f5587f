/- Several of my texts in one: MgWar, Strus. -/
import Derived.Test.YtooghdnlaonkaaaDw05
import Derived.RegionTactic
import Derived.Test.YtooghdnlaonkaaaDw15
import Derived.Test.YtooghdnlaonkaaaDw11
import Derived.OpenShut
import Derived.Deep.Slices
import Derived.Deep.Fields
import Derived.ChangeSame
/- Several of my texts in one: WarM, FB, War, WarM2, War2, War3, WarM3, WWar1. -/
namespace Go.Proofs.Ytooghdnlaonkaaa
open Go.RowKit

/-! rows of structs -/
theorem flat_len {α : Type} (f : α → List Value) (c : Nat) (hf : ∀ a, (f a).length = c) : ∀ l : List α, (l.flatMap f).length = l.length * c
  | [] => by simp
  | x :: r => by rw [List.flatMap_cons, List.length_append, hf, flat_len f c hf r, List.length_cons, Nat.add_mul]; omega
theorem flat_get {α : Type} (f : α → List Value) (c : Nat) (hf : ∀ a, (f a).length = c) (d : α) : ∀ (l : List α) (i j : Nat), i < l.length → j < c → (l.flatMap f)[i * c + j]? = (f (l.getD i d))[j]?
  | [], i, j, h, _ => by simp at h
  | x :: r, 0, j, _, hj => by
    rw [List.flatMap_cons, Nat.zero_mul, Nat.zero_add, List.getElem?_append_left (by rw [hf]; exact hj)]; rfl
  | x :: r, i + 1, j, h, hj => by
    rw [List.flatMap_cons, List.getElem?_append_right (by rw [hf, Nat.add_mul]; omega), hf]
    have := flat_get f c hf d r i j (by simpa using h) hj
    rw [show (i + 1) * c + j - c = i * c + j by rw [Nat.add_mul]; omega]
    simpa using this
theorem flat_set {α : Type} (f : α → List Value) (c : Nat) (hf : ∀ a, (f a).length = c) (d : α) (v : Value) (y : α) : ∀ (l : List α) (i j : Nat), i < l.length → j < c → (f (l.getD i d)).set j v = f y → (l.flatMap f).set (i * c + j) v = (l.set i y).flatMap f
  | [], i, j, h, _, _ => by simp at h
  | x :: r, 0, j, _, hj, e => by
    rw [List.flatMap_cons, Nat.zero_mul, Nat.zero_add, List.set_append_left _ _ (by rw [hf]; exact hj)]
    simp only [List.getD_cons_zero] at e
    rw [e]; rfl
  | x :: r, i + 1, j, h, hj, e => by
    rw [List.flatMap_cons, List.set_append_right _ _ (by rw [hf, Nat.add_mul]; omega), hf]
    have := flat_set f c hf d v y r i j (by simpa using h) hj (by simpa using e)
    rw [show (i + 1) * c + j - c = i * c + j by rw [Nat.add_mul]; omega, this]
    rfl
theorem flat_drop {α : Type} (f : α → List Value) (c : Nat) (hf : ∀ a, (f a).length = c) : ∀ (l : List α) (k : Nat), (l.flatMap f).drop (k * c) = (l.drop k).flatMap f
  | [], k => by simp
  | x :: r, 0 => by simp
  | x :: r, k + 1 => by
    rw [List.flatMap_cons, List.drop_append, hf, List.drop_eq_nil_of_le (by rw [hf, Nat.add_mul]; omega), show (k + 1) * c - c = k * c by rw [Nat.add_mul]; omega, flat_drop f c hf r k]
    simp
theorem getD_set {α : Type} (l : List α) (i j : Nat) (x d : α) (h : i < l.length) : (l.set i x).getD j d = if j = i then x else l.getD j d := by
  rw [List.getD_eq_getElem?_getD, List.getD_eq_getElem?_getD, List.getElem?_set]
  by_cases e : i = j
  · subst e; simp [h]
  · rw [if_neg e, if_neg (fun x => e x.symm)]
theorem getD_mem' {α : Type} (l : List α) (i : Nat) (d : α) (h : i < l.length) : l.getD i d ∈ l := by
  rw [List.getD_eq_getElem?_getD, List.getElem?_eq_getElem h]; exact List.getElem_mem _

structure Rn where
  sh : Int
  wa : Int
  th : Bool
  ah : Bool
  ps : Int
structure Tu where
  t : Int
  who : Int
  kind : Int
def rn0 : Rn := ⟨1, 0, false, false, 0⟩
def tu0 : Tu := ⟨0, 0, 0⟩
def rnC (r : Rn) : List Value := [.int .i64 r.sh, .int .i64 r.wa, .bool r.th, .bool r.ah, .int .i64 r.ps]
def thC (r : Rn) : List Value := [.int .i64 r.sh, .int .i64 r.wa, .bool r.th, .bool r.ah]
def tuC (x : Tu) : List Value := [.int .i64 x.t, .int .i64 x.who, .int .i64 x.kind]
def rns (l : List Rn) : List Value := l.flatMap rnC
def ths (l : List Rn) : List Value := l.flatMap thC
def tus (l : List Tu) : List Value := l.flatMap tuC
def rnA (l : List Rn) (i : Nat) : Rn := l.getD i rn0
def tuA (l : List Tu) (i : Nat) : Tu := l.getD i tu0
theorem rns_len (l : List Rn) : (rns l).length = l.length * 5 := flat_len rnC 5 (fun _ => rfl) l
theorem ths_len (l : List Rn) : (ths l).length = l.length * 4 := flat_len thC 4 (fun _ => rfl) l
theorem tus_len (l : List Tu) : (tus l).length = l.length * 3 := flat_len tuC 3 (fun _ => rfl) l
theorem rns_get (l : List Rn) (i j : Nat) (h : i < l.length) (hj : j < 5) : (rns l)[i * 5 + j]? = (rnC (rnA l i))[j]? := flat_get rnC 5 (fun _ => rfl) rn0 l i j h hj
theorem ths_get (l : List Rn) (i j : Nat) (h : i < l.length) (hj : j < 4) : (ths l)[i * 4 + j]? = (thC (rnA l i))[j]? := flat_get thC 4 (fun _ => rfl) rn0 l i j h hj
theorem tus_get (l : List Tu) (i j : Nat) (h : i < l.length) (hj : j < 3) : (tus l)[i * 3 + j]? = (tuC (tuA l i))[j]? := flat_get tuC 3 (fun _ => rfl) tu0 l i j h hj
theorem rns_set (l : List Rn) (i j : Nat) (v : Value) (y : Rn) (h : i < l.length) (hj : j < 5) (e : (rnC (rnA l i)).set j v = rnC y) : (rns l).set (i * 5 + j) v = rns (l.set i y) := flat_set rnC 5 (fun _ => rfl) rn0 v y l i j h hj e
theorem rns_snoc (l : List Rn) (r : Rn) : rns l ++ rnC r = rns (l ++ [r]) := by simp [rns]
theorem ths_snoc (l : List Rn) (r : Rn) : ths l ++ thC r = ths (l ++ [r]) := by simp [ths]
theorem tus_snoc (l : List Tu) (r : Tu) : tus l ++ tuC r = tus (l ++ [r]) := by simp [tus]
theorem rnA_set (l : List Rn) (i j : Nat) (x : Rn) (h : i < l.length) : rnA (l.set i x) j = if j = i then x else rnA l j := getD_set l i j x rn0 h
theorem rnA_mem (l : List Rn) (i : Nat) (h : i < l.length) : rnA l i ∈ l := getD_mem' l i rn0 h
theorem tuA_mem (l : List Tu) (i : Nat) (h : i < l.length) : tuA l i ∈ l := getD_mem' l i tu0 h
theorem rnA_take (l : List Rn) (k : Nat) (h : k < l.length) : l.take (k + 1) = l.take k ++ [rnA l k] := by
  rw [List.take_succ_eq_append_getElem h]; simp [rnA, h]
theorem tuA_take (l : List Tu) (k : Nat) (h : k < l.length) : l.take (k + 1) = l.take k ++ [tuA l k] := by
  rw [List.take_succ_eq_append_getElem h]; simp [tuA, h]

/-! Check -/
def badR (r : Rn) : Bool := decide (r.sh < 1) || decide (10 < r.sh) || decide (r.wa < 0) || decide (100000 < r.wa)
def badT (n : Nat) (x : Tu) : Bool := decide (x.t < 0) || decide (200 < x.t) || decide (x.who < 0) || decide ((n : Int) ≤ x.who) || decide (x.kind < 1) || decide (4 < x.kind)
def chkU (n : Nat) (T : List Tu) : Nat → Int
  | 0 => 0
  | k + 1 => if chkU n T k ≠ 0 then chkU n T k else if badT n (tuA T k) = true then 1 else if 0 < k ∧ (tuA T k).t < (tuA T (k - 1)).t then 3 else 0
def chkR (l : List Rn) : Nat → Int
  | 0 => 0
  | k + 1 => if chkR l k ≠ 0 then chkR l k else if badR (rnA l k) = true then 1 else 0
def chkW (l : List Rn) (T : List Tu) : Int := if 8 < l.length ∨ 30 < T.length then 2 else if chkR l l.length ≠ 0 then chkR l l.length else chkU l.length T T.length
theorem chkR_stays (l : List Rn) (k : Nat) (h : chkR l k ≠ 0) : ∀ d, chkR l (k + d) = chkR l k
  | 0 => rfl
  | d + 1 => by
    have ih := chkR_stays l k h d
    rw [show k + (d + 1) = (k + d) + 1 from rfl, chkR, ih, if_pos h]
theorem chkU_stays (n : Nat) (T : List Tu) (k : Nat) (h : chkU n T k ≠ 0) : ∀ d, chkU n T (k + d) = chkU n T k
  | 0 => rfl
  | d + 1 => by
    have ih := chkU_stays n T k h d
    rw [show k + (d + 1) = (k + d) + 1 from rfl, chkU, ih, if_pos h]
theorem chkR_front (l : List Rn) (n : Nat) (h : chkR l n = 0) : ∀ k, k ≤ n → chkR l k = 0 := fun k hk => by
  by_cases e : chkR l k = 0
  · exact e
  · have := chkR_stays l k e (n - k)
    rw [show k + (n - k) = n by omega, h] at this
    exact this.symm
theorem chkU_front (n : Nat) (T : List Tu) (m : Nat) (h : chkU n T m = 0) : ∀ k, k ≤ m → chkU n T k = 0 := fun k hk => by
  by_cases e : chkU n T k = 0
  · exact e
  · have := chkU_stays n T k e (m - k)
    rw [show k + (m - k) = m by omega, h] at this
    exact this.symm
theorem chkR_ok {l : List Rn} {k : Nat} (h : chkR l l.length = 0) (hk : k < l.length) : 1 ≤ (rnA l k).sh ∧ (rnA l k).sh ≤ 10 ∧ 0 ≤ (rnA l k).wa ∧ (rnA l k).wa ≤ 100000 := by
  have h1 := chkR_front l l.length h k (by omega)
  have h2 := chkR_front l l.length h (k + 1) (by omega)
  rw [chkR, if_neg (by omega)] at h2
  have h3 : badR (rnA l k) = false := by
    cases hb : badR (rnA l k)
    · rfl
    · rw [if_pos hb] at h2; cases h2
  unfold badR at h3
  simp only [Bool.or_eq_false_iff, decide_eq_false_iff_not] at h3
  omega
theorem chkU_ok {n : Nat} {T : List Tu} {k : Nat} (h : chkU n T T.length = 0) (hk : k < T.length) : 0 ≤ (tuA T k).t ∧ (tuA T k).t ≤ 200 ∧ 0 ≤ (tuA T k).who ∧ (tuA T k).who < n ∧ 1 ≤ (tuA T k).kind ∧ (tuA T k).kind ≤ 4 ∧ (0 < k → (tuA T (k - 1)).t ≤ (tuA T k).t) := by
  have h1 := chkU_front n T T.length h k (by omega)
  have h2 := chkU_front n T T.length h (k + 1) (by omega)
  rw [chkU, if_neg (by omega)] at h2
  have h3 : badT n (tuA T k) = false := by
    cases hb : badT n (tuA T k)
    · rfl
    · rw [if_pos hb] at h2; cases h2
  rw [if_neg (by simp [h3])] at h2
  have h4 : ¬ (0 < k ∧ (tuA T k).t < (tuA T (k - 1)).t) := fun c => by rw [if_pos c] at h2; cases h2
  unfold badT at h3
  simp only [Bool.or_eq_false_iff, decide_eq_false_iff_not] at h3
  omega

/-! turns -/
def anyR (L : List Rn) : Nat → Bool
  | 0 => false
  | k + 1 => anyR L k || (rnA L k).th
def lstR (L : List Rn) : Nat → Int
  | 0 => 0
  | k + 1 => if (rnA L k).th = true ∧ (anyR L k = false ∨ (rnA L k).ps < lstR L k) then (rnA L k).ps else lstR L k
def turnR (L : List Rn) (x : Tu) : List Rn :=
  if x.kind = 1 then L.set x.who.toNat { rnA L x.who.toNat with th := false }
  else if x.kind = 2 then
    if (rnA L x.who.toNat).th = true then L
    else L.set x.who.toNat { rnA L x.who.toNat with th := true, ps := if anyR L L.length = true then max (rnA L x.who.toNat).ps (lstR L L.length) else (rnA L x.who.toNat).ps }
  else if x.kind = 3 then L.set x.who.toNat { rnA L x.who.toNat with ah := true }
  else if x.kind = 4 then L.set x.who.toNat { rnA L x.who.toNat with ah := false } else L
def eW (r : Rn) : Int := if r.ah = true then r.ps - r.wa else r.ps
def besW (L : List Rn) : Nat → Int
  | 0 => -1
  | k + 1 => if (rnA L k).th = true ∧ (besW L k < 0 ∨ eW (rnA L k) < eW (rnA L (besW L k).toNat)) then k else besW L k
theorem besW_lt (L : List Rn) : ∀ k, -1 ≤ besW L k ∧ besW L k < k
  | 0 => ⟨by simp [besW], by simp [besW]⟩
  | k + 1 => by
    have := besW_lt L k
    rw [besW]; split <;> omega
def leastW (L : List Rn) (k : Nat) : Int := if besW L k < 0 then 0 else eW (rnA L (besW L k).toNat)
def bumpW (L : List Rn) (b : Int) : List Rn := if 0 ≤ b then L.set b.toNat { rnA L b.toNat with ps := (rnA L b.toNat).ps + 2520 / (rnA L b.toNat).sh } else L
def evs (T : List Tu) (t : Nat) : List Tu := T.filter fun x => x.t == (t : Int)
def zeroR (l : List Rn) : List Rn := l.map fun r => { r with ps := 0 }
def stL (l : List Rn) (T : List Tu) : Nat → List Rn
  | 0 => zeroR l
  | t + 1 => bumpW ((evs T t).foldl turnR (stL l T t)) (besW ((evs T t).foldl turnR (stL l T t)) l.length)
def evL (l : List Rn) (T : List Tu) (t : Nat) : List Rn := (evs T t).foldl turnR (stL l T t)
def ranW (l : List Rn) (T : List Tu) (n : Nat) : List Int := (List.range n).map fun t => besW (evL l T t) l.length
def endW (L : List Rn) : List Int := L.map Rn.ps
theorem ranW_len (l : List Rn) (T : List Tu) (n : Nat) : (ranW l T n).length = n := by simp [ranW]
theorem ranW_succ (l : List Rn) (T : List Tu) (n : Nat) : ranW l T (n + 1) = ranW l T n ++ [besW (evL l T n) l.length] := by simp [ranW, List.range_succ]
theorem ranW_nth (l : List Rn) (T : List Tu) (n t : Nat) (h : t < n) : nth (ranW l T n) t = besW (evL l T t) l.length := by simp [nth, ranW, h]
theorem ranW_take (l : List Rn) (T : List Tu) (n k : Nat) (h : k ≤ n) : (ranW l T n).take k = ranW l T k := by
  unfold ranW
  rw [← List.map_take, List.take_range, Nat.min_eq_left h]
theorem turnR_len (L : List Rn) (x : Tu) : (turnR L x).length = L.length := by
  unfold turnR
  repeat' split
  all_goals simp
theorem fold_len (E : List Tu) : ∀ L : List Rn, (E.foldl turnR L).length = L.length := by
  induction E with
  | nil => intro L; rfl
  | cons x r ih => intro L; rw [List.foldl_cons, ih, turnR_len]
theorem bumpW_len (L : List Rn) (b : Int) : (bumpW L b).length = L.length := by unfold bumpW; split <;> simp
theorem zeroR_len (l : List Rn) : (zeroR l).length = l.length := by simp [zeroR]
theorem stL_len (l : List Rn) (T : List Tu) : ∀ t, (stL l T t).length = l.length
  | 0 => zeroR_len l
  | t + 1 => by rw [stL, bumpW_len, fold_len, stL_len l T t]
theorem evL_len (l : List Rn) (T : List Tu) (t : Nat) : (evL l T t).length = l.length := by rw [evL, fold_len, stL_len]
theorem stL_succ (l : List Rn) (T : List Tu) (t : Nat) : stL l T (t + 1) = bumpW (evL l T t) (besW (evL l T t) l.length) := rfl
theorem besW_none (L : List Rn) : ∀ k, besW L k < 0 → ∀ j, j < k → (rnA L j).th = false
  | 0, _, j, hj => by omega
  | k + 1, h, j, hj => by
    have hb := besW_lt L k
    rw [besW] at h
    split at h
    · omega
    · next hc =>
      by_cases ej : j = k
      · subst ej
        cases ht : (rnA L j).th
        · rfl
        · exact absurd ⟨ht, .inl h⟩ hc
      · exact besW_none L k h j (by omega)
theorem besW_best (L : List Rn) : ∀ k, 0 ≤ besW L k → (rnA L (besW L k).toNat).th = true ∧ ∀ j, j < k → (rnA L j).th = true → eW (rnA L (besW L k).toNat) ≤ eW (rnA L j)
  | 0, h => by simp [besW] at h
  | k + 1, h => by
    have hb := besW_lt L k
    by_cases hc : (rnA L k).th = true ∧ (besW L k < 0 ∨ eW (rnA L k) < eW (rnA L (besW L k).toNat))
    · have e : besW L (k + 1) = k := by rw [besW, if_pos hc]
      rw [e]
      simp only [Int.toNat_natCast]
      refine ⟨hc.1, fun j hj ht => ?_⟩
      by_cases ej : j = k
      · subst ej; exact Int.le_refl _
      · by_cases h0 : besW L k < 0
        · have := besW_none L k h0 j (by omega); rw [this] at ht; cases ht
        · have := (besW_best L k (by omega)).2 j (by omega) ht
          rcases hc.2 with h2 | h2 <;> omega
    · have e : besW L (k + 1) = besW L k := by rw [besW, if_neg hc]
      rw [e] at h ⊢
      have ih := besW_best L k h
      refine ⟨ih.1, fun j hj ht => ?_⟩
      by_cases ej : j = k
      · subst ej
        rcases Int.lt_or_le (eW (rnA L j)) (eW (rnA L (besW L j).toNat)) with h1 | h1
        · exact absurd ⟨ht, .inr h1⟩ hc
        · exact h1
      · exact ih.2 j (by omega) ht

/-- what holds of runners at every time -/
structure RnOk (L : List Rn) (n : Nat) (b : Int) : Prop where
  len : L.length = n
  ok : ∀ i, i < n → 1 ≤ (rnA L i).sh ∧ (rnA L i).sh ≤ 10 ∧ 0 ≤ (rnA L i).wa ∧ (rnA L i).wa ≤ 100000 ∧ 0 ≤ (rnA L i).ps ∧ (rnA L i).ps ≤ b
theorem lstR_in (L : List Rn) (n : Nat) (b : Int) (h : RnOk L n b) (hb : 0 ≤ b) : ∀ k, k ≤ n → 0 ≤ lstR L k ∧ lstR L k ≤ b
  | 0, _ => by rw [lstR]; omega
  | k + 1, hk => by
    have ih := lstR_in L n b h hb k (by omega)
    have := h.ok k (by omega)
    rw [lstR]; split <;> omega
theorem RnOk.set {L : List Rn} {n : Nat} {b : Int} (h : RnOk L n b) (i : Nat) (hi : i < n) (r : Rn) (h1 : 1 ≤ r.sh ∧ r.sh ≤ 10 ∧ 0 ≤ r.wa ∧ r.wa ≤ 100000 ∧ 0 ≤ r.ps ∧ r.ps ≤ b) : RnOk (L.set i r) n b := by
  refine ⟨by rw [List.length_set, h.len], fun j hj => ?_⟩
  rw [rnA_set _ _ _ _ (by rw [h.len]; exact hi)]
  split
  · exact h1
  · exact h.ok j hj
theorem RnOk.turn {L : List Rn} {n : Nat} {b : Int} (h : RnOk L n b) (hb : 0 ≤ b) (x : Tu) (hx : 0 ≤ x.who ∧ x.who < n) : RnOk (turnR L x) n b := by
  have ho := h.ok x.who.toNat (by omega)
  have hl := lstR_in L n b h hb n (by omega)
  unfold turnR
  split
  · exact h.set _ (by omega) _ ho
  · split
    · split
      · exact h
      · refine h.set _ (by omega) _ ?_
        rw [h.len]
        show 1 ≤ (rnA L x.who.toNat).sh ∧ (rnA L x.who.toNat).sh ≤ 10 ∧ 0 ≤ (rnA L x.who.toNat).wa ∧ (rnA L x.who.toNat).wa ≤ 100000 ∧ 0 ≤ (if anyR L n = true then max (rnA L x.who.toNat).ps (lstR L n) else (rnA L x.who.toNat).ps) ∧ (if anyR L n = true then max (rnA L x.who.toNat).ps (lstR L n) else (rnA L x.who.toNat).ps) ≤ b
        split <;> omega
    · split
      · exact h.set _ (by omega) _ ho
      · split
        · exact h.set _ (by omega) _ ho
        · exact h
theorem RnOk.fold {n : Nat} {b : Int} (hb : 0 ≤ b) : ∀ (E : List Tu) (L : List Rn), RnOk L n b → (∀ x ∈ E, 0 ≤ x.who ∧ x.who < n) → RnOk (E.foldl turnR L) n b
  | [], L, h, _ => h
  | x :: r, L, h, hE => RnOk.fold hb r _ (h.turn hb x (hE x (by simp))) (fun y hy => hE y (by simp [hy]))
theorem share_div (s : Int) (h1 : 1 ≤ s) (h2 : s ≤ 10) : 252 ≤ 2520 / s ∧ 2520 / s ≤ 2520 ∧ s * (2520 / s) = 2520 := by
  have : s = 1 ∨ s = 2 ∨ s = 3 ∨ s = 4 ∨ s = 5 ∨ s = 6 ∨ s = 7 ∨ s = 8 ∨ s = 9 ∨ s = 10 := by omega
  rcases this with rfl | rfl | rfl | rfl | rfl | rfl | rfl | rfl | rfl | rfl <;> decide
theorem RnOk.bump {L : List Rn} {n : Nat} {b : Int} (h : RnOk L n b) (k : Int) (hk : k < n) : RnOk (bumpW L k) n (b + 2520) := by
  unfold bumpW
  have h' : RnOk L n (b + 2520) := ⟨h.len, fun i hi => by have := h.ok i hi; omega⟩
  split
  · have ho := h.ok k.toNat (by omega)
    have hs := share_div (rnA L k.toNat).sh ho.1 ho.2.1
    refine h'.set _ (by omega) _ ?_
    show 1 ≤ (rnA L k.toNat).sh ∧ (rnA L k.toNat).sh ≤ 10 ∧ 0 ≤ (rnA L k.toNat).wa ∧ (rnA L k.toNat).wa ≤ 100000 ∧ 0 ≤ (rnA L k.toNat).ps + 2520 / (rnA L k.toNat).sh ∧ (rnA L k.toNat).ps + 2520 / (rnA L k.toNat).sh ≤ b + 2520
    omega
  · exact h'
/-- what Check allows -/
structure WOk (l : List Rn) (T : List Tu) (n m : Nat) : Prop where
  ln : l.length = n
  lm : T.length = m
  n8 : n ≤ 8
  m30 : m ≤ 30
  rn : ∀ i, i < n → 1 ≤ (rnA l i).sh ∧ (rnA l i).sh ≤ 10 ∧ 0 ≤ (rnA l i).wa ∧ (rnA l i).wa ≤ 100000
  tu : ∀ k, k < m → 0 ≤ (tuA T k).t ∧ (tuA T k).t ≤ 200 ∧ 0 ≤ (tuA T k).who ∧ (tuA T k).who < n ∧ 1 ≤ (tuA T k).kind ∧ (tuA T k).kind ≤ 4 ∧ (0 < k → (tuA T (k - 1)).t ≤ (tuA T k).t)
theorem chkW_ok {l : List Rn} {T : List Tu} (h : chkW l T = 0) : WOk l T l.length T.length := by
  unfold chkW at h
  by_cases h1 : 8 < l.length ∨ 30 < T.length
  · rw [if_pos h1] at h; cases h
  rw [if_neg h1] at h
  by_cases h2 : chkR l l.length ≠ 0
  · rw [if_pos h2] at h; exact absurd h h2
  rw [if_neg h2] at h
  have h2 : chkR l l.length = 0 := by omega
  exact ⟨rfl, rfl, by omega, by omega, fun i hi => chkR_ok h2 hi, fun k hk => chkU_ok h hk⟩
theorem WOk.who {l : List Rn} {T : List Tu} {n m : Nat} (h : WOk l T n m) (x : Tu) (hx : x ∈ T) : 0 ≤ x.t ∧ x.t ≤ 200 ∧ 0 ≤ x.who ∧ x.who < n ∧ 1 ≤ x.kind ∧ x.kind ≤ 4 := by
  obtain ⟨k, hk, rfl⟩ := List.getElem_of_mem hx
  have := h.tu k (by rw [← h.lm]; exact hk)
  have e : tuA T k = T[k] := by simp [tuA, hk]
  rw [e] at this
  omega
theorem rnA_zero (l : List Rn) (i : Nat) (h : i < l.length) : rnA (zeroR l) i = { rnA l i with ps := 0 } := by simp [rnA, zeroR, h]
theorem WOk.st {l : List Rn} {T : List Tu} {n m : Nat} (h : WOk l T n m) : ∀ t : Nat, RnOk (stL l T t) n (2520 * t) ∧ RnOk (evL l T t) n (2520 * t) := by
  have key : ∀ t, RnOk (stL l T t) n (2520 * t) → RnOk (evL l T t) n (2520 * t) := fun t hs =>
    RnOk.fold (by omega) _ _ hs (fun x hx => by have := h.who x (List.mem_filter.1 hx).1; omega)
  intro t
  induction t with
  | zero =>
    have h0 : RnOk (stL l T 0) n (2520 * (0 : Nat)) := ⟨by rw [stL_len, h.ln], fun i hi => by
      have := h.rn i hi
      rw [stL, rnA_zero _ _ (by rw [h.ln]; exact hi)]
      show 1 ≤ (rnA l i).sh ∧ (rnA l i).sh ≤ 10 ∧ 0 ≤ (rnA l i).wa ∧ (rnA l i).wa ≤ 100000 ∧ (0 : Int) ≤ 0 ∧ (0 : Int) ≤ 2520 * ((0 : Nat) : Int)
      omega⟩
    exact ⟨h0, key 0 h0⟩
  | succ t ih =>
    have hb := besW_lt (evL l T t) l.length
    have h1 := ih.2.bump (besW (evL l T t) l.length) (by rw [h.ln] at hb ⊢; omega)
    have h2 : RnOk (stL l T (t + 1)) n (2520 * ((t + 1 : Nat) : Int)) := by
      rw [stL_succ]
      refine ⟨h1.len, fun i hi => ?_⟩
      have := h1.ok i hi
      omega
    exact ⟨h2, key _ h2⟩
/-- the turns lie in the order of their times -/
theorem WOk.sorted {l : List Rn} {T : List Tu} {n m : Nat} (h : WOk l T n m) : ∀ i d, i + d < m → (tuA T i).t ≤ (tuA T (i + d)).t
  | i, 0, _ => Int.le_refl _
  | i, d + 1, hd => by
    have ih := WOk.sorted h i d (by omega)
    have := (h.tu (i + (d + 1)) hd).2.2.2.2.2.2 (by omega)
    rw [show i + (d + 1) - 1 = i + d by omega] at this
    omega
theorem tuA_drop (T : List Tu) (p i : Nat) : tuA (T.drop p) i = tuA T (p + i) := by
  unfold tuA; rw [List.getD_eq_getElem?_getD, List.getD_eq_getElem?_getD, List.getElem?_drop]
/-- the turns at a time: those between two places -/
theorem evs_mid {T : List Tu} (t p q : Nat) (hpq : p ≤ q) (hq : q ≤ T.length) (h1 : ∀ i, i < p → (tuA T i).t < t) (h2 : ∀ i, p ≤ i → i < q → (tuA T i).t = t) (h3 : ∀ i, q ≤ i → i < T.length → (t : Int) < (tuA T i).t) :
    evs T t = (T.drop p).take (q - p) := by
  have e : T = T.take p ++ ((T.drop p).take (q - p) ++ T.drop q) := by
    rw [show T.drop q = (T.drop p).drop (q - p) by rw [List.drop_drop]; congr 1; omega, List.take_append_drop, List.take_append_drop]
  have hA : ∀ i (hi : i < T.length), tuA T i = T[i] := fun i hi => by simp [tuA, hi]
  unfold evs
  conv => lhs; rw [e]
  rw [List.filter_append, List.filter_append]
  have f1 : (T.take p).filter (fun x => x.t == (t : Int)) = [] := by
    rw [List.filter_eq_nil_iff]
    intro x hx
    obtain ⟨i, hi, rfl⟩ := List.getElem_of_mem hx
    rw [List.length_take] at hi
    have := h1 i (by omega)
    rw [hA i (by omega)] at this
    rw [List.getElem_take]
    simp only [beq_iff_eq]
    omega
  have f2 : ((T.drop p).take (q - p)).filter (fun x => x.t == (t : Int)) = (T.drop p).take (q - p) := by
    rw [List.filter_eq_self]
    intro x hx
    obtain ⟨i, hi, rfl⟩ := List.getElem_of_mem hx
    rw [List.length_take, List.length_drop] at hi
    have := h2 (p + i) (by omega) (by omega)
    rw [hA (p + i) (by omega)] at this
    rw [List.getElem_take, List.getElem_drop]
    simpa using this
  have f3 : (T.drop q).filter (fun x => x.t == (t : Int)) = [] := by
    rw [List.filter_eq_nil_iff]
    intro x hx
    obtain ⟨i, hi, rfl⟩ := List.getElem_of_mem hx
    rw [List.length_drop] at hi
    have := h3 (q + i) (by omega) (by omega)
    rw [hA (q + i) (by omega)] at this
    rw [List.getElem_drop]
    simp only [beq_iff_eq]
    omega
  rw [f1, f2, f3]; simp
end Go.Proofs.Ytooghdnlaonkaaa
namespace Go.Proofs.Ytooghdnlaonkaaa
open Go.RowKit

/-- the slice at ad reads as the cells xs, in a block of the call's own that none of L lies in -/
structure FB (w0 w : World) (T : TypeId) (ad : Option Addr) (xs : List Value) (L : List Ent) : Prop where
  fr : Fr w0 w L
  blk : 0 < xs.length → ∃ g cur, ad = some ⟨g, 0, none⟩ ∧ w0.heap.size ≤ g ∧ w.heap[g]? = some (.cells cur T (0, 0)) ∧ cur.toList.take xs.length = xs ∧ ∀ e ∈ L, e.v.ownBlock ≠ some g
theorem cell_of_heap {w : World} {g : Nat} {cur : Array Value} {T : TypeId} (h : w.heap[g]? = some (.cells cur T (0, 0))) (i : Nat) : w.cell? ⟨g, i, none⟩ = cur[i]? := by
  unfold World.cell?
  simp [h]
theorem FB.sa {w0 w : World} {T : TypeId} {ad : Option Addr} {xs : List Value} {L : List Ent} (h : FB w0 w T ad xs L) : Sa w ad xs := by
  intro h0
  obtain ⟨g, cur, e, h1, h2, h3, _⟩ := h.blk h0
  refine ⟨g, 0, e, (Array.getElem?_eq_some_iff.1 h2).1, fun i hi => ?_⟩
  rw [Nat.zero_add, cell_of_heap h2]
  conv => rhs; rw [← h3]
  rw [List.getElem?_take_of_lt hi, Array.getElem?_toList]
theorem FB.keep {w0 w w' : World} {T : TypeId} {ad : Option Addr} {xs : List Value} {L : List Ent} (h : FB w0 w T ad xs L) (b : Below w.heap.size w w') : FB w0 w' T ad xs L := by
  refine ⟨h.fr.keep b, fun h0 => ?_⟩
  obtain ⟨g, cur, e, h1, h2, h3, h4⟩ := h.blk h0
  exact ⟨g, cur, e, h1, by rw [b.block g (Array.getElem?_eq_some_iff.1 h2).1]; exact h2, h3, h4⟩
theorem FB.alloc {w0 w : World} {T : TypeId} {ad : Option Addr} {xs : List Value} {L : List Ent} (h : FB w0 w T ad xs L) (o : Obj) : FB w0 (w.alloc o) T ad xs L := h.keep (kin_alloc (Below.refl _ _) o)
theorem FB.drew {w0 w : World} {T : TypeId} {ad : Option Addr} {xs : List Value} {L : List Ent} (h : FB w0 w T ad xs L) : FB w0 w.drew T ad xs L := h.keep (Below.refl _ _).drew
theorem FB.drewN {w0 w : World} {T : TypeId} {ad : Option Addr} {xs : List Value} {L : List Ent} (h : FB w0 w T ad xs L) (n : Nat) : FB w0 (w.drewN n) T ad xs L := h.keep ⟨rfl, rfl, rfl, Nat.le_refl _, fun _ _ => rfl⟩
theorem FB.bel {w0 w : World} {T : TypeId} {ad : Option Addr} {xs : List Value} {L : List Ent} (h : FB w0 w T ad xs L) : Below w0.heap.size w0 w := h.fr.bel
/-- one cell of it -/
theorem FB.open {w0 w : World} {T : TypeId} {ad : Option Addr} {xs : List Value} {L : List Ent} (h : FB w0 w T ad xs L) (h0 : 0 < xs.length) :
    ∃ g, ad = some ⟨g, 0, none⟩ ∧ w0.heap.size ≤ g ∧ g < w.heap.size ∧ (∀ i, i < xs.length → w.cell? ⟨g, i, none⟩ = xs[i]?) ∧ ∀ i, w.frozen? ⟨g, i, none⟩ = false := by
  obtain ⟨g, cur, e, h1, h2, h3, _⟩ := h.blk h0
  refine ⟨g, e, h1, (Array.getElem?_eq_some_iff.1 h2).1, fun i hi => ?_, fun i => ?_⟩
  · rw [cell_of_heap h2]
    conv => rhs; rw [← h3]
    rw [List.getElem?_take_of_lt hi, Array.getElem?_toList]
  · unfold World.frozen?
    simp [h2]
/-- a store into it -/
theorem FB.set {w0 w : World} {T : TypeId} {g : Nat} {xs : List Value} {L : List Ent} (h : FB w0 w T (some ⟨g, 0, none⟩) xs L) (h0 : 0 < xs.length) (i : Nat) (v : Value) :
    FB w0 (w.setCell ⟨g, i, none⟩ v) T (some ⟨g, 0, none⟩) (xs.set i v) L := by
  obtain ⟨g', cur, e, h1, h2, h3, h4⟩ := h.blk h0
  cases e
  have hgr : w.grownBy (w.setCell ⟨g, i, none⟩ v) (some g) := ⟨rfl, rfl, rfl, by simp, fun k _ hk => heap_setCell_other w ⟨g, i, none⟩ k v (fun e => hk (by rw [e]))⟩
  refine ⟨⟨h.fr.bel.setCell h1 v, ⟨fun e he => World.ownsRow.kept (h.fr.os.own e he) hgr (.inr (h4 e he)), h.fr.os.far⟩⟩, fun _ => ?_⟩
  refine ⟨g, cur.setIfInBounds i v, rfl, h1, heap_setCell_same w g i cur T v h2, ?_, h4⟩
  rw [Array.toList_setIfInBounds, List.length_set, List.take_set, h3]
/-- append of one number to the first of the slices -/
theorem wpList_pushFB {ops : Array Oper} {rest : List Oper} {o : Oper} {a : Act} {Q : Exit → Act → World → Prop} {w0 w : World} (hgd : o.guard = none) (s x : Operand)
    (ho : o.op = .call { callee := .builtin .append, args := #[s, x], argTypes := #[32, 32] })
    (BT : TypeId) (bd : Option Addr) (bx : List Value) (ad : Option Addr) (n cap : Nat) (l : List Int) (y : Int) (L : List Ent) (hs : a.eval s = .slice ad n cap) (hF : FB w0 w BT bd bx (⟨3, .slice ad n cap, ints l⟩ :: L))
    (N : Nat) (hN : w.heap.size = N) (hx : a.eval x = .slice (some ⟨N, 0, none⟩) 1 1) (hlen : n ≤ 1000000)
    (h : ∀ ad' cap' w', FB w0 w' BT bd bx (⟨3, .slice ad' (n + 1) cap', ints (l ++ [y])⟩ :: L) → N < w'.heap.size → wpList Try.prog ops Q rest (a.put o.dst (.slice ad' (n + 1) cap')) w') :
    wpList Try.prog ops Q (o :: rest) a (w.alloc (.cells #[.int .i64 y] 3)) := by
  subst hN
  obtain ⟨i0, hi, hz0, hz1, hz2⟩ := info_parts intInfo
  have hn := hF.fr.len
  have hO := hF.fr.os.own _ List.mem_cons_self
  have hb0 := hF.bel.size
  subst hn
  refine wpList_append_own_at _ hgd s x 32 ho w0.heap.size 3 i0 (.int .i64 0) 1 8 Try.underlying32 hi hz0 hz1 hz2 rfl (by decide) (.slice ad (ints l).length cap) (ints l).length (ints l) hs (World.ownsRow.alloc hO _)
    ⟨w.heap.size, 0, none⟩ 1 1 [.int .i64 y] hx rfl (cell_one_new _ _ _) ?_ ?_ ?_ ?_ ?_
  · intro u hu; simp at hu; subst hu; rfl
  · unfold maxLen; omega
  · omega
  · simp; omega
  · intro v' w' h1 h2 hnil hat
    have hsz := h2.size
    have hsz0 : (w.alloc (.cells #[.int .i64 y] 3)).heap.size = w.heap.size + 1 := by simp
    rw [ints_snoc] at h1
    obtain ⟨ad', cap', rfl⟩ : ∃ ad' cap', v' = .slice ad' ((ints l).length + 1) cap' := by
      rcases h1.2 with ⟨e1, e2⟩ | ⟨g, cap', cur, e1, _⟩
      · omega
      · exact ⟨_, _, e1⟩
    refine h ad' cap' w' ⟨⟨?_, ⟨fun e he => ?_, ?_⟩⟩, fun h0 => ?_⟩ (by omega)
    · refine Below.grown (row := (Value.slice ad (ints l).length cap).ownBlock) (hF.alloc _).bel h2 (by omega) ?_
      intro k hk
      exact (Ent.own.lt hO k hk).1
    · rcases List.mem_cons.1 he with rfl | he
      · unfold Ent.own
        rw [show ((⟨3, Value.slice ad' ((ints l).length + 1) cap', ints (l ++ [y])⟩ : Ent).xs.length) = (ints l).length + 1 by simp [ints]]
        exact h1
      · refine World.ownsRow.kept ((hF.fr.alloc _).os.own e (List.mem_cons_of_mem _ he)) h2 ?_
        exact ((List.pairwise_cons.1 hF.fr.os.far).1 e he).symm
    · have hf := List.pairwise_cons.1 hF.fr.os.far
      refine List.pairwise_cons.2 ⟨fun b hb => ?_, hf.2⟩
      have hbf := hf.1 b hb
      have hlt := Ent.own.lt (hF.fr.os.own b (List.mem_cons_of_mem _ hb))
      rcases hat with hat | hat
      · rcases hbf with hbf | hbf
        · exact .inl (show (Value.slice ad' ((ints l).length + 1) cap').ownBlock = none by rw [hat]; exact hbf)
        · exact .inr (show (Value.slice ad' ((ints l).length + 1) cap').ownBlock ≠ _ by rw [hat]; exact hbf)
      · refine .inr (show (Value.slice ad' ((ints l).length + 1) cap').ownBlock ≠ _ from ?_)
        rw [hat]
        intro e
        have := (hlt _ e.symm).2
        omega
    · obtain ⟨g, cur, e, k1, k2, k3, k4⟩ := (hF.alloc (.cells #[.int .i64 y] 3)).blk h0
      have hg : g < w.heap.size := by
        obtain ⟨g', cur', e', _, k2', _⟩ := hF.blk h0
        rw [e] at e'; cases e'
        exact (Array.getElem?_eq_some_iff.1 k2').1
      refine ⟨g, cur, e, k1, ?_, k3, fun u hu => ?_⟩
      · rw [h2.block g (by omega) (fun e => k4 _ List.mem_cons_self e.symm)]; exact k2
      · rcases List.mem_cons.1 hu with rfl | hu
        · intro e'
          have e' : (Value.slice ad' ((ints l).length + 1) cap').ownBlock = some g := e'
          rcases hat with hat | hat
          · exact k4 _ List.mem_cons_self (by rw [← e', hat])
          · rw [hat] at e'; cases e'; omega
        · exact k4 u (List.mem_cons_of_mem _ hu)
/-- append of one struct of five cells (or of any other number) to a slice of the call's own, its only one -/
theorem wpList_pushStr {ops : Array Oper} {rest : List Oper} {o : Oper} {a : Act} {Q : Exit → Act → World → Prop} {w0 w : World} (hgd : o.guard = none) (s x : Operand) (S T : TypeId) (z : Value) (c bytes : Nat)
    (hS : Try.prog.underlying S = some (.slice T)) (hT : (Try.prog.info? T).map (fun i => (i.zero, i.size, i.bytes)) = some (some z, c, bytes)) (hz : z.cells.size = c) (hc : 0 < c) (hby : bytes ≤ 1000)
    (ho : o.op = .call { callee := .builtin .append, args := #[s, x], argTypes := #[S, S] })
    (v : Value) (n : Nat) (xs ys : List Value) (hs : a.eval s = v) (hO : w.ownsRow w0.heap.size T c v n xs) (hb : Below w0.heap.size w0 w)
    (N : Nat) (hN : w.heap.size = N) (hx : a.eval x = .slice (some ⟨N, 0, none⟩) 1 1) (hy : ys.length = c) (h1 : ∀ u ∈ ys, u.oneCell' = true) (hlen : n ≤ 1000000)
    (h : ∀ v' w', w'.ownsRow w0.heap.size T c v' (n + 1) (xs ++ ys) → Below w0.heap.size w0 w' → N < w'.heap.size → wpList Try.prog ops Q rest (a.put o.dst v') w') :
    wpList Try.prog ops Q (o :: rest) a (w.alloc (.cells ys.toArray T)) := by
  subst hN
  obtain ⟨i0, hi, hz0, hz1, hz2⟩ := info_parts hT
  have hb0 := hb.size
  refine wpList_append_own_at _ hgd s x S ho w0.heap.size T i0 z c bytes hS hi hz0 hz1 hz2 hz hc v n xs hs (World.ownsRow.alloc hO _)
    ⟨w.heap.size, 0, none⟩ 1 1 ys hx (by rw [hy, Nat.one_mul]) ?_ h1 ?_ ?_ ?_ ?_
  · intro j u hj
    have := cell_new w ys.toArray T j
    rw [Nat.zero_add] at this
    rw [show ((⟨w.heap.size, 0, none⟩ : Addr).add j) = ⟨w.heap.size, j, none⟩ from by unfold Addr.add; split <;> simp_all, this]
    simpa using hj
  · unfold maxLen; omega
  · calc (n + 1) * bytes ≤ 1000001 * 1000 := Nat.mul_le_mul (by omega) hby
      _ ≤ _ := by omega
  · simp; omega
  · intro v' w' h2 h3 _ _
    have hsz := h3.size
    have hsz0 : (w.alloc (.cells ys.toArray T)).heap.size = w.heap.size + 1 := by simp
    refine h v' w' h2 ?_ (by omega)
    refine Below.grown (row := v.ownBlock) (hb.alloc hb0 _) h3 (by omega) ?_
    intro k hk
    exact (World.ownsRow.lt hO k hk).1
theorem FB.of {w0 w : World} {T : TypeId} {c : Nat} {v : Value} {n : Nat} {xs : List Value} (hO : w.ownsRow w0.heap.size T c v n xs) (hb : Below w0.heap.size w0 w) : ∃ ad cap, v = .slice ad n cap ∧ n ≤ cap ∧ FB w0 w T ad xs [] := by
  obtain ⟨hl, h2⟩ := hO
  rcases h2 with ⟨rfl, rfl⟩ | ⟨g, cap, cur, rfl, h3, h4, h5, _, _, h8⟩
  · exact ⟨none, 0, rfl, Nat.le_refl _, ⟨hb, Oss.nil _ _⟩, fun h0 => by omega⟩
  · exact ⟨_, cap, rfl, h5, ⟨hb, Oss.nil _ _⟩, fun _ => ⟨g, cur, rfl, h3, h4, by rw [hl]; exact h8, by simp⟩⟩
end Go.Proofs.Ytooghdnlaonkaaa
namespace Go.Proofs.Ytooghdnlaonkaaa
open Go.RowKit

theorem Sa.thA {w : World} {a : Option Addr} {l : List Rn} (h : Sa w a (ths l)) (i : Nat) (hi : i < l.length) : ∃ b off, a = some ⟨b, off, none⟩ ∧ b < w.heap.size ∧
    w.cell? ⟨b, off + i * 4, none⟩ = some (.int .i64 (rnA l i).sh) ∧ w.cell? ⟨b, off + i * 4 + 1, none⟩ = some (.int .i64 (rnA l i).wa) ∧ w.cell? ⟨b, off + i * 4 + 2, none⟩ = some (.bool (rnA l i).th) ∧ w.cell? ⟨b, off + i * 4 + 3, none⟩ = some (.bool (rnA l i).ah) := by
  obtain ⟨b, off, e, hb, hc⟩ := h (by rw [ths_len]; omega)
  have key : ∀ j, j < 4 → w.cell? ⟨b, off + i * 4 + j, none⟩ = (thC (rnA l i))[j]? := fun j hj => by
    rw [Nat.add_assoc, hc (i * 4 + j) (by rw [ths_len]; omega), ths_get l i j hi hj]
  exact ⟨b, off, e, hb, key 0 (by omega), key 1 (by omega), key 2 (by omega), key 3 (by omega)⟩
theorem Sa.tuA {w : World} {a : Option Addr} {l : List Tu} (h : Sa w a (tus l)) (i : Nat) (hi : i < l.length) : ∃ b off, a = some ⟨b, off, none⟩ ∧ b < w.heap.size ∧
    w.cell? ⟨b, off + i * 3, none⟩ = some (.int .i64 (tuA l i).t) ∧ w.cell? ⟨b, off + i * 3 + 1, none⟩ = some (.int .i64 (tuA l i).who) ∧ w.cell? ⟨b, off + i * 3 + 2, none⟩ = some (.int .i64 (tuA l i).kind) := by
  obtain ⟨b, off, e, hb, hc⟩ := h (by rw [tus_len]; omega)
  have key : ∀ j, j < 3 → w.cell? ⟨b, off + i * 3 + j, none⟩ = (tuC (Proofs.Ytooghdnlaonkaaa.tuA l i))[j]? := fun j hj => by
    rw [Nat.add_assoc, hc (i * 3 + j) (by rw [tus_len]; omega), tus_get l i j hi hj]
  exact ⟨b, off, e, hb, key 0 (by omega), key 1 (by omega), key 2 (by omega)⟩
theorem Sa.rnA {w : World} {a : Option Addr} {l : List Rn} (h : Sa w a (rns l)) (i : Nat) (hi : i < l.length) : ∃ b off, a = some ⟨b, off, none⟩ ∧ b < w.heap.size ∧
    w.cell? ⟨b, off + i * 5, none⟩ = some (.int .i64 (rnA l i).sh) ∧ w.cell? ⟨b, off + i * 5 + 1, none⟩ = some (.int .i64 (rnA l i).wa) ∧ w.cell? ⟨b, off + i * 5 + 2, none⟩ = some (.bool (rnA l i).th) ∧ w.cell? ⟨b, off + i * 5 + 3, none⟩ = some (.bool (rnA l i).ah) ∧ w.cell? ⟨b, off + i * 5 + 4, none⟩ = some (.int .i64 (rnA l i).ps) := by
  obtain ⟨b, off, e, hb, hc⟩ := h (by rw [rns_len]; omega)
  have key : ∀ j, j < 5 → w.cell? ⟨b, off + i * 5 + j, none⟩ = (rnC (Proofs.Ytooghdnlaonkaaa.rnA l i))[j]? := fun j hj => by
    rw [Nat.add_assoc, hc (i * 5 + j) (by rw [rns_len]; omega), rns_get l i j hi hj]
  exact ⟨b, off, e, hb, key 0 (by omega), key 1 (by omega), key 2 (by omega), key 3 (by omega), key 4 (by omega)⟩
theorem chkR_bad (l : List Rn) (k : Nat) (hk : k < l.length) (h : chkR l k = 0) (hb : badR (rnA l k) = true) : chkR l l.length = 1 := by
  have e : chkR l (k + 1) = 1 := by rw [chkR, if_neg (by omega), if_pos hb]
  have := chkR_stays l (k + 1) (by omega) (l.length - (k + 1))
  rw [show k + 1 + (l.length - (k + 1)) = l.length by omega, e] at this
  exact this
theorem chkU_bad (n : Nat) (T : List Tu) (k : Nat) (hk : k < T.length) (h : chkU n T k = 0) (hb : badT n (tuA T k) = true) : chkU n T T.length = 1 := by
  have e : chkU n T (k + 1) = 1 := by rw [chkU, if_neg (by omega), if_pos hb]
  have := chkU_stays n T (k + 1) (by omega) (T.length - (k + 1))
  rw [show k + 1 + (T.length - (k + 1)) = T.length by omega, e] at this
  exact this
theorem chkU_form (n : Nat) (T : List Tu) (k : Nat) (hk : k < T.length) (h : chkU n T k = 0) (hb : badT n (tuA T k) = false) (hf : 0 < k ∧ (tuA T k).t < (tuA T (k - 1)).t) : chkU n T T.length = 3 := by
  have e : chkU n T (k + 1) = 3 := by rw [chkU, if_neg (by omega), if_neg (by simp [hb]), if_pos hf]
  have := chkU_stays n T (k + 1) (by omega) (T.length - (k + 1))
  rw [show k + 1 + (T.length - (k + 1)) = T.length by omega, e] at this
  exact this

set_option maxRecDepth 100000 in
set_option maxHeartbeats 4000000 in
theorem warChk (l : List Rn) (T : List Tu) (n m : Nat) (a b : Option Addr) (ca cb : Nat) (w : World) (h : Sa w a (ths l)) (h' : Sa w b (tus T)) (hn : l.length = n) (hm : T.length = m) :
    Calls Try.prog 68 #[.slice a n ca, .slice b m cb] w fun e w' => e = .returned (.int .i64 (chkW l T)) ∧ Below w.heap.size w w' := by
  have HN := Lib.hid hn; have HM := Lib.hid hm; have HS := Lib.hid h; have HS' := Lib.hid h'
  have e2 : chkW l T = if 8 < n ∨ 30 < m then 2 else if chkR l n ≠ 0 then chkR l n else chkU n T m := by unfold chkW; rw [hn, hm]
  clear h h' hn hm
  by_cases hl : 8 < n ∨ 30 < m
  · rw [if_pos hl] at e2
    have E2 := Lib.hid e2
    clear e2
    by_cases h8 : 8 < n
    · have d1 : decide ((8 : Int) < (n : Int)) = true := decide_eq_true (by omega)
      go_enter Try.func68, Try.ntmps68
      go_wp2_with fail
      go_ret
      exact ⟨by rw [E2.out]; rfl, Below.refl _ _⟩
    · have d1 : decide ((8 : Int) < (n : Int)) = false := decide_eq_false (by omega)
      have d2 : decide ((30 : Int) < (m : Int)) = true := decide_eq_true (by omega)
      go_enter Try.func68, Try.ntmps68
      go_wp2_with fail
      go_ret
      exact ⟨by rw [E2.out]; rfl, Below.refl _ _⟩
  · rw [if_neg hl] at e2
    have E2 := Lib.hid e2
    have n8 : n ≤ 8 := by omega
    have m30 : m ≤ 30 := by omega
    have d1 : decide ((8 : Int) < (n : Int)) = false := decide_eq_false (by omega)
    have d2 : decide ((30 : Int) < (m : Int)) = false := decide_eq_false (by omega)
    clear e2 hl
    go_enter Try.func68, Try.ntmps68
    go_wp2_with fail
    clear d1 d2
    go_loopw [19] (fun i wr => ∃ k : Nat, k ≤ n ∧ i = .int .i64 k ∧ Hid (chkR l k = 0) ∧ Hid (Fr w wr [])) (fun i _ => n - (intOf i).toNat)
    case atStart => exact ⟨0, by omega, rfl, Lib.hid rfl, Lib.hid (Fr.start w)⟩
    case round =>
      obtain ⟨k, hk, rfl, HC, HF⟩ := hrel
      by_cases hlt : k < n
      · obtain ⟨b', off, rfl, hb, c0, c1, c2, c3⟩ := (HF.out.old HS.out).thA k (by rw [HN.out]; exact hlt)
        have hbad1 : badR (rnA l k) = true → chkW l T = 1 := fun hb => by
          have := chkR_bad l k (by rw [HN.out]; exact hlt) HC.out hb
          rw [HN.out] at this
          rw [E2.out, this]; rfl
        have hbad0 : badR (rnA l k) = false → chkR l (k + 1) = 0 := fun hb => by
          rw [chkR, if_neg (by have := HC.out; omega), if_neg (by simp [hb])]
        obtain ⟨⟨sh, wa, th, ah, ps⟩, hr⟩ : ∃ r, rnA l k = r := ⟨_, rfl⟩
        rw [hr] at c0 c1 c2 c3 hbad1 hbad0
        simp only at c0 c1 c2 c3
        unfold badR at hbad1 hbad0
        simp only at hbad1 hbad0
        have e1 : (0 : Int) ≤ (k : Int) := by omega
        have e2 : (k : Int) < (n : Int) := by omega
        clear hr
        by_cases b1 : sh < 1
        · have f1 : decide (sh < 1) = true := decide_eq_true b1
          have HB := Lib.hid (hbad1 (by simp [f1]))
          clear hbad1 hbad0
          go_wp2_with fail
          go_ret
          exact ⟨by rw [HB.out]; rfl, (HF.out.alloc _).bel⟩
        have f1 : decide (sh < 1) = false := decide_eq_false b1
        by_cases b2 : 10 < sh
        · have f2 : decide (10 < sh) = true := decide_eq_true b2
          have HB := Lib.hid (hbad1 (by simp [f2]))
          clear hbad1 hbad0
          go_wp2_with fail
          go_ret
          exact ⟨by rw [HB.out]; rfl, (HF.out.alloc _).bel⟩
        have f2 : decide (10 < sh) = false := decide_eq_false b2
        by_cases b3 : wa < 0
        · have f3 : decide (wa < 0) = true := decide_eq_true b3
          have HB := Lib.hid (hbad1 (by simp [f3]))
          clear hbad1 hbad0
          go_wp2_with fail
          go_ret
          exact ⟨by rw [HB.out]; rfl, (HF.out.alloc _).bel⟩
        have f3 : decide (wa < 0) = false := decide_eq_false b3
        by_cases b4 : 100000 < wa
        · have f4 : decide (100000 < wa) = true := decide_eq_true b4
          have HB := Lib.hid (hbad1 (by simp [f4]))
          clear hbad1 hbad0
          go_wp2_with fail
          go_ret
          exact ⟨by rw [HB.out]; rfl, (HF.out.alloc _).bel⟩
        have f4 : decide (100000 < wa) = false := decide_eq_false b4
        have HB := Lib.hid (hbad0 (by simp [f1, f2, f3, f4]))
        clear hbad1 hbad0
        go_wp2_with fail
        exact ⟨⟨k + 1, by omega, by simp, HB, Lib.hid (HF.out.alloc _)⟩, by simp only [intOf]; omega⟩
      · obtain rfl : k = n := by omega
        have E3 : Hid (chkW l T = chkU k T m) := Lib.hid (by rw [E2.out, HC.out]; rfl)
        clear E2 HC
        go_wp2_with fail
        go_loopw [44] (fun i wr => ∃ j : Nat, j ≤ m ∧ i = .int .i64 j ∧ Hid (chkU k T j = 0) ∧ Hid (Fr w wr [])) (fun i _ => m - (intOf i).toNat)
        case atStart => exact ⟨0, by omega, rfl, Lib.hid rfl, HF⟩
        case round =>
          clear HF
          obtain ⟨j, hj, rfl, HC, HF⟩ := hrel
          by_cases hlt2 : j < m
          · obtain ⟨b', off, rfl, hb, c0, c1, c2⟩ := (HF.out.old HS'.out).tuA j (by rw [HM.out]; exact hlt2)
            have hbad1 : badT k (tuA T j) = true → chkW l T = 1 := fun hb => by
              have := chkU_bad k T j (by rw [HM.out]; exact hlt2) HC.out hb
              rw [HM.out] at this
              rw [E3.out, this]
            have hbad3 : badT k (tuA T j) = false → 0 < j ∧ (tuA T j).t < (tuA T (j - 1)).t → chkW l T = 3 := fun hb hf => by
              have := chkU_form k T j (by rw [HM.out]; exact hlt2) HC.out hb hf
              rw [HM.out] at this
              rw [E3.out, this]
            have hbad0 : badT k (tuA T j) = false → ¬ (0 < j ∧ (tuA T j).t < (tuA T (j - 1)).t) → chkU k T (j + 1) = 0 := fun hb hf => by
              rw [chkU, if_neg (by have := HC.out; omega), if_neg (by simp [hb]), if_neg hf]
            obtain ⟨⟨t, who, kind⟩, hr⟩ : ∃ r, tuA T j = r := ⟨_, rfl⟩
            rw [hr] at c0 c1 c2 hbad1 hbad0 hbad3
            simp only at c0 c1 c2
            unfold badT at hbad1 hbad0 hbad3
            simp only at hbad1 hbad0 hbad3
            have e1 : (0 : Int) ≤ (j : Int) := by omega
            have e2 : (j : Int) < (m : Int) := by omega
            clear hr
            by_cases b1 : t < 0
            · have f1 : decide (t < 0) = true := decide_eq_true b1
              have HB := Lib.hid (hbad1 (by simp [f1]))
              clear hbad1 hbad0 hbad3
              go_wp2_with fail
              go_ret
              exact ⟨by rw [HB.out]; rfl, (HF.out.alloc _).bel⟩
            have f1 : decide (t < 0) = false := decide_eq_false b1
            by_cases b2 : 200 < t
            · have f2 : decide (200 < t) = true := decide_eq_true b2
              have HB := Lib.hid (hbad1 (by simp [f2]))
              clear hbad1 hbad0 hbad3
              go_wp2_with fail
              go_ret
              exact ⟨by rw [HB.out]; rfl, (HF.out.alloc _).bel⟩
            have f2 : decide (200 < t) = false := decide_eq_false b2
            by_cases b3 : who < 0
            · have f3 : decide (who < 0) = true := decide_eq_true b3
              have HB := Lib.hid (hbad1 (by simp [f3]))
              clear hbad1 hbad0 hbad3
              go_wp2_with fail
              go_ret
              exact ⟨by rw [HB.out]; rfl, (HF.out.alloc _).bel⟩
            have f3 : decide (who < 0) = false := decide_eq_false b3
            by_cases b4 : (k : Int) ≤ who
            · have f4 : decide ((k : Int) ≤ who) = true := decide_eq_true b4
              have HB := Lib.hid (hbad1 (by simp [f4]))
              clear hbad1 hbad0 hbad3
              go_wp2_with fail
              go_ret
              exact ⟨by rw [HB.out]; rfl, (HF.out.alloc _).bel⟩
            have f4 : decide ((k : Int) ≤ who) = false := decide_eq_false b4
            by_cases b5 : kind < 1
            · have f5 : decide (kind < 1) = true := decide_eq_true b5
              have HB := Lib.hid (hbad1 (by simp [f5]))
              clear hbad1 hbad0 hbad3
              go_wp2_with fail
              go_ret
              exact ⟨by rw [HB.out]; rfl, (HF.out.alloc _).bel⟩
            have f5 : decide (kind < 1) = false := decide_eq_false b5
            by_cases b6 : 4 < kind
            · have f6 : decide (4 < kind) = true := decide_eq_true b6
              have HB := Lib.hid (hbad1 (by simp [f6]))
              clear hbad1 hbad0 hbad3
              go_wp2_with fail
              go_ret
              exact ⟨by rw [HB.out]; rfl, (HF.out.alloc _).bel⟩
            have f6 : decide (4 < kind) = false := decide_eq_false b6
            replace hbad0 := hbad0 (by simp [f1, f2, f3, f4, f5, f6])
            replace hbad3 := hbad3 (by simp [f1, f2, f3, f4, f5, f6])
            clear hbad1
            by_cases hj0 : j = 0
            · have HB := Lib.hid (hbad0 (by omega))
              have g1 : decide ((0 : Int) < (j : Int)) = false := decide_eq_false (by omega)
              have g2 : decide (0 < j) = false := decide_eq_false (by omega)
              clear hbad0 hbad3 hj0
              go_wp2_with fail
              go_quiet (fail)
              have HF2 := Lib.hid ((HF.out.alloc (.cells #[.int .i64 t, .int .i64 who, .int .i64 kind] 31)).drewN nq)
              go_wp2_with fail
              exact ⟨⟨j + 1, by omega, by simp, HB, HF2⟩, by simp only [intOf]; omega⟩
            · obtain ⟨i, rfl⟩ : ∃ i, j = i + 1 := ⟨j - 1, by omega⟩
              have g1 : decide ((0 : Int) < (((i + 1 : Nat) : Nat) : Int)) = true := decide_eq_true (by omega)
              have g1' : decide ((0 : Int) < (i : Int) + 1) = true := decide_eq_true (by omega)
              obtain ⟨_, _, e, _, p0, _, _⟩ := (HF.out.old HS'.out).tuA i (by rw [HM.out]; omega)
              cases e
              rw [show i + 1 - 1 = i from rfl] at hbad0 hbad3
              obtain ⟨t', ht'⟩ : ∃ t', (tuA T i).t = t' := ⟨_, rfl⟩
              rw [ht'] at hbad0 hbad3 p0
              have g2 : (((i + 1 : Nat) : Int)) - 1 = (i : Int) := by omega
              have g3 : (0 : Int) ≤ (i : Int) := by omega
              have g4 : (i : Int) < (m : Int) := by omega
              clear ht'
              by_cases hf : t < t'
              · have HB := Lib.hid (hbad3 ⟨by omega, hf⟩)
                have g5 : decide (t < t') = true := decide_eq_true hf
                clear hbad0 hbad3
                go_wp2_with fail
                go_quiet (fail)
                have HF2 := Lib.hid ((HF.out.alloc (.cells #[.int .i64 t, .int .i64 who, .int .i64 kind] 31)).drewN nq)
                go_wp2_with fail
                go_ret
                exact ⟨by rw [HB.out]; rfl, HF2.out.bel⟩
              · have HB := Lib.hid (hbad0 (by omega))
                have g5 : decide (t < t') = false := decide_eq_false hf
                clear hbad0 hbad3
                go_wp2_with fail
                go_quiet (fail)
                have HF2 := Lib.hid ((HF.out.alloc (.cells #[.int .i64 t, .int .i64 who, .int .i64 kind] 31)).drewN nq)
                go_wp2_with fail
                exact ⟨⟨i + 1 + 1, by omega, by simp, HB, HF2⟩, by simp only [intOf]; omega⟩
          · obtain rfl : j = m := by omega
            go_wp2_with fail
            go_ret
            exact ⟨by rw [E3.out, HC.out]; rfl, HF.out.bel⟩
end Go.Proofs.Ytooghdnlaonkaaa
namespace Go.Proofs.Ytooghdnlaonkaaa
open Go.RowKit

theorem next_yes (L : List Rn) (k : Nat) (ht : (rnA L k).th = true) (h : besW L k < 0 ∨ eW (rnA L k) < leastW L k) : besW L (k + 1) = k ∧ leastW L (k + 1) = eW (rnA L k) := by
  have e : besW L (k + 1) = k := by
    rw [besW, if_pos]
    refine ⟨ht, ?_⟩
    rcases h with h | h
    · exact .inl h
    · by_cases h0 : besW L k < 0
      · exact .inl h0
      · unfold leastW at h; rw [if_neg h0] at h; exact .inr h
  refine ⟨e, ?_⟩
  unfold leastW
  rw [e, if_neg (by omega)]; simp
theorem next_no (L : List Rn) (k : Nat) (h : (rnA L k).th = false ∨ (0 ≤ besW L k ∧ leastW L k ≤ eW (rnA L k))) : besW L (k + 1) = besW L k ∧ leastW L (k + 1) = leastW L k := by
  have e : besW L (k + 1) = besW L k := by
    rw [besW, if_neg]
    rintro ⟨h1, h2⟩
    rcases h with h | ⟨h3, h4⟩
    · rw [h] at h1; cases h1
    · unfold leastW at h4; rw [if_neg (by omega)] at h4; omega
  refine ⟨e, ?_⟩
  unfold leastW
  rw [e]
theorem any_yes (L : List Rn) (k : Nat) (ht : (rnA L k).th = true) (h : anyR L k = false ∨ (rnA L k).ps < lstR L k) : anyR L (k + 1) = true ∧ lstR L (k + 1) = (rnA L k).ps := by
  constructor
  · rw [anyR, ht]; simp
  · rw [lstR, if_pos ⟨ht, h⟩]
theorem any_no (L : List Rn) (k : Nat) (h : (rnA L k).th = false ∨ (anyR L k = true ∧ lstR L k ≤ (rnA L k).ps)) : anyR L (k + 1) = anyR L k ∧ lstR L (k + 1) = lstR L k := by
  constructor
  · rw [anyR]
    rcases h with h | ⟨h, _⟩
    · rw [h]; simp
    · rw [h]; simp
  · rw [lstR, if_neg]
    rintro ⟨h1, h2⟩
    rcases h with h | ⟨h3, h4⟩
    · rw [h] at h1; cases h1
    · rcases h2 with h2 | h2
      · rw [h3] at h2; cases h2
      · omega
theorem turn1 (L : List Rn) (t : Int) (j : Nat) : turnR L ⟨t, j, 1⟩ = L.set j { rnA L j with th := false } := by simp [turnR]
theorem turn2a (L : List Rn) (t : Int) (j : Nat) (h : (rnA L j).th = true) : turnR L ⟨t, j, 2⟩ = L := by simp [turnR, h]
theorem turn2b (L : List Rn) (t : Int) (j n : Nat) (hn : L.length = n) (h : (rnA L j).th = false) (ha : anyR L n = true) : turnR L ⟨t, j, 2⟩ = L.set j { rnA L j with th := true, ps := max (rnA L j).ps (lstR L n) } := by simp [turnR, h, hn, ha]
theorem turn2c (L : List Rn) (t : Int) (j n : Nat) (hn : L.length = n) (h : (rnA L j).th = false) (ha : anyR L n = false) : turnR L ⟨t, j, 2⟩ = L.set j { rnA L j with th := true } := by simp [turnR, h, hn, ha]
theorem turn3 (L : List Rn) (t : Int) (j : Nat) : turnR L ⟨t, j, 3⟩ = L.set j { rnA L j with ah := true } := by simp [turnR]
theorem turn4 (L : List Rn) (t : Int) (j : Nat) : turnR L ⟨t, j, 4⟩ = L.set j { rnA L j with ah := false } := by simp [turnR]
theorem set_th (L : List Rn) (j : Nat) (r : Rn) (hj : j < L.length) (hr : rnA L j = r) (b : Bool) : (rns L).set (j * 5 + 2) (.bool b) = rns (L.set j { r with th := b }) := rns_set L j 2 _ _ hj (by omega) (by rw [hr]; rfl)
theorem set_ah (L : List Rn) (j : Nat) (r : Rn) (hj : j < L.length) (hr : rnA L j = r) (b : Bool) : (rns L).set (j * 5 + 3) (.bool b) = rns (L.set j { r with ah := b }) := rns_set L j 3 _ _ hj (by omega) (by rw [hr]; rfl)
theorem set_ps (L : List Rn) (j : Nat) (r : Rn) (hj : j < L.length) (hr : rnA L j = r) (p : Int) : (rns L).set (j * 5 + 4) (.int .i64 p) = rns (L.set j { r with ps := p }) := rns_set L j 4 _ _ hj (by omega) (by rw [hr]; rfl)
end Go.Proofs.Ytooghdnlaonkaaa
namespace Go.Proofs.Ytooghdnlaonkaaa
open Go.RowKit

set_option maxRecDepth 100000 in
set_option maxHeartbeats 4000000 in
theorem warNext (L : List Rn) (n : Nat) (a : Option Addr) (ca : Nat) (w : World) (h : Sa w a (rns L)) (ok : RnOk L n 504000) (n8 : n ≤ 8) :
    Calls Try.prog 70 #[.slice a n ca] w fun e w' => e = .returned (.int .i64 (besW L n)) ∧ Below w.heap.size w w' := by
  have HS := Lib.hid h; have HK := Lib.hid ok
  clear h ok
  go_enter Try.func70, Try.ntmps70
  go_wp2_with fail
  go_loopw [3, 4, 10] (fun s3 s4 i wr => ∃ (k : Nat) (B M : Int), k ≤ n ∧ i = .int .i64 k ∧ s3 = .int .i64 B ∧ s4 = .int .i64 M ∧ Hid (besW L k = B) ∧ Hid (leastW L k = M) ∧ Hid (Fr w wr [])) (fun _ _ i _ => n - (intOf i).toNat)
  case atStart => exact ⟨0, -1, 0, by omega, rfl, rfl, rfl, Lib.hid rfl, Lib.hid rfl, Lib.hid (Fr.start w)⟩
  case round =>
    obtain ⟨k, B, M, hk, rfl, rfl, rfl, HB, HM, HF⟩ := hrel
    by_cases hlt : k < n
    · obtain ⟨b', off, rfl, hb, c0, c1, c2, c3, c4⟩ := (HF.out.old HS.out).rnA k (by rw [HK.out.len]; exact hlt)
      have hok := HK.out.ok k hlt
      have hy := next_yes L k
      have hno := next_no L k
      rw [HB.out, HM.out] at hy hno
      unfold eW at hy hno
      obtain ⟨⟨sh, wa, th, ah, ps⟩, hr⟩ : ∃ r, rnA L k = r := ⟨_, rfl⟩
      rw [hr] at c0 c1 c2 c3 c4 hy hno hok
      simp only at c0 c1 c2 c3 c4 hy hno hok
      obtain ⟨-, -, w1, w2, p1, p2⟩ := hok
      have e1 : (0 : Int) ≤ (k : Int) := by omega
      have e2 : (k : Int) < (n : Int) := by omega
      clear hr
      cases th
      · obtain ⟨h1, h2⟩ := hno (.inl rfl)
        have H1 := Lib.hid h1; have H2 := Lib.hid h2
        clear hy hno h1 h2
        go_wp2_with fail
        exact ⟨⟨k + 1, B, M, by omega, by simp, rfl, rfl, H1, H2, Lib.hid (HF.out.alloc _)⟩, by simp only [intOf]; omega⟩
      · cases ah
        · rw [if_neg (by simp)] at hy hno
          by_cases hB : B < 0
          · obtain ⟨h1, h2⟩ := hy rfl (.inl hB)
            have H1 := Lib.hid h1; have H2 := Lib.hid h2
            have f1 : decide (B < 0) = true := decide_eq_true hB
            clear hy hno h1 h2
            go_wp2_with fail
            exact ⟨⟨k + 1, k, ps, by omega, by simp, rfl, rfl, H1, H2, Lib.hid (HF.out.alloc _)⟩, by simp only [intOf]; omega⟩
          · have f1 : decide (B < 0) = false := decide_eq_false hB
            by_cases hM : ps < M
            · obtain ⟨h1, h2⟩ := hy rfl (.inr hM)
              have H1 := Lib.hid h1; have H2 := Lib.hid h2
              have f2 : decide (ps < M) = true := decide_eq_true hM
              clear hy hno h1 h2
              go_wp2_with fail
              exact ⟨⟨k + 1, k, ps, by omega, by simp, rfl, rfl, H1, H2, Lib.hid (HF.out.alloc _)⟩, by simp only [intOf]; omega⟩
            · obtain ⟨h1, h2⟩ := hno (.inr ⟨by omega, by omega⟩)
              have H1 := Lib.hid h1; have H2 := Lib.hid h2
              have f2 : decide (ps < M) = false := decide_eq_false hM
              clear hy hno h1 h2
              go_wp2_with fail
              exact ⟨⟨k + 1, B, M, by omega, by simp, rfl, rfl, H1, H2, Lib.hid (HF.out.alloc _)⟩, by simp only [intOf]; omega⟩
        · rw [if_pos rfl] at hy hno
          by_cases hB : B < 0
          · obtain ⟨h1, h2⟩ := hy rfl (.inl hB)
            have H1 := Lib.hid h1; have H2 := Lib.hid h2
            have f1 : decide (B < 0) = true := decide_eq_true hB
            clear hy hno h1 h2
            go_wp2_with fail
            exact ⟨⟨k + 1, k, ps - wa, by omega, by simp, rfl, rfl, H1, H2, Lib.hid (HF.out.alloc _)⟩, by simp only [intOf]; omega⟩
          · have f1 : decide (B < 0) = false := decide_eq_false hB
            by_cases hM : ps - wa < M
            · obtain ⟨h1, h2⟩ := hy rfl (.inr hM)
              have H1 := Lib.hid h1; have H2 := Lib.hid h2
              have f2 : decide (ps - wa < M) = true := decide_eq_true hM
              clear hy hno h1 h2
              go_wp2_with fail
              exact ⟨⟨k + 1, k, ps - wa, by omega, by simp, rfl, rfl, H1, H2, Lib.hid (HF.out.alloc _)⟩, by simp only [intOf]; omega⟩
            · obtain ⟨h1, h2⟩ := hno (.inr ⟨by omega, by omega⟩)
              have H1 := Lib.hid h1; have H2 := Lib.hid h2
              have f2 : decide (ps - wa < M) = false := decide_eq_false hM
              clear hy hno h1 h2
              go_wp2_with fail
              exact ⟨⟨k + 1, B, M, by omega, by simp, rfl, rfl, H1, H2, Lib.hid (HF.out.alloc _)⟩, by simp only [intOf]; omega⟩
    · obtain rfl : k = n := by omega
      go_wp2_with fail
      go_ret
      exact ⟨by rw [HB.out]; rfl, HF.out.bel⟩

theorem run_max2W (ts : Array TypeId) (t : TypeId) (x y : Int) (w : World) : Sem.run Try.prog (Builtin.max_ ts t #[.int .i64 x, .int .i64 y]) w = .ok (.int .i64 (max x y)) w := by
  simp only [Builtin.max_, List.foldlM_cons, List.foldlM_nil, Builtin.max2, pure_bind]
  rw [show (if x < y then y else x) = max x y from by omega]
  rfl
def TurnSaid (w0 : World) (ad : Option Addr) (L : List Rn) (LL : List Ent) (e : Ending) (w' : World) : Prop := e = .returned (.tuple #[]) ∧ FB w0 w' 98 ad (rns L) LL
set_option maxRecDepth 100000 in
set_option maxHeartbeats 8000000 in
theorem warTurn {w0 : World} (L : List Rn) (x : Tu) (n : Nat) (ad : Option Addr) (ca : Nat) (LL : List Ent) (w : World) (hF : FB w0 w 98 ad (rns L) LL) (ok : RnOk L n 504000) (n8 : n ≤ 8) (hx : 0 ≤ x.who ∧ x.who < n) (hk : 1 ≤ x.kind ∧ x.kind ≤ 4) :
    Calls Try.prog 69 #[.slice ad n ca, .agg #[.int .i64 x.t, .int .i64 x.who, .int .i64 x.kind]] w (TurnSaid w0 ad (turnR L x) LL) := by
  obtain ⟨t, who, kind⟩ := x
  simp only at hx hk
  obtain ⟨j, rfl⟩ : ∃ j : Nat, who = j := ⟨who.toNat, by omega⟩
  have hj : j < n := by omega
  have hjL : j < L.length := by rw [ok.len]; exact hj
  have h0 : 0 < (rns L).length := by rw [rns_len]; omega
  obtain ⟨g, rfl, hg, hgl, hcs, hfz⟩ := hF.open h0
  have key : ∀ i, i < 5 → w.cell? ⟨g, j * 5 + i, none⟩ = (rnC (rnA L j))[i]? := fun i hi => by
    rw [hcs (j * 5 + i) (by rw [rns_len]; omega), rns_get L j i hjL hi]
  have c2 := key 2 (by omega)
  have c3 := key 3 (by omega)
  have c4 := key 4 (by omega)
  have f2 := hfz (j * 5 + 2)
  have f3 := hfz (j * 5 + 3)
  have f4 := hfz (j * 5 + 4)
  obtain ⟨r, hr⟩ : ∃ r, rnA L j = r := ⟨_, rfl⟩
  have T1 := turn1 L t j; have T3 := turn3 L t j; have T4 := turn4 L t j
  have T2a := turn2a L t j; have T2b := turn2b L t j n ok.len; have T2c := turn2c L t j n ok.len
  have hS := set_th L j r hjL hr
  have hS3 := set_ah L j r hjL hr
  have hS4 := set_ps L j r hjL hr
  rw [hr] at c2 c3 c4 T1 T3 T4 T2a T2b T2c
  have hbx := fun o => hF.alloc o
  have e1 : (0 : Int) ≤ (j : Int) := by omega
  have e2 : (j : Int) < (n : Int) := by omega
  have HB := Lib.hid hbx
  clear hcs key hfz hbx
  have hkk : kind = 1 ∨ kind = 2 ∨ kind = 3 ∨ kind = 4 := by omega
  clear hk hx
  rcases hkk with rfl | rfl | rfl | rfl
  · have HT := Lib.hid T1; have HS := Lib.hid hS
    clear T1 T2a T2b T2c T3 T4 hS hS3 hS4
    go_enter Try.func69, Try.ntmps69
    go_wp2_with fail
    go_end0
    refine ⟨rfl, ?_⟩
    rw [HT.out, ← HS.out false]
    exact (hF.set h0 _ _).alloc _
  · have HT2a := Lib.hid T2a; have HT2b := Lib.hid T2b; have HT2c := Lib.hid T2c; have HS := Lib.hid hS; have HS4 := Lib.hid hS4
    have HK := Lib.hid ok; have HR := Lib.hid hr
    clear T1 T2a T2b T2c T3 T4 hS hS3 hS4 ok hr
    obtain ⟨sh, wa, th, ah, ps⟩ := r
    replace c2 : w.cell? ⟨g, j * 5 + 2, none⟩ = some (.bool th) := c2
    replace c4 : w.cell? ⟨g, j * 5 + 4, none⟩ = some (.int .i64 ps) := c4
    simp only at HT2a HT2b HT2c
    cases th
    · have hmax := fun (x y : Int) W => run_max2W #[3, 3] 3 x y W
      clear c3 f3
      go_enter Try.func69, Try.ntmps69
      go_wp2_with fail
      have HF1 := Lib.hid (HB.out (.cells #[.int .i64 t, .int .i64 (j : Int), .int .i64 2] 31))
      go_loopw [5, 6, 30] (fun s5 s6 i wr => ∃ (k : Nat) (A : Bool) (M : Int), k ≤ n ∧ i = .int .i64 k ∧ s6 = .bool A ∧ s5 = .int .i64 M ∧ Hid (anyR L k = A) ∧ Hid (lstR L k = M) ∧ 
        Hid (FB w0 wr 98 (some ⟨g, 0, none⟩) (rns L) LL) ∧ Hid (Below (w.heap.size + 1) (w.alloc (.cells #[.int .i64 t, .int .i64 (j : Int), .int .i64 2] 31)) wr)) (fun _ _ i _ => n - (intOf i).toNat)
      case atStart => exact ⟨0, false, 0, by omega, rfl, rfl, rfl, Lib.hid rfl, Lib.hid rfl, HF1, Lib.hid (Below.refl _ _)⟩
      case round =>
        obtain ⟨k, A, M, hk, rfl, rfl, rfl, HA, HM, HF, HW⟩ := hrel
        by_cases hlt : k < n
        · obtain ⟨_, _, e, hb, d0, d1, d2, d3, d4⟩ := HF.out.sa.rnA k (by rw [HK.out.len]; exact hlt)
          cases e
          have hok := HK.out.ok k hlt
          have hy := any_yes L k
          have hno := any_no L k
          rw [HA.out, HM.out] at hy hno
          obtain ⟨⟨sh', wa', th', ah', ps'⟩, hr⟩ : ∃ r, rnA L k = r := ⟨_, rfl⟩
          rw [hr] at d0 d1 d2 d3 d4 hy hno hok
          simp only at d0 d1 d2 d3 d4 hy hno hok
          rw [Nat.zero_add] at d0 d1 d2 d3 d4
          have e3 : (0 : Int) ≤ (k : Int) := by omega
          have e4 : (k : Int) < (n : Int) := by omega
          clear hr
          cases th'
          · obtain ⟨h1, h2⟩ := hno (.inl rfl)
            have H1 := Lib.hid h1; have H2 := Lib.hid h2
            clear hy hno h1 h2 hok
            go_wp2_with fail
            exact ⟨⟨k + 1, A, M, by omega, by simp, rfl, rfl, H1, H2, Lib.hid (HF.out.alloc _), Lib.hid (HW.out.alloc (by have := HW.out.size; simp at this; omega) _)⟩, by simp only [intOf]; omega⟩
          · cases A
            · obtain ⟨h1, h2⟩ := hy rfl (.inl rfl)
              have H1 := Lib.hid h1; have H2 := Lib.hid h2
              clear hy hno h1 h2 hok
              go_wp2_with fail
              exact ⟨⟨k + 1, true, ps', by omega, by simp, rfl, rfl, H1, H2, Lib.hid (HF.out.alloc _), Lib.hid (HW.out.alloc (by have := HW.out.size; simp at this; omega) _)⟩, by simp only [intOf]; omega⟩
            · by_cases hM : ps' < M
              · obtain ⟨h1, h2⟩ := hy rfl (.inr hM)
                have H1 := Lib.hid h1; have H2 := Lib.hid h2
                have g2 : decide (ps' < M) = true := decide_eq_true hM
                clear hy hno h1 h2 hok
                go_wp2_with fail
                exact ⟨⟨k + 1, true, ps', by omega, by simp, rfl, rfl, H1, H2, Lib.hid (HF.out.alloc _), Lib.hid (HW.out.alloc (by have := HW.out.size; simp at this; omega) _)⟩, by simp only [intOf]; omega⟩
              · obtain ⟨h1, h2⟩ := hno (.inr ⟨rfl, by omega⟩)
                have H1 := Lib.hid h1; have H2 := Lib.hid h2
                have g2 : decide (ps' < M) = false := decide_eq_false hM
                clear hy hno h1 h2 hok
                go_wp2_with fail
                exact ⟨⟨k + 1, true, M, by omega, by simp, rfl, rfl, H1, H2, Lib.hid (HF.out.alloc _), Lib.hid (HW.out.alloc (by have := HW.out.size; simp at this; omega) _)⟩, by simp only [intOf]; omega⟩
        · obtain rfl : k = n := by omega
          obtain ⟨_, e, _, hgl2, hcs, hfz⟩ := HF.out.open h0
          cases e
          have key : ∀ i, i < 5 → wr.cell? ⟨g, j * 5 + i, none⟩ = (rnC (rnA L j))[i]? := fun i hi => by
            rw [hcs (j * 5 + i) (by rw [rns_len]; omega), rns_get L j i hjL hi]
          rw [HR.out] at key
          have c2' : wr.cell? ⟨g, j * 5 + 2, none⟩ = some (.bool false) := key 2 (by omega)
          have c4' : wr.cell? ⟨g, j * 5 + 4, none⟩ = some (.int .i64 ps) := key 4 (by omega)
          have f2' := hfz (j * 5 + 2)
          have f4' := hfz (j * 5 + 4)
          clear hcs hfz key
          cases A
          · go_wp2_with fail
            go_end0
            refine ⟨rfl, ?_⟩
            rw [HT2c.out trivial HA.out, ← HS.out true]
            exact HF.out.set h0 _ _
          · go_wp2_with fail
            go_end0
            refine ⟨rfl, ?_⟩
            rw [HT2b.out trivial HA.out, HM.out]
            have F3 := HF.out.set h0 (j * 5 + 4) (.int .i64 (max ps M))
            rw [HS4.out (max ps M)] at F3
            have F4 := F3.set (by rw [rns_len, List.length_set]; omega) (j * 5 + 2) (.bool true)
            rw [set_th (L.set j ⟨sh, wa, false, ah, max ps M⟩) j ⟨sh, wa, false, ah, max ps M⟩ (by rw [List.length_set]; exact hjL) (by rw [rnA_set _ _ _ _ hjL, if_pos rfl]), List.set_set] at F4
            exact F4
    · clear c3 f3
      go_enter Try.func69, Try.ntmps69
      go_wp2_with fail
      refine bodyPost_ret (results_none rfl _ _ _) rfl ?_
      refine ⟨rfl, ?_⟩
      rw [HT2a.out trivial]
      exact HB.out _
  · have HT := Lib.hid T3; have HS := Lib.hid hS3
    clear T1 T2a T2b T2c T3 T4 hS hS3 hS4
    go_enter Try.func69, Try.ntmps69
    go_wp2_with fail
    go_end0
    refine ⟨rfl, ?_⟩
    rw [HT.out, ← HS.out true]
    exact (hF.set h0 _ _).alloc _
  · have HT := Lib.hid T4; have HS := Lib.hid hS3
    clear T1 T2a T2b T2c T3 T4 hS hS3 hS4
    go_enter Try.func69, Try.ntmps69
    go_wp2_with fail
    go_end0
    refine ⟨rfl, ?_⟩
    rw [HT.out, ← HS.out false]
    exact (hF.set h0 _ _).alloc _
end Go.Proofs.Ytooghdnlaonkaaa
namespace Go.Proofs.Ytooghdnlaonkaaa
open Go.RowKit

def lenOf : Value → Nat
  | .slice _ n _ => n
  | _ => 0
theorem runInfo : (Try.prog.info? 98).map (fun i => (i.zero, i.size, i.bytes)) = some (some (.agg #[.int .i64 0, .int .i64 0, .bool false, .bool false, .int .i64 0]), 5, 32) := by kernel_rfl
theorem FB.nilSlice {w0 w : World} {T : TypeId} {ad : Option Addr} {xs : List Value} {L : List Ent} (h : FB w0 w T ad xs L) (E : TypeId) : FB w0 w T ad xs (⟨E, .slice none 0 0, []⟩ :: L) := by
  refine ⟨h.fr.nilSlice E, fun h0 => ?_⟩
  obtain ⟨g, cur, e, h1, h2, h3, h4⟩ := h.blk h0
  refine ⟨g, cur, e, h1, h2, h3, fun u hu => ?_⟩
  rcases List.mem_cons.1 hu with rfl | hu
  · simp [Value.ownBlock]
  · exact h4 u hu
/-- x[1:] of structs of c cells -/
theorem slice_fromC (S T : TypeId) (c : Nat) (hS : Try.prog.underlying S = some (.slice T)) (hE : Try.prog.elem S = T) (hT : (Try.prog.info? T).map (fun i => i.size) = some c)
    (ad : Option Addr) (n cap : Nat) (hk : 1 ≤ n) (hc : n ≤ cap) (xs : List Value) (hx : xs.length = n * c) :
    ∃ ad', (∀ W, Sem.run Try.prog (Instr.slice S (.slice ad n cap) (some (.int .i64 1)) none none) W = .ok (.slice ad' (n - 1) (cap - 1)) W) ∧ (∀ W, Sa W ad xs → Sa W ad' (xs.drop c)) := by
  have ht : Try.prog.underlying S = some (.slice (Try.prog.elem S)) := by rw [hE]; exact hS
  have hsz : ∀ W, Sem.run Try.prog (sizeOf (Try.prog.elem S)) W = .ok c W := fun W => by
    rw [hE]
    cases hi : Try.prog.info? T with
    | none => rw [hi] at hT; cases hT
    | some i => rw [hi] at hT; simp at hT; simp [sizeOf, typeInfo, go_sem, hi, hT]
  refine ⟨if cap = 1 then ad else ad.map (·.add (1 * c)), fun W => ?_, fun W hW h0 => ?_⟩
  · have := run_slice_l W S ad n cap ht .i64 1 (by omega) (by omega)
    rw [this, hsz]
    simp [Result.andThen, sliced]
  · rw [List.length_drop] at h0
    have hc1 : cap ≠ 1 := fun e => by
      have : n = 1 := by omega
      subst this; omega
    rw [if_neg hc1]
    obtain ⟨b, off, rfl, _, _⟩ := hW (by omega)
    have := hW.drop c
    have e : (some ⟨b, off, none⟩ : Option Addr).map (·.add (1 * c)) = some ⟨b, off + c, none⟩ := by
      simp only [Option.map_some, Nat.one_mul]; unfold Addr.add; split
      · next h => simp_all
      · rfl
    rw [e]; exact this (by rw [List.length_drop]; exact h0)
theorem turnElem : Try.prog.elem 23 = 31 := by kernel_rfl
theorem turnSize : (Try.prog.info? 31).map (fun i => i.size) = some 3 := by kernel_rfl

set_option maxRecDepth 100000 in
set_option maxHeartbeats 4000000 in
theorem warPlay_no (l : List Rn) (T : List Tu) (n m : Nat) (u : Int) (a b : Option Addr) (ca cb : Nat) (w : World) (h : Sa w a (ths l)) (h' : Sa w b (tus T)) (hn : l.length = n) (hm : T.length = m) (er : Int) (he : chkW l T = er) (h0 : er ≠ 0) :
    Calls Try.prog 11 #[.slice a n ca, .slice b m cb, .int .i64 u] w fun e w' => e = .returned (.tuple #[.slice none 0 0, .slice none 0 0, .int .i64 er]) ∧ Below w.heap.size w w' := by
  have HN := Lib.hid hn; have HM := Lib.hid hm; have HS := Lib.hid h; have HS' := Lib.hid h'; have HE := Lib.hid he
  have z : (er != 0) = true := by rw [bne_iff_ne]; exact h0
  clear hn hm h h' he h0
  go_enter Try.func11, Try.ntmps11
  go_wp2_with fail
  refine (warChk l T n m _ _ _ _ _ HS.out HS'.out HN.out HM.out).mono ?_; rintro e w1 ⟨rfl, hb⟩
  rw [HE.out]
  have HB := Lib.hid hb
  clear hb
  go_wp2_with fail
  go_ret3
  exact ⟨rfl, HB.out⟩
set_option maxRecDepth 100000 in
set_option maxHeartbeats 4000000 in
theorem warPlay_arg (l : List Rn) (T : List Tu) (n m : Nat) (u : Int) (a b : Option Addr) (ca cb : Nat) (w : World) (h : Sa w a (ths l)) (h' : Sa w b (tus T)) (hn : l.length = n) (hm : T.length = m) (he : chkW l T = 0) (hu : u < 0 ∨ 200 < u) :
    Calls Try.prog 11 #[.slice a n ca, .slice b m cb, .int .i64 u] w fun e w' => e = .returned (.tuple #[.slice none 0 0, .slice none 0 0, .int .i64 1]) ∧ Below w.heap.size w w' := by
  have HN := Lib.hid hn; have HM := Lib.hid hm; have HS := Lib.hid h; have HS' := Lib.hid h'; have HE := Lib.hid he
  clear hn hm h h' he
  by_cases hu0 : u < 0
  · have d1 : decide (u < 0) = true := decide_eq_true hu0
    go_enter Try.func11, Try.ntmps11
    go_wp2_with fail
    refine (warChk l T n m _ _ _ _ _ HS.out HS'.out HN.out HM.out).mono ?_; rintro e w1 ⟨rfl, hb⟩
    rw [HE.out]
    have HB := Lib.hid hb
    clear hb
    go_wp2_with fail
    go_ret3
    exact ⟨rfl, HB.out⟩
  · have d1 : decide (u < 0) = false := decide_eq_false hu0
    have d2 : decide (200 < u) = true := decide_eq_true (by omega)
    go_enter Try.func11, Try.ntmps11
    go_wp2_with fail
    refine (warChk l T n m _ _ _ _ _ HS.out HS'.out HN.out HM.out).mono ?_; rintro e w1 ⟨rfl, hb⟩
    rw [HE.out]
    have HB := Lib.hid hb
    clear hb
    go_wp2_with fail
    go_ret3
    exact ⟨rfl, HB.out⟩

def PlaySaid (l : List Rn) (T : List Tu) (n u : Nat) (w : World) (e : Ending) (w' : World) : Prop :=
  ∃ ad cp ad' cp', e = .returned (.tuple #[.slice ad u cp, .slice ad' n cp', .int .i64 0]) ∧ u ≤ cp ∧ n ≤ cp' ∧ Fr w w' [⟨3, .slice ad' n cp', ints (endW (stL l T u))⟩, ⟨3, .slice ad u cp, ints (ranW l T u)⟩]
set_option maxRecDepth 100000 in
set_option maxHeartbeats 8000000 in
theorem warPlay_yes (l : List Rn) (T : List Tu) (n m u : Nat) (a b : Option Addr) (ca cb : Nat) (w : World) (h : Sa w a (ths l)) (h' : Sa w b (tus T)) (hn : l.length = n) (hm : T.length = m) (hcb : m ≤ cb) (he : chkW l T = 0) (hu : u ≤ 200) :
    Calls Try.prog 11 #[.slice a n ca, .slice b m cb, .int .i64 u] w (PlaySaid l T n u w) := by
  have ok := chkW_ok he
  rw [hn, hm] at ok
  have n8 := ok.n8
  have m30 := ok.m30
  have HN := Lib.hid hn; have HM := Lib.hid hm; have HS := Lib.hid h; have HS' := Lib.hid h'; have HE := Lib.hid he; have HK := Lib.hid ok
  clear hn hm h h' he ok
  have d1 : decide ((u : Int) < 0) = false := decide_eq_false (by omega)
  have d2 : decide ((200 : Int) < (u : Int)) = false := decide_eq_false (by omega)
  go_enter Try.func11, Try.ntmps11
  go_wp2_with fail
  refine (warChk l T n m _ _ _ _ _ HS.out HS'.out HN.out HM.out).mono ?_; rintro e w1 ⟨rfl, hb⟩
  rw [HE.out]
  have HB := Lib.hid hb
  clear hb
  go_wp2_with fail
  clear d1 d2
  go_loopw [10, 33] (fun s10 i wr => ∃ (k : Nat) (v : Value), k ≤ n ∧ i = .int .i64 k ∧ v = s10 ∧ Hid (wr.ownsRow w.heap.size 98 5 v k (rns (zeroR (l.take k)))) ∧ Hid (Below w.heap.size w wr)) (fun _ i _ => n - (intOf i).toNat)
  case atStart => exact ⟨0, _, by omega, rfl, rfl, Lib.hid (World.ownsRow_nil _ _ _ _), HB⟩
  case round =>
    clear HB
    obtain ⟨k, v, hk, rfl, rfl, HO, HB⟩ := hrel
    by_cases hlt : k < n
    · obtain ⟨b', off, rfl, hb, c0, c1, c2, c3⟩ := (HS.out.keep HB.out).thA k (by rw [HN.out]; exact hlt)
      have htk := rnA_take l k (by rw [HN.out]; exact hlt)
      obtain ⟨⟨sh, wa, th, ah, ps⟩, hr⟩ : ∃ r, rnA l k = r := ⟨_, rfl⟩
      rw [hr] at c0 c1 c2 c3 htk
      simp only at c0 c1 c2 c3
      have hst : rns (zeroR (l.take k)) ++ [.int .i64 sh, .int .i64 wa, .bool th, .bool ah, .int .i64 0] = rns (zeroR (l.take (k + 1))) := by
        rw [htk]; simp [zeroR, rns, rnC]
      have HST := Lib.hid hst
      have e1 : (0 : Int) ≤ (k : Int) := by omega
      have e2 : (k : Int) < (n : Int) := by omega
      have HO2 := Lib.hid (World.ownsRow.alloc HO.out (.cells #[.int .i64 sh, .int .i64 wa, .bool th, .bool ah] 28))
      have HB2 := Lib.hid (HB.out.alloc HB.out.size (.cells #[.int .i64 sh, .int .i64 wa, .bool th, .bool ah] 28))
      clear hr htk hst
      go_wp2_with (with_reducible refine at_slot 41 ?_; go_must (refine wpList_pushStr rfl _ _ 96 98 _ 5 32 Try.underlying96 runInfo rfl (by decide) (by decide) rfl v k _ [.int .i64 sh, .int .i64 wa, .bool th, .bool ah, .int .i64 0] rfl HO2.out HB2.out _ (by simp) rfl rfl ?_ ?_ ?_); rotate_left; rotate_left; intro v' w3 ho2 hb2 hlt2)
      · rw [HST.out] at ho2
        exact ⟨⟨k + 1, v', by omega, by simp, rfl, Lib.hid ho2, Lib.hid hb2⟩, by simp only [intOf]; omega⟩
      · intro x hx
        simp only [List.mem_cons, List.not_mem_nil, or_false] at hx
        rcases hx with rfl | rfl | rfl | rfl | rfl <;> rfl
      · omega
    · obtain rfl : k = n := by omega
      obtain ⟨ad, cap, rfl, hcap, hfb⟩ := FB.of HO.out HB.out
      rw [List.take_of_length_le (by rw [HN.out]; exact Nat.le_refl _), show zeroR l = stL l T 0 from rfl] at hfb
      have HF := Lib.hid (hfb.nilSlice 3)
      clear HO HB hfb
      go_wp2_with fail
      go_loopw [1, 13, 44] (fun s1 s13 s44 wr => ∃ (t p r : Nat) (bd rd : Option Addr) (tc cp : Nat), t ≤ u ∧ s44 = .int .i64 t ∧ Hid (p + r = m) ∧ s1 = .slice bd r tc ∧ r ≤ tc ∧ s13 = .slice rd t cp ∧ Hid (Sa w bd (tus (T.drop p))) ∧
        Hid (∀ i, i < p → (tuA T i).t < t) ∧ Hid (∀ i, p ≤ i → i < m → (t : Int) ≤ (tuA T i).t) ∧ Hid (FB w wr 98 ad (rns (stL l T t)) [⟨3, .slice rd t cp, ints (ranW l T t)⟩])) (fun _ _ s _ => u - (intOf s).toNat)
      case atStart =>
        refine ⟨0, 0, m, b, none, cb, 0, by omega, rfl, Lib.hid (by omega), rfl, by omega, rfl, HS', Lib.hid (fun i hi => by omega), Lib.hid (fun i _ hi => ?_), HF⟩
        have := (HK.out.tu i hi).1
        simpa using this
      case round =>
        clear HF
        obtain ⟨t, p, r, bd, rd, tc, cp, ht, rfl, HPR, rfl, htc, rfl, HT, HP, HR, HF⟩ := hrel
        by_cases hlt2 : t < u
        · go_wp2_with fail
          go_loopw [1] (fun s1 wr => ∃ (q r : Nat) (bd : Option Addr) (tc : Nat), p ≤ q ∧ Hid (q + r = m) ∧ s1 = .slice bd r tc ∧ r ≤ tc ∧ Hid (Sa w bd (tus (T.drop q))) ∧ Hid (∀ i, p ≤ i → i < q → (tuA T i).t = t) ∧
            Hid (RnOk (((T.drop p).take (q - p)).foldl turnR (stL l T t)) k 504000) ∧ Hid (FB w wr 98 ad (rns (((T.drop p).take (q - p)).foldl turnR (stL l T t))) [⟨3, .slice rd t cp, ints (ranW l T t)⟩])) (fun s1 _ => lenOf s1)
          case atStart =>
            refine ⟨p, r, bd, tc, by omega, HPR, rfl, htc, HT, Lib.hid (fun i h1 h2 => by omega), Lib.hid ?_, ?_⟩
            · rw [Nat.sub_self, List.take_zero]
              show RnOk (stL l T t) k 504000
              have := (HK.out.st t).1
              exact ⟨this.len, fun i hi => by have := this.ok i hi; omega⟩
            · rw [Nat.sub_self, List.take_zero]; exact HF
          case round =>
            clear HF HT htc
            obtain ⟨q, r', bd, tc, hpq, HQR, rfl, htc, HT, HQ, HO, HF⟩ := hrel
            have hqr := HQR.out
            have hqm : q ≤ m := by omega
            have hlen : (T.drop q).length = r' := by rw [List.length_drop, HM.out]; omega
            have HLEN := Lib.hid hlen
            clear hqr hlen
            by_cases hc : 0 < r' ∧ (tuA T q).t = t
            · obtain ⟨hlt3, heq⟩ := hc
              have g1 : decide ((0 : Int) < (r' : Int)) = true := decide_eq_true (by omega)
              have hqm2 : q < m := by have := HQR.out; omega
              obtain ⟨b', off, rfl, hb, c0, c1, c2⟩ := (HT.out.keep HF.out.bel).tuA 0 (by rw [HLEN.out]; exact hlt3)
              simp only [tuA_drop, Nat.zero_mul, Nat.add_zero] at c0 c1 c2
              have hk := HK.out.tu q hqm2
              have hge := HR.out q hpq hqm2
              obtain ⟨ad2, hsl, hsa⟩ := slice_fromC 23 31 3 Try.underlying23 turnElem turnSize (some ⟨b', off, none⟩) r' tc hlt3 htc (tus (T.drop q)) (by rw [tus_len, HLEN.out])
              have hdrop : (tus (T.drop q)).drop 3 = tus (T.drop (q + 1)) := by
                have := flat_drop tuC 3 (fun _ => rfl) (T.drop q) 1
                rw [Nat.one_mul, List.drop_drop] at this
                exact this
              have hfold : ((T.drop p).take (q + 1 - p)).foldl turnR (stL l T t) = turnR (((T.drop p).take (q - p)).foldl turnR (stL l T t)) (tuA T q) := by
                rw [show q + 1 - p = (q - p) + 1 by omega, tuA_take _ _ (by rw [List.length_drop, HM.out]; omega), List.foldl_append, tuA_drop, show p + (q - p) = q by omega]
                rfl
              have hw0 := hk.2.2.1
              have hw1 := hk.2.2.2.1
              have hk0 := hk.2.2.2.2.1
              have hk1 := hk.2.2.2.2.2.1
              have hQ2 : ∀ i, p ≤ i → i < q + 1 → (tuA T i).t = t := fun i h1 h2 => by
                by_cases e : i = q
                · rw [e]; exact heq
                · exact HQ.out i h1 (by omega)
              obtain ⟨⟨xt, xw, xk⟩, hx⟩ : ∃ x, tuA T q = x := ⟨_, rfl⟩
              rw [hx] at c0 c1 c2 heq hw0 hw1 hk0 hk1 hfold
              simp only at c0 c1 c2 heq hw0 hw1 hk0 hk1
              subst heq
              have HFO := Lib.hid hfold
              have g2 : ((t : Int) == (t : Int)) = true := beq_self_eq_true _
              have HQ2 := Lib.hid hQ2; have HSA := Lib.hid hsa; have HD := Lib.hid hdrop
              have hrr : r' - 1 ≤ tc - 1 := by omega
              have HO2 : Hid (RnOk (turnR (((T.drop p).take (q - p)).foldl turnR (stL l T t)) ⟨t, xw, xk⟩) k 504000) := Lib.hid (HO.out.turn (by omega) _ ⟨hw0, hw1⟩)
              obtain ⟨r1, hr1⟩ : ∃ r1, r' - 1 = r1 := ⟨_, rfl⟩
              obtain ⟨tc1, htc1⟩ : ∃ tc1, tc - 1 = tc1 := ⟨_, rfl⟩
              rw [hr1, htc1] at hsl hrr
              have HQR2 : Hid (q + 1 + r1 = m) := Lib.hid (by have := HQR.out; omega)
              have hlt4 : r1 < r' := by omega
              have hpq1 : p ≤ q + 1 := by omega
              clear hfold hk hge hdrop hQ2 hx hr1 htc1 hsa
              go_wp2_with fail
              refine (warTurn _ ⟨t, xw, xk⟩ k _ _ _ _ HF.out HO.out (by omega) ⟨hw0, hw1⟩ ⟨hk0, hk1⟩).mono ?_; rintro e w2 ⟨rfl, hf⟩
              have HF2 := Lib.hid hf
              clear hf
              have HT2 : Hid (Sa w ad2 (tus (T.drop (q + 1)))) := Lib.hid (by rw [← HD.out]; exact HSA.out _ HT.out)
              rw [← HFO.out] at HF2 HO2
              go_wp2_with fail
              exact ⟨⟨q + 1, r1, ad2, tc1, by omega, HQR2, rfl, hrr, HT2, HQ2, HO2, HF2⟩, by simp only [lenOf]; omega⟩
            · have hEv : evs T t = (T.drop p).take (q - p) := by
                refine evs_mid t p q hpq (by rw [HM.out]; exact hqm) HP.out HQ.out (fun i h1 h2 => ?_)
                rw [HM.out] at h2
                have h3 := HQR.out
                have := HK.out.sorted q (i - q) (by omega)
                rw [show q + (i - q) = i by omega] at this
                have := HR.out q hpq (by omega)
                by_cases e : (tuA T q).t = t
                · exact absurd ⟨by omega, e⟩ hc
                · omega
              have hP2 : ∀ i, i < q → (tuA T i).t < ((t + 1 : Nat) : Int) := fun i hi => by
                by_cases h : i < p
                · have := HP.out i h; omega
                · have := HQ.out i (by omega) hi; omega
              have hR2 : ∀ i, q ≤ i → i < m → ((t + 1 : Nat) : Int) ≤ (tuA T i).t := fun i h1 h2 => by
                have h3 := HQR.out
                have := HK.out.sorted q (i - q) (by omega)
                rw [show q + (i - q) = i by omega] at this
                have := HR.out q hpq (by omega)
                by_cases e : (tuA T q).t = t
                · exact absurd ⟨by omega, e⟩ hc
                · omega
              have HP2 := Lib.hid hP2; have HR2 := Lib.hid hR2
              have e1 : ((T.drop p).take (q - p)).foldl turnR (stL l T t) = evL l T t := by rw [evL, hEv]
              rw [e1] at HF HO
              have hb2 := besW_lt (evL l T t) k
              have hsu := stL_succ l T t
              have hru := ranW_succ l T t
              rw [HN.out] at hsu hru
              have hbo := HO.out.ok
              have hlenE := HO.out.len
              have HSU := Lib.hid hsu; have HRU := Lib.hid hru; have HBO := Lib.hid hbo; have HLE := Lib.hid hlenE
              have hst5 := (HK.out.st t).2.ok
              have HST5 := Lib.hid hst5
              obtain ⟨B, hB⟩ : ∃ B, besW (evL l T t) k = B := ⟨_, rfl⟩
              rw [hB] at hb2 HSU HRU
              have HBB := Lib.hid hB
              obtain ⟨hb2, hb3⟩ := hb2
              have hT0 : r' = 0 ∨ ∃ b' off, bd = some ⟨b', off, none⟩ ∧ (0 < r') ∧ wr.cell? ⟨b', off, none⟩ = some (.int .i64 (tuA T q).t) ∧ ((tuA T q).t == (t : Int)) = false ∧ decide ((0 : Int) < (r' : Int)) = true := by
                by_cases hr0 : r' = 0
                · exact .inl hr0
                · obtain ⟨b', off, e, hb, c0, c1, c2⟩ := (HT.out.keep HF.out.bel).tuA 0 (by rw [HLEN.out]; omega)
                  simp only [tuA_drop, Nat.zero_mul, Nat.add_zero] at c0
                  exact .inr ⟨b', off, e, by omega, c0, beq_eq_false_iff_ne.2 (fun e => hc ⟨by omega, e⟩), decide_eq_true (by omega)⟩
              clear hEv hP2 hR2 e1 hsu hru hbo hlenE hB hc HQ HR HP hst5
              rcases hT0 with rfl | ⟨b', off, rfl, hlt3, c0, g2, g1⟩
              all_goals
                go_wp2_with fail
                refine (warNext (evL l T t) k _ _ _ HF.out.sa HO.out (by omega)).mono ?_; rintro e w2 ⟨rfl, hb⟩
                rw [HBB.out]
                have HF2 := Lib.hid (HF.out.keep hb)
                clear hb
                by_cases hB0 : 0 ≤ B
                · obtain ⟨β, rfl⟩ : ∃ β : Nat, B = β := ⟨B.toNat, by omega⟩
                  have hβ : β < k := by omega
                  have hβL : β < (evL l T t).length := by rw [HLE.out]; exact hβ
                  have hbd := HST5.out β hβ
                  have h0 : 0 < (rns (evL l T t)).length := by rw [rns_len]; omega
                  obtain ⟨g, rfl, hg, hgl, hcs, hfz⟩ := HF2.out.open h0
                  have key : ∀ i, i < 5 → w2.cell? ⟨g, β * 5 + i, none⟩ = (rnC (rnA (evL l T t) β))[i]? := fun i hi => by
                    rw [hcs (β * 5 + i) (by rw [rns_len]; omega), rns_get _ β i hβL hi]
                  have c5 := key 0 (by omega)
                  have c6 := key 4 (by omega)
                  have f6 := hfz (β * 5 + 4)
                  have hsp := set_ps (evL l T t) β _ hβL rfl ((rnA (evL l T t) β).ps + 2520 / (rnA (evL l T t) β).sh)
                  have hbu : bumpW (evL l T t) (β : Int) = (evL l T t).set β { rnA (evL l T t) β with ps := (rnA (evL l T t) β).ps + 2520 / (rnA (evL l T t) β).sh } := by
                    unfold bumpW; rw [if_pos (by omega)]; simp
                  have hsu : (rns (evL l T t)).set (β * 5 + 4) (.int .i64 ((rnA (evL l T t) β).ps + 2520 / (rnA (evL l T t) β).sh)) = rns (stL l T (t + 1)) := by rw [hsp, HSU.out, hbu]
                  obtain ⟨sh, hsh⟩ : ∃ sh, (rnA (evL l T t) β).sh = sh := ⟨_, rfl⟩
                  obtain ⟨ps, hps⟩ : ∃ ps, (rnA (evL l T t) β).ps = ps := ⟨_, rfl⟩
                  replace c5 : w2.cell? ⟨g, β * 5, none⟩ = some (.int .i64 (rnA (evL l T t) β).sh) := c5
                  replace c6 : w2.cell? ⟨g, β * 5 + 4, none⟩ = some (.int .i64 (rnA (evL l T t) β).ps) := c6
                  rw [hsh] at c5 hsu hbd
                  rw [hps] at c6 hsu hbd
                  obtain ⟨s1, s2, -, -, p1, p2⟩ := hbd
                  obtain ⟨v1, v2, v3⟩ := share_div sh s1 s2
                  have v4 : (2520 : Int).tdiv sh = 2520 / sh := Int.tdiv_eq_ediv_of_nonneg (by omega)
                  obtain ⟨D, hD⟩ : ∃ D, 2520 / sh = D := ⟨_, rfl⟩
                  rw [hD] at hsu v1 v2 v4
                  have v5 : IntKind.i64.wrap ((2520 : Int).tdiv sh) = D := by rw [v4, IntKind.wrap_i64]; omega
                  have v6 : IntKind.i64.wrap (ps + D) = ps + D := by rw [IntKind.wrap_i64]; omega
                  have HSV := Lib.hid hsu
                  have f1 : decide (0 ≤ (β : Int)) = true := decide_eq_true (by omega)
                  have i1 : (0 : Int) ≤ (β : Int) := by omega
                  have i2 : (β : Int) < (k : Int) := by omega
                  clear hsu hsp hbu hcs hfz key hsh hps v3 hb2 hb3 hB0
                  have F3 := HF2.out.set h0 (β * 5 + 4) (.int .i64 (ps + D))
                  rw [HSV.out] at F3
                  have HF3 := Lib.hid F3
                  clear F3 HF2 HF HSV hg h0 hβL
                  go_wp2_with fail
                  go_region
                  all_goals
                    clear v4 v5 v6 hD c5 c6 f6
                    have HF4 := Lib.hid HF3.out.drew
                    clear HF3 hgl
                    obtain ⟨w4, hw4⟩ : ∃ w4, (w2.setCell ⟨g, β * 5 + 4, none⟩ (.int .i64 (ps + D))).drew = w4 := ⟨_, rfl⟩
                    rw [hw4] at HF4 ⊢
                    clear hw4
                    go_wp2_with (with_reducible refine at_slot 87 ?_; go_must (refine wpList_pushFB rfl _ _ rfl 98 (some ⟨g, 0, none⟩) (rns (stL l T (t + 1))) rd t cp (ranW l T t) (β : Int) [] rfl HF4.out _ (by simp) rfl ?_ ?_); rotate_left; intro rd' cp' w3 hf hlt4)
                    · rw [← HRU.out] at hf
                      exact ⟨⟨t + 1, q, _, _, rd', _, cp', by omega, by simp, HQR, rfl, htc, rfl, HT, HP2, HR2, Lib.hid hf⟩, by simp only [intOf]; omega⟩
                    · omega
                · have f1 : decide (0 ≤ B) = false := decide_eq_false hB0
                  have hsu : stL l T (t + 1) = evL l T t := by rw [HSU.out]; unfold bumpW; rw [if_neg hB0]
                  have HSV := Lib.hid hsu
                  clear hsu
                  go_wp2_with (with_reducible refine at_slot 87 ?_; go_must (refine wpList_pushFB rfl _ _ rfl 98 ad (rns (evL l T t)) rd t cp (ranW l T t) B [] rfl HF2.out _ (by simp) rfl ?_ ?_); rotate_left; intro rd' cp' w3 hf hlt4)
                  · rw [← HSV.out, ← HRU.out] at hf
                    exact ⟨⟨t + 1, q, _, _, rd', _, cp', by omega, by simp, HQR, rfl, htc, rfl, HT, HP2, HR2, Lib.hid hf⟩, by simp only [intOf]; omega⟩
                  · omega
        · obtain rfl : t = u := by omega
          clear HP HR HT HPR
          have hru := HF.out.fr.cap
          have hok := (HK.out.st t).1
          have HOK := Lib.hid hok
          have HFN := Lib.hid (HF.out.nilSlice 3)
          clear hok HF
          go_wp2_with fail
          go_loopw [16, 91] (fun s16 s91 wr => ∃ (j : Nat) (ed : Option Addr) (ec : Nat), j ≤ k ∧ s91 = .int .i64 j ∧ s16 = .slice ed j ec ∧ Hid (FB w wr 98 ad (rns (stL l T t)) [⟨3, .slice ed j ec, ints ((endW (stL l T t)).take j)⟩, ⟨3, .slice rd t cp, ints (ranW l T t)⟩])) (fun _ s _ => k - (intOf s).toNat)
          case atStart => exact ⟨0, none, 0, by omega, rfl, rfl, HFN⟩
          case round =>
            clear HFN
            obtain ⟨j, ed, ec, hj, rfl, rfl, HF⟩ := hrel
            by_cases hlt3 : j < k
            · obtain ⟨b', off, rfl, hb, c0, c1, c2, c3, c4⟩ := HF.out.sa.rnA j (by rw [HOK.out.len]; exact hlt3)
              have hl : (endW (stL l T t)).length = k := by rw [endW, List.length_map, HOK.out.len]
              have htk := take_nth (endW (stL l T t)) j (by rw [hl]; exact hlt3)
              have hn : nth (endW (stL l T t)) j = (rnA (stL l T t) j).ps := by
                have : j < (stL l T t).length := by rw [HOK.out.len]; exact hlt3
                simp [nth, endW, rnA, this]
              rw [hn] at htk
              obtain ⟨⟨sh, wa, th, ah, ps⟩, hr⟩ : ∃ r, rnA (stL l T t) j = r := ⟨_, rfl⟩
              rw [hr] at c0 c1 c2 c3 c4 htk
              simp only at c0 c1 c2 c3 c4 htk
              have HTK := Lib.hid htk
              have e1 : (0 : Int) ≤ (j : Int) := by omega
              have e2 : (j : Int) < (k : Int) := by omega
              have HF2 := Lib.hid (HF.out.alloc (.cells #[.int .i64 sh, .int .i64 wa, .bool th, .bool ah, .int .i64 ps] 98))
              clear hr htk hn hl HF
              go_wp2_with (with_reducible refine at_slot 99 ?_; go_must (refine wpList_pushFB rfl _ _ rfl 98 (some ⟨b', off, none⟩) (rns (stL l T t)) ed j ec ((endW (stL l T t)).take j) ps _ rfl HF2.out _ (by simp) rfl ?_ ?_); rotate_left; intro ed' ec' w3 hf hlt4)
              · rw [← HTK.out] at hf
                exact ⟨⟨j + 1, ed', ec', by omega, by simp, rfl, Lib.hid hf⟩, by simp only [intOf]; omega⟩
              · omega
            · obtain rfl : j = k := by omega
              have hl : (endW (stL l T t)).length = j := by rw [endW, List.length_map, HOK.out.len]
              have hf := HF.out.fr
              rw [List.take_of_length_le (by rw [hl]; exact Nat.le_refl _)] at hf
              have HFF := Lib.hid hf
              clear hf
              go_wp2_with fail
              go_ret3
              exact ⟨_, _, _, _, rfl, hru, HFF.out.cap, HFF.out⟩
end Go.Proofs.Ytooghdnlaonkaaa
namespace Go.Proofs.Ytooghdnlaonkaaa
open Go.RowKit

theorem bumpW_nth (L : List Rn) (b : Int) (hb : b < L.length) (i : Nat) : rnA (bumpW L b) i = if (i : Int) = b then { rnA L i with ps := (rnA L i).ps + 2520 / (rnA L i).sh } else rnA L i := by
  unfold bumpW
  by_cases h : 0 ≤ b
  · rw [if_pos h, rnA_set _ _ _ _ (by omega)]
    by_cases e : (i : Int) = b
    · rw [if_pos (by omega), if_pos e, show b.toNat = i by omega]
    · rw [if_neg (by omega), if_neg e]
  · rw [if_neg h, if_neg (by omega)]
theorem evL_nil (l : List Rn) (t : Nat) : evL l [] t = stL l [] t := rfl
/-- without turns a runner stays as it was, but for its clock -/
theorem stL_same (l : List Rn) : ∀ (t i : Nat), i < l.length → ∃ p, rnA (stL l [] t) i = { rnA l i with ps := p }
  | 0, i, hi => ⟨0, rnA_zero l i hi⟩
  | t + 1, i, hi => by
    obtain ⟨p, hp⟩ := stL_same l t i hi
    have hb := besW_lt (stL l [] t) l.length
    rw [stL_succ, evL_nil, bumpW_nth _ _ (by rw [stL_len]; omega), hp]
    split
    · exact ⟨_, rfl⟩
    · exact ⟨_, rfl⟩
def mayW (r : Rn) : Int := 2520 / r.sh + if r.ah = true then r.wa else 0
theorem bound_at {l : List Rn} {n : Nat} (ok : WOk l [] n 0) (ht : ∀ i, i < n → (rnA l i).th = true) : ∀ t i k, i < n → k < n → (rnA (stL l [] t) i).ps - (rnA (stL l [] t) k).ps ≤ mayW (rnA l i)
  | 0, i, k, hi, hk => by
    have h1 := ok.rn i hi
    have h2 := share_div _ h1.1 h1.2.1
    rw [stL, rnA_zero _ _ (by rw [ok.ln]; exact hi), rnA_zero _ _ (by rw [ok.ln]; exact hk)]
    unfold mayW
    simp only
    split <;> omega
  | t + 1, i, k, hi, hk => by
    have ih := bound_at ok ht t
    have hb := besW_lt (stL l [] t) l.length
    have hbb := besW_best (stL l [] t) l.length
    have hs := stL_same l t
    rw [ok.ln] at hb hbb hs
    rw [stL_succ, evL_nil, ok.ln, bumpW_nth _ _ (by rw [stL_len, ok.ln]; omega), bumpW_nth _ _ (by rw [stL_len, ok.ln]; omega)]
    obtain ⟨pi, hpi⟩ := hs i hi
    obtain ⟨pk, hpk⟩ := hs k hk
    have ih1 := ih i k hi hk
    have hi1 := ok.rn i hi
    have hk1 := ok.rn k hk
    have si := share_div _ hi1.1 hi1.2.1
    have sk := share_div _ hk1.1 hk1.2.1
    rw [hpi, hpk] at ih1 ⊢
    generalize besW (stL l [] t) n = b at *
    by_cases ei : (i : Int) = b
    · rw [if_pos ei]
      by_cases ek : (k : Int) = b
      · have : i = k := by omega
        subst this
        have : pi = pk := by rw [hpi] at hpk; exact (Rn.mk.inj hpk).2.2.2.2
        subst this
        rw [if_pos ek]
        unfold mayW
        simp only
        split <;> omega
      · rw [if_neg ek]
        have h3 := (hbb (by omega)).2 k hk (by rw [hpk]; exact ht k hk)
        rw [show b.toNat = i by omega, hpi, hpk] at h3
        unfold eW at h3
        unfold mayW
        simp only at h3 ⊢
        split at h3 <;> split at h3 <;> simp_all <;> omega
    · rw [if_neg ei]
      by_cases ek : (k : Int) = b
      · rw [if_pos ek]
        simp only at ih1 ⊢
        omega
      · rw [if_neg ek]; exact ih1

/-! who runs -/
def thL (L : List Rn) : List Bool := L.map Rn.th
theorem thL_bump (L : List Rn) (b : Int) : thL (bumpW L b) = thL L := by
  unfold bumpW
  split
  · unfold thL
    apply List.ext_getElem
    · simp
    · intro i h1 h2
      simp only [List.length_map, List.length_set] at h1
      rw [List.getElem_map, List.getElem_map, List.getElem_set]
      split
      · next e => subst e; simp [rnA, h1]
      · rfl
  · rfl
def setB (x : Tu) (b : List Bool) : List Bool := if x.kind = 1 then b.set x.who.toNat false else if x.kind = 2 then b.set x.who.toNat true else b
theorem map_set_th (L : List Rn) (j : Nat) (r : Rn) : (L.set j r).map Rn.th = (L.map Rn.th).set j r.th := List.map_set
theorem set_self_th (L : List Rn) (j : Nat) (b : Bool) (h : (rnA L j).th = b) (hj : j < L.length) : (L.map Rn.th).set j b = L.map Rn.th := by
  apply List.ext_getElem
  · simp
  · intro i h1 h2
    rw [List.getElem_set]
    split
    · next e => subst e; simp [rnA, hj] at h; simp [h]
    · rfl
theorem thL_turn (L : List Rn) (x : Tu) (hx : x.who.toNat < L.length) : thL (turnR L x) = setB x (thL L) := by
  unfold turnR setB thL
  by_cases h1 : x.kind = 1
  · rw [if_pos h1, if_pos h1, map_set_th]
  · rw [if_neg h1, if_neg h1]
    by_cases h2 : x.kind = 2
    · rw [if_pos h2, if_pos h2]
      by_cases h3 : (rnA L x.who.toNat).th = true
      · rw [if_pos h3, set_self_th L _ true h3 hx]
      · rw [if_neg h3, map_set_th]
    · rw [if_neg h2, if_neg h2]
      split
      · rw [map_set_th]; exact set_self_th L _ _ rfl hx
      · split
        · rw [map_set_th]; exact set_self_th L _ _ rfl hx
        · rfl
def tellB (x : Tu) (t : Nat) : Bool := decide (x.t = t) && (decide (x.kind = 1) || decide (x.kind = 2))
/-- the law's own rows behind j turns -/
def thS (T : List Tu) (t : Nat) (b : List Bool) : Nat → List Bool
  | 0 => b
  | j + 1 => if tellB (tuA T j) t = true then (thS T t b j).set (tuA T j).who.toNat (decide ((tuA T j).kind = 2)) else thS T t b j
def wkS (T : List Tu) (t : Nat) (b : List Bool) : Nat → List Bool
  | 0 => b
  | j + 1 => if tellB (tuA T j) t = true then (wkS T t b j).set (tuA T j).who.toNat true else wkS T t b j
theorem thS_len (T : List Tu) (t : Nat) (b : List Bool) : ∀ j, (thS T t b j).length = b.length
  | 0 => rfl
  | j + 1 => by rw [thS]; split <;> simp [thS_len T t b j]
theorem wkS_len (T : List Tu) (t : Nat) (b : List Bool) : ∀ j, (wkS T t b j).length = b.length
  | 0 => rfl
  | j + 1 => by rw [wkS]; split <;> simp [wkS_len T t b j]
def parL (T : List Tu) (t : Nat) (L : List Rn) (j : Nat) : List Rn := (evs (T.take j) t).foldl turnR L
theorem parL_len (T : List Tu) (t : Nat) (L : List Rn) (j : Nat) : (parL T t L j).length = L.length := fold_len _ _
theorem parL_succ (T : List Tu) (t : Nat) (L : List Rn) (j : Nat) (h : j < T.length) : parL T t L (j + 1) = if (tuA T j).t = t then turnR (parL T t L j) (tuA T j) else parL T t L j := by
  unfold parL evs
  rw [tuA_take T j h, List.filter_append, List.foldl_append]
  by_cases e : (tuA T j).t = t
  · rw [if_pos e]; simp [e]
  · rw [if_neg e]; simp [e]
theorem thS_is {l : List Rn} {T : List Tu} {n m : Nat} (ok : WOk l T n m) (t : Nat) (L : List Rn) (hL : L.length = n) : ∀ j, j ≤ m → thS T t (thL L) j = thL (parL T t L j)
  | 0, _ => rfl
  | j + 1, hj => by
    have ih := thS_is ok t L hL j (by omega)
    have hx := ok.tu j (by omega)
    rw [thS, ih, parL_succ T t L j (by rw [ok.lm]; omega)]
    unfold tellB
    by_cases e : (tuA T j).t = t
    · rw [if_pos e, thL_turn _ _ (by rw [parL_len, hL]; omega)]
      unfold setB
      have hk : (tuA T j).kind = 1 ∨ (tuA T j).kind = 2 ∨ (tuA T j).kind = 3 ∨ (tuA T j).kind = 4 := by omega
      rcases hk with k | k | k | k <;> simp [e, k]
    · rw [if_neg e]; simp [e]
def wkA (T : List Tu) (n : Nat) : Nat → List Bool
  | 0 => List.replicate n false
  | t + 1 => wkS T t (wkA T n t) T.length
theorem wkA_len (T : List Tu) (n : Nat) : ∀ t, (wkA T n t).length = n
  | 0 => by simp [wkA]
  | t + 1 => by rw [wkA, wkS_len, wkA_len T n t]
theorem getD_setB (b : List Bool) (i j : Nat) (x : Bool) (h : i < b.length) : (b.set i x).getD j false = if j = i then x else b.getD j false := getD_set b i j x false h
theorem turn_ps (L : List Rn) (x : Tu) (i : Nat) (hx : x.who.toNat < L.length) : (rnA L i).ps ≤ (rnA (turnR L x) i).ps ∧ (rnA (turnR L x) i).sh = (rnA L i).sh ∧ ((x.who.toNat = i → ¬ (x.kind = 1 ∨ x.kind = 2)) → (rnA (turnR L x) i).ps = (rnA L i).ps) := by
  unfold turnR
  by_cases h1 : x.kind = 1
  · rw [if_pos h1, rnA_set _ _ _ _ hx]
    by_cases e : i = x.who.toNat
    · subst e; rw [if_pos rfl]; exact ⟨Int.le_refl _, rfl, fun _ => rfl⟩
    · rw [if_neg e]; exact ⟨Int.le_refl _, rfl, fun _ => rfl⟩
  · rw [if_neg h1]
    by_cases h2 : x.kind = 2
    · rw [if_pos h2]
      by_cases h3 : (rnA L x.who.toNat).th = true
      · rw [if_pos h3]; exact ⟨Int.le_refl _, rfl, fun _ => rfl⟩
      · rw [if_neg h3, rnA_set _ _ _ _ hx]
        by_cases e : i = x.who.toNat
        · subst e; rw [if_pos rfl]
          refine ⟨?_, rfl, fun h => absurd (.inr h2) (h rfl)⟩
          simp only
          split <;> omega
        · rw [if_neg e]; exact ⟨Int.le_refl _, rfl, fun _ => rfl⟩
    · rw [if_neg h2]
      split
      · rw [rnA_set _ _ _ _ hx]
        by_cases e : i = x.who.toNat
        · subst e; rw [if_pos rfl]; exact ⟨Int.le_refl _, rfl, fun _ => rfl⟩
        · rw [if_neg e]; exact ⟨Int.le_refl _, rfl, fun _ => rfl⟩
      · split
        · rw [rnA_set _ _ _ _ hx]
          by_cases e : i = x.who.toNat
          · subst e; rw [if_pos rfl]; exact ⟨Int.le_refl _, rfl, fun _ => rfl⟩
          · rw [if_neg e]; exact ⟨Int.le_refl _, rfl, fun _ => rfl⟩
        · exact ⟨Int.le_refl _, rfl, fun _ => rfl⟩
theorem par_ps {l : List Rn} {T : List Tu} {n m : Nat} (ok : WOk l T n m) (t : Nat) (L : List Rn) (hL : L.length = n) (W : List Bool) (hW : W.length = n) (i : Nat) (hi : i < n) : ∀ j, j ≤ m →
    (rnA L i).ps ≤ (rnA (parL T t L j) i).ps ∧ (rnA (parL T t L j) i).sh = (rnA L i).sh ∧ ((wkS T t W j).getD i false = false → W.getD i false = false ∧ (rnA (parL T t L j) i).ps = (rnA L i).ps)
  | 0, _ => ⟨Int.le_refl _, rfl, fun h => ⟨h, rfl⟩⟩
  | j + 1, hj => by
    obtain ⟨i1, i2, i3⟩ := par_ps ok t L hL W hW i hi j (by omega)
    have hx := ok.tu j (by omega)
    rw [parL_succ T t L j (by rw [ok.lm]; omega), wkS]
    by_cases e : (tuA T j).t = t
    · rw [if_pos e]
      obtain ⟨t1, t2, t3⟩ := turn_ps (parL T t L j) (tuA T j) i (by rw [parL_len, hL]; omega)
      refine ⟨by omega, by rw [t2, i2], fun h => ?_⟩
      by_cases ht : tellB (tuA T j) t = true
      · rw [if_pos ht, getD_setB _ _ _ _ (by rw [wkS_len, hW]; omega)] at h
        by_cases ei : i = (tuA T j).who.toNat
        · rw [if_pos ei] at h; cases h
        · rw [if_neg ei] at h
          obtain ⟨h1, h2⟩ := i3 h
          exact ⟨h1, by rw [t3 (fun e => absurd e.symm ei), h2]⟩
      · rw [if_neg ht] at h
        obtain ⟨h1, h2⟩ := i3 h
        have hn : ¬ ((tuA T j).kind = 1 ∨ (tuA T j).kind = 2) := fun hk => ht (by
          unfold tellB
          rcases hk with hk | hk <;> simp [e, hk])
        exact ⟨h1, by rw [t3 (fun _ => hn), h2]⟩
    · rw [if_neg e]
      have ht : ¬ tellB (tuA T j) t = true := by unfold tellB; simp [e]
      rw [if_neg ht]
      exact ⟨i1, i2, i3⟩
/-- how often i has run -/
def cntI (r : List Int) (i : Int) : Int := ((r.filter fun x => x == i).length : Nat)
theorem cntI_snoc (r : List Int) (x i : Int) : cntI (r ++ [x]) i = cntI r i + if x = i then 1 else 0 := by
  unfold cntI
  rw [List.filter_append, List.length_append]
  by_cases e : x = i <;> simp [e]
theorem evL_par (l : List Rn) (T : List Tu) (t : Nat) : evL l T t = parL T t (stL l T t) T.length := by rw [evL, parL, List.take_length]
theorem runs_at {l : List Rn} {T : List Tu} {n m : Nat} (ok : WOk l T n m) (i : Nat) (hi : i < n) : ∀ t,
    (rnA (stL l T t) i).sh = (rnA l i).sh ∧ cntI (ranW l T t) i * (2520 / (rnA l i).sh) ≤ (rnA (stL l T t) i).ps ∧ ((wkA T n t).getD i false = false → (rnA (stL l T t) i).ps = cntI (ranW l T t) i * (2520 / (rnA l i).sh))
  | 0 => by
    rw [stL, rnA_zero _ _ (by rw [ok.ln]; exact hi)]
    exact ⟨rfl, by simp [ranW, cntI], fun _ => by simp [ranW, cntI]⟩
  | t + 1 => by
    obtain ⟨h1, h2, h3⟩ := runs_at ok i hi t
    have hp := par_ps ok t (stL l T t) (by rw [stL_len, ok.ln]) (wkA T n t) (wkA_len T n t) i hi m (Nat.le_refl _)
    have hb := besW_lt (evL l T t) l.length
    rw [show m = T.length from ok.lm.symm, ← evL_par] at hp
    rw [stL_succ, bumpW_nth _ _ (by rw [evL_len]; omega), ranW_succ, cntI_snoc, wkA]
    obtain ⟨p1, p2, p3⟩ := hp
    generalize besW (evL l T t) l.length = b at *
    by_cases e : (i : Int) = b
    · rw [if_pos e, if_pos e.symm]
      simp only
      rw [p2, h1]
      refine ⟨rfl, ?_, fun h => ?_⟩
      · rw [Int.add_mul]; omega
      · obtain ⟨q1, q2⟩ := p3 h
        have := h3 q1
        rw [Int.add_mul, q2, this]; omega
    · rw [if_neg e, if_neg (fun e2 => e e2.symm)]
      refine ⟨by rw [p2, h1], by rw [Int.add_zero]; omega, fun h => ?_⟩
      obtain ⟨q1, q2⟩ := p3 h
      rw [Int.add_zero, q2, h3 q1]
theorem thL_st (l : List Rn) (T : List Tu) : ∀ t, thL (stL l T (t + 1)) = thL (evL l T t) := fun t => by rw [stL_succ, thL_bump]
theorem thL_zero (l : List Rn) (T : List Tu) : thL (stL l T 0) = thL l := by
  unfold thL; rw [stL, zeroR, List.map_map]; rfl

/-! fronts -/
theorem evs_front (T : List Tu) (k t : Nat) (h : t < k) : evs (T.filter fun x => decide (x.t < (k : Int))) t = evs T t := by
  unfold evs
  rw [List.filter_filter]
  apply List.filter_congr
  intro x _
  by_cases e : x.t = (t : Int)
  · simp [e]; omega
  · simp [e]
theorem stL_front (l : List Rn) (T : List Tu) (k : Nat) : ∀ t, t ≤ k → stL l (T.filter fun x => decide (x.t < (k : Int))) t = stL l T t
  | 0, _ => rfl
  | t + 1, h => by
    have ih := stL_front l T k t (by omega)
    rw [stL_succ, stL_succ, evL, evL, ih, evs_front T k t (by omega)]
theorem ranW_front (l : List Rn) (T : List Tu) (k : Nat) : ranW l (T.filter fun x => decide (x.t < (k : Int))) k = ranW l T k := by
  unfold ranW
  apply List.map_congr_left
  intro t ht
  rw [List.mem_range] at ht
  rw [evL, evL, evs_front T k t ht, stL_front l T k t (by omega)]
theorem chkU_yes (n : Nat) (T : List Tu) (h1 : ∀ x ∈ T, badT n x = false) (h2 : T.Pairwise fun x y => x.t ≤ y.t) : ∀ j, j ≤ T.length → chkU n T j = 0
  | 0, _ => rfl
  | j + 1, hj => by
    rw [chkU, if_neg (by rw [chkU_yes n T h1 h2 j (by omega)]; simp), if_neg (by rw [h1 _ (tuA_mem T j (by omega))]; simp), if_neg]
    rintro ⟨h3, h4⟩
    have := List.pairwise_iff_getElem.1 h2 (j - 1) j (by omega) (by omega) (by omega)
    rw [show tuA T j = T[j] by simp [tuA, show j < T.length by omega], show tuA T (j - 1) = T[j - 1] by simp [tuA, show j - 1 < T.length by omega]] at h4
    omega
theorem chk_front {l : List Rn} {T : List Tu} (h : chkW l T = 0) (k : Int) : chkW l (T.filter fun x => decide (x.t < k)) = 0 := by
  have ok := chkW_ok h
  have hl := List.length_filter_le (fun x : Tu => decide (x.t < k)) T
  have n8 := ok.n8
  have m30 := ok.m30
  have hR : chkR l l.length = 0 := by
    unfold chkW at h
    rw [if_neg (by omega)] at h
    by_cases e : chkR l l.length ≠ 0
    · rw [if_pos e] at h; exact absurd h e
    · omega
  unfold chkW
  rw [if_neg (by omega), if_neg (by omega)]
  refine chkU_yes _ _ (fun x hx => ?_) ?_ _ (Nat.le_refl _)
  · have := ok.who x (List.mem_filter.1 hx).1
    unfold badT
    simp only [Bool.or_eq_false_iff, decide_eq_false_iff_not]
    omega
  · refine List.Pairwise.filter _ ?_
    rw [List.pairwise_iff_getElem]
    intro i j hi hj hij
    have := ok.sorted i (j - i) (by omega)
    rw [show i + (j - i) = j by omega, show tuA T j = T[j] by simp [tuA, hj], show tuA T i = T[i] by simp [tuA, hi]] at this
    exact this
end Go.Proofs.Ytooghdnlaonkaaa
namespace Go.Proofs.Ytooghdnlaonkaaa
open Go.RowKit

theorem Sa.litN (w : World) (cs : Array Value) (T : TypeId) (xs : List Value) (e : cs.toList = xs) : Sa (w.alloc (.cells cs T)) (some ⟨w.heap.size, 0, none⟩) xs := by
  subst e
  intro h0
  refine ⟨w.heap.size, 0, rfl, by simp, fun i hi => ?_⟩
  rw [cell_new]; simp
def wl2 : List Rn := [⟨1, 0, true, false, 0⟩, ⟨2, 0, true, false, 0⟩]
set_option maxRecDepth 100000 in
set_option maxHeartbeats 1000000 in
theorem warps_any (w : World) : Calls Try.prog 7 #[] w fun e w' => e = .returned (.bool true) ∧ Below w.heap.size w w' := by
  have q1 : ranW wl2 [] 3 = [0, 1, 1] := by decide +kernel
  have q2 : endW (stL wl2 [] 3) = [2520, 2520] := by decide +kernel
  have q3 : chkW wl2 [] = 0 := by decide +kernel
  have Q1 := Lib.hid q1; have Q2 := Lib.hid q2; have Q3 := Lib.hid q3
  clear q1 q2 q3
  go_enter Try.func7, Try.ntmps7
  go_wp2_with fail
  have hS := Sa.litN w #[.int .i64 1, .int .i64 0, .bool true, .bool false, .int .i64 2, .int .i64 0, .bool true, .bool false] 28 (ths wl2) rfl
  refine (warPlay_yes wl2 [] 2 0 3 _ _ _ _ _ hS (Sa.nil _ _) rfl rfl (by omega) Q3.out (by omega)).mono ?_; rintro e w1 ⟨ad, cp, ad', cp', rfl, _, _, hf⟩
  rw [Q1.out, Q2.out] at hf
  have HF := Lib.hid (((Fr.start w).alloc (.cells #[.int .i64 1, .int .i64 0, .bool true, .bool false, .int .i64 2, .int .i64 0, .bool true, .bool false] 28)).call hf)
  clear hS hf
  go_wp2_with fail
  have F3 := HF.out.lit [0, 1, 1] #[.int .i64 0, .int .i64 1, .int .i64 1] rfl 3 rfl (by omega) 3
  refine (slEqual [0, 1, 1] [0, 1, 1] 3 3 _ _ _ _ _ (F3.get 2 rfl) (F3.get 0 rfl) rfl rfl (by omega) (by omega)).mono ?_; rintro e w2 ⟨rfl, hf⟩
  have HF4 := Lib.hid (F3.keep hf.bel)
  rw [decide_eq_true (rfl : ([0, 1, 1] : List Int) = [0, 1, 1])]
  clear F3 hf
  go_wp2_with fail
  have F5 := HF4.out.lit [2520, 2520] #[.int .i64 2520, .int .i64 2520] rfl 2 rfl (by omega) 3
  refine (slEqual [2520, 2520] [2520, 2520] 2 2 _ _ _ _ _ (F5.get 2 rfl) (F5.get 0 rfl) rfl rfl (by omega) (by omega)).mono ?_; rintro e w3 ⟨rfl, hf⟩
  have HF6 := Lib.hid (F5.keep hf.bel)
  rw [decide_eq_true (rfl : ([2520, 2520] : List Int) = [2520, 2520])]
  clear F5 hf
  go_wp2_with fail
  go_ret
  exact ⟨rfl, HF6.out.bel⟩

theorem thrInfo : (Try.prog.info? 28).map (fun i => (i.zero, i.size, i.bytes)) = some (some (.agg #[.int .i64 0, .int .i64 0, .bool false, .bool false]), 4, 24) := by kernel_rfl
def thrL (z : List Int) : List Rn := z.map fun v => ⟨1 + v % 10, 0, true, false, 0⟩
theorem thrL_at (z : List Int) (i : Nat) (h : i < z.length) : rnA (thrL z) i = ⟨1 + nth z i % 10, 0, true, false, 0⟩ := by simp [rnA, thrL, h, nth]
def ThrSaid (z : List Int) (n : Nat) (w : World) (e : Ending) (w' : World) : Prop :=
  ∃ ad k cp, e = .returned (.slice ad k cp) ∧ k ≤ n ∧ (k = n ∨ k = 8) ∧ k ≤ 8 ∧ k ≤ cp ∧ FB w w' 28 ad (ths (thrL (z.take k))) []
end Go.Proofs.Ytooghdnlaonkaaa
/- What the frame of a law tells of a slice of structs of ints, bools and strings that came in. -/
namespace Go.Proofs.Ytooghdnlaonkaaa
open Go.RowKit Go.ChangeShapes Go.WideShapes Go.Deep

/-- a field of one cell -/
inductive FK
  | int | bool | str
def FK.desc : FK → TypeDesc
  | .int => .int .i64
  | .bool => .bool
  | .str => .string
def FK.fits : FK → Value → Prop
  | .int, v => ∃ n : Int, v = .int .i64 n
  | .bool, v => ∃ b : Bool, v = .bool b
  | .str, v => ∃ s : ByteArray, v = .string s ∧ s.size ≤ maxLen
section
variable {H : Type} {enc : TypeId × Value → H} {P : Program} {w : World} {base : Nat} {spare : Nat → Bool} {held : Bool}
theorem open_structs {t e : TypeId} {fs : Array Field} (ks : List FK) {fuel : Nat} {cs : List Value} {x : DataW H × List MemPlace} (ht : P.underlying t = some (.slice e)) (he : P.underlying e = some (.struct fs))
    (hone : oneCellFields P fs = true) (hC : P.cellsOf e = fs.size) (hks : ∀ (j : Nat) (k : FK), ks[j]? = some k → ∃ f : Field, fs[j]? = some f ∧ P.underlying f.type = some k.desc) (h : DataW.trod enc P w base spare held fuel t cs = some x) :
    cs = [.slice none 0 0] ∨
    ∃ (a : Addr) (len cap : Nat), cs = [.slice (some a) len cap] ∧ len ≤ cap ∧ cap ≤ maxLen ∧
      ∀ i, i < len → ∀ (j : Nat) (k : FK), ks[j]? = some k → ∃ v, w.cell? (a.add (i * fs.size + j)) = some v ∧ k.fits v := by
  rcases open_slice ht h with ⟨h0, _⟩ | ⟨a, len, cap, m, n, D, Pl, hcs, hb, hl, hm, hmm, hx, hi⟩
  · exact .inl h0
  · refine .inr ⟨a, len, cap, hcs, hl, hm, fun i him j k hk => ?_⟩
    obtain ⟨f, hj, hu⟩ := hks j k hk
    have hmi : i < m := by rw [hmm]; split <;> omega
    obtain ⟨cs', hc, ht'⟩ := hi i hmi
    rw [hC] at hc
    obtain ⟨ys, n', hn', hy, hlen, hyl, hf⟩ := DataW.trod_struct he ht'
    obtain ⟨_, hcl, hat⟩ := World.cells?_some hc
    obtain ⟨ho, hk'⟩ := hone_of hone j f hj
    have hjl : j < fs.size := (Array.getElem?_eq_some_iff.1 hj).1
    have hcell := hat j hjl
    have hv : cs'[j]? = some (cs'[j]'(by omega)) := List.getElem?_eq_getElem (by omega)
    have h1 := hf j f hj
    rw [ho, hk'] at h1
    have hone' : (cs'.drop j).take 1 = [cs'[j]'(by omega)] := by
      rw [List.drop_eq_getElem_cons (by omega)]
      rfl
    rw [hone'] at h1
    have hys : ys[j]? = some (ys[j]'(by omega)) := List.getElem?_eq_getElem (by omega)
    rw [hys] at h1
    refine ⟨cs'[j]'(by omega), by rw [← Go.Deep.add_add, hcell, hv], ?_⟩
    cases k with
    | int =>
      obtain ⟨z, hz, _, _⟩ := DataW.trod_int hu h1
      exact ⟨z, by simpa using hz⟩
    | bool =>
      obtain ⟨z, hz, _⟩ := DataW.trod_bool hu h1
      exact ⟨z, by simpa using hz⟩
    | str =>
      obtain ⟨z, hz, _, hs⟩ := DataW.trod_string hu h1
      exact ⟨z, by simpa using hz, hs⟩
end
/-- what the frame tells: a slice of structs that came in -/
def IsStr (ks : List FK) (w : World) (a : Option Addr) (len cap : Nat) : Prop :=
  len ≤ cap ∧ len ≤ maxLen ∧ ((a = none ∧ len = 0 ∧ cap = 0) ∨ ∃ x : Addr, a = some x ∧ ∀ i, i < len → ∀ (j : Nat) (k : FK), ks[j]? = some k → ∃ v, w.cell? (x.add (i * ks.length + j)) = some v ∧ k.fits v)
/-- rows of structs, from their cells -/
theorem sa_structs {α : Type} (f : α → List Value) (c : Nat) (hf : ∀ x, (f x).length = c) (hc : 0 < c) (d : α) {w : World} {a : Addr} {len : Nat} (h : ∀ i, i < len → ∃ x : α, ∀ j, j < c → w.cell? (a.add (i * c + j)) = (f x)[j]?) :
    ∃ zs : List α, zs.length = len ∧ (0 < len → ∃ b off, a = ⟨b, off, none⟩) ∧ Sa w (some a) (zs.flatMap f) := by
  have ex : ∀ i, ∃ x : α, i < len → ∀ j, j < c → w.cell? (a.add (i * c + j)) = (f x)[j]? := fun i => by
    by_cases hi : i < len
    · obtain ⟨x, hx⟩ := h i hi
      exact ⟨x, fun _ => hx⟩
    · exact ⟨d, fun h => absurd h hi⟩
  obtain ⟨F, hF⟩ : ∃ F : Nat → α, ∀ i, i < len → ∀ j, j < c → w.cell? (a.add (i * c + j)) = (f (F i))[j]? := ⟨fun i => Classical.choose (ex i), fun i hi => Classical.choose_spec (ex i) hi⟩
  have hlen : ∀ n, ((List.range n).map F).flatMap f = (List.range n).flatMap fun i => f (F i) := fun n => by rw [List.flatMap_map]
  have hsp : 0 < len → ∃ b off, a = ⟨b, off, none⟩ := fun h0 => by
    have h1 := hF 0 h0 0 hc
    have h2 : (f (F 0))[0]? ≠ none := by rw [List.getElem?_eq_getElem (by rw [hf]; exact hc)]; simp
    obtain ⟨b, off, spot⟩ := a
    have hs : spot = none := by
      cases spot with
      | none => rfl
      | some s =>
        exfalso
        rw [Nat.zero_mul, Nat.add_zero] at h1
        unfold World.cell? at h1
        simp only [Addr.add, if_true] at h1
        split at h1
        · simp at h1; have := hf (F 0); rw [h1] at this; simp at this; omega
        · exact h2 h1.symm
    exact ⟨b, off, by rw [hs]⟩
  refine ⟨(List.range len).map F, by simp, hsp, fun h0 => ?_⟩
  have hl : (((List.range len).map F).flatMap f).length = len * c := by
    have : ∀ l : List α, (l.flatMap f).length = l.length * c := fun l => by
      induction l with
      | nil => simp
      | cons x r ih => rw [List.flatMap_cons, List.length_append, hf, ih, List.length_cons, Nat.add_mul]; omega
    rw [this]; simp
  rw [hl] at h0
  have hl0 : 0 < len := Nat.pos_of_mul_pos_right h0
  obtain ⟨b, off, rfl⟩ := hsp hl0
  have hget : ∀ (l : List α) (i j : Nat), i < l.length → j < c → (l.flatMap f)[i * c + j]? = (f (l.getD i d))[j]? := by
    intro l
    induction l with
    | nil => intro i j h; simp at h
    | cons x r ih =>
      intro i j h hj
      cases i with
      | zero => rw [List.flatMap_cons, Nat.zero_mul, Nat.zero_add, List.getElem?_append_left (by rw [hf]; exact hj)]; rfl
      | succ i =>
        rw [List.flatMap_cons, List.getElem?_append_right (by rw [hf, Nat.add_mul]; omega), hf, show (i + 1) * c + j - c = i * c + j by rw [Nat.add_mul]; omega, ih i j (by simpa using h) hj]
        simp
  refine ⟨b, off, rfl, ?_, fun k hk => ?_⟩
  · have h1 := hF 0 hl0 0 hc
    rw [List.getElem?_eq_getElem (by rw [hf]; exact hc)] at h1
    rw [Nat.zero_mul, Nat.add_zero] at h1
    unfold World.cell? at h1
    simp only [Addr.add, if_true] at h1
    split at h1
    · next hq => exact (Array.getElem?_eq_some_iff.1 hq).1
    · cases h1
  · rw [hl] at hk
    have hdm := Nat.div_add_mod k c
    have hki : k / c < len := Nat.div_lt_of_lt_mul (by rw [Nat.mul_comm]; exact hk)
    have hkj := Nat.mod_lt k hc
    have e : k = k / c * c + k % c := by rw [Nat.mul_comm]; omega
    have h1 := hF (k / c) hki (k % c) hkj
    rw [← e] at h1
    rw [show ((⟨b, off, none⟩ : Addr).add k) = ⟨b, off + k, none⟩ from by simp [Addr.add]] at h1
    rw [h1]
    conv => rhs; rw [e]
    rw [hget _ _ _ (by simpa using hki) hkj]
    congr 2
    simp [hki]
end Go.Proofs.Ytooghdnlaonkaaa
