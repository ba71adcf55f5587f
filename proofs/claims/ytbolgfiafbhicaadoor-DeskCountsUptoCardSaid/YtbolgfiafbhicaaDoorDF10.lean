/- Several of my texts in one: PermM. -/
import Derived.Test.YtbolgfiafbhicaaDoorDF08
/- Plain laws of orders: deals, lots, codes. -/
namespace Go.Proofs.YtbolgfiafbhicaaDoor
open Go.RowKit

structure IsP (p : List Int) : Prop where
  bd : ∀ i, i < p.length → 0 ≤ nth p i ∧ nth p i < p.length
  inj : ∀ i j, i < p.length → j < p.length → nth p i = nth p j → i = j
theorem IsP.nil : IsP [] := ⟨fun i h => by simp at h, fun i j h => by simp at h⟩
theorem isP_lit (p : List Int) (h1 : ∀ i, i < p.length → 0 ≤ nth p i ∧ nth p i < p.length) (h2 : ∀ i, i < p.length → ∀ j, j < p.length → nth p i = nth p j → i = j) : IsP p := ⟨h1, fun i j hi hj e => h2 i hi j hj e⟩
theorem IsP.snoc {o : List Int} (h : IsP o) : IsP (o ++ [(o.length : Int)]) := by
  refine ⟨fun i hi => ?_, fun i j hi hj e => ?_⟩
  · rw [List.length_append, List.length_singleton] at hi ⊢
    rw [nth_snoc]
    by_cases e : i = o.length
    · rw [if_pos e]; omega
    · rw [if_neg e]; have := h.bd i (by omega); omega
  · rw [List.length_append, List.length_singleton] at hi hj
    rw [nth_snoc, nth_snoc] at e
    by_cases e1 : i = o.length
    · by_cases e2 : j = o.length
      · omega
      · rw [if_pos e1, if_neg e2] at e; have := h.bd j (by omega); omega
    · by_cases e2 : j = o.length
      · rw [if_neg e1, if_pos e2] at e; have := h.bd i (by omega); omega
      · rw [if_neg e1, if_neg e2] at e; exact h.inj i j (by omega) (by omega) e
def swp (p : List Int) (a b : Nat) : List Int := (p.set a (nth p b)).set b (nth p a)
theorem swp_len (p : List Int) (a b : Nat) : (swp p a b).length = p.length := by simp [swp]
theorem swp_nth (p : List Int) (a b i : Nat) (ha : a < p.length) (hb : b < p.length) : nth (swp p a b) i = if i = b then nth p a else if i = a then nth p b else nth p i := by
  unfold swp
  rw [nth_set _ _ _ _ (by simpa using hb), nth_set _ _ _ _ ha]
theorem IsP.swp {p : List Int} (h : IsP p) {a b : Nat} (ha : a < p.length) (hb : b < p.length) : IsP (swp p a b) := by
  have n := fun i => swp_nth p a b i ha hb
  refine ⟨fun i hi => ?_, fun i j hi hj e => ?_⟩
  · rw [swp_len] at hi ⊢
    rw [n]; split
    · exact h.bd a ha
    · split
      · exact h.bd b hb
      · exact h.bd i hi
  · rw [swp_len] at hi hj
    rw [n, n] at e
    have key : (if i = b then a else if i = a then b else i) = (if j = b then a else if j = a then b else j) := by
      refine h.inj _ _ ?_ ?_ ?_
      · split <;> (try split) <;> omega
      · split <;> (try split) <;> omega
      · have f : ∀ k, nth p (if k = b then a else if k = a then b else k) = (if k = b then nth p a else if k = a then nth p b else nth p k) := fun k => by
          split
          · rfl
          · split <;> rfl
        rw [f, f]; exact e
    split at key <;> split at key <;> (try split at key) <;> (try split at key) <;> omega
/-- a new last number i, and its place changed with x -/
def sw (o : List Int) (i x : Nat) : List Int := ((o ++ [(i : Int)]).set i (nth (o ++ [(i : Int)]) x)).set x i
theorem sw_swp (o : List Int) (x : Nat) : sw o o.length x = swp (o ++ [(o.length : Int)]) o.length x := by
  unfold sw swp
  rw [nth_snoc o _ o.length, if_pos rfl]
theorem sw_len (o : List Int) (x : Nat) : (sw o o.length x).length = o.length + 1 := by rw [sw_swp, swp_len]; simp
theorem sw_nth (o : List Int) (x i : Nat) (hx : x ≤ o.length) : nth (sw o o.length x) i = if i = x then (o.length : Int) else if i = o.length then nth o x else nth o i := by
  rw [sw_swp, swp_nth _ _ _ _ (by simp) (by simp; omega), nth_snoc, nth_snoc, nth_snoc, if_pos rfl]
  by_cases e1 : i = x
  · rw [if_pos e1, if_pos e1]
  · rw [if_neg e1, if_neg e1]
    by_cases e2 : i = o.length
    · rw [if_pos e2, if_pos e2]
      by_cases e3 : x = o.length
      · omega
      · rw [if_neg e3]
    · rw [if_neg e2, if_neg e2, if_neg e2]
theorem IsP.sw {o : List Int} (h : IsP o) {x : Nat} (hx : x ≤ o.length) : IsP (sw o o.length x) := by
  rw [sw_swp]; exact h.snoc.swp (by simp) (by simp; omega)
/-- right lots -/
def LotOk (l : List Int) : Prop := ∀ i, i < l.length → 0 ≤ nth l i ∧ nth l i ≤ i
def dealK (l : List Int) : Nat → List Int
  | 0 => []
  | i + 1 => sw (dealK l i) i (nth l i).toNat
theorem dealK_ok (l : List Int) (h : LotOk l) : ∀ i, i ≤ l.length → (dealK l i).length = i ∧ IsP (dealK l i)
  | 0, _ => ⟨rfl, IsP.nil⟩
  | i + 1, hi => by
    obtain ⟨h1, h2⟩ := dealK_ok l h i (by omega)
    have := h i (by omega)
    have e := sw_len (dealK l i) (nth l i).toNat
    have f := h2.sw (x := (nth l i).toNat) (by omega)
    rw [h1] at e f
    rw [dealK]
    exact ⟨e, f⟩
def dealL (l : List Int) : List Int := dealK l l.length
theorem dealL_ok (l : List Int) (h : LotOk l) : (dealL l).length = l.length ∧ IsP (dealL l) := dealK_ok l h l.length (Nat.le_refl _)
theorem dealK_congr (l m : List Int) : ∀ i, (∀ j, j < i → nth l j = nth m j) → dealK l i = dealK m i
  | 0, _ => rfl
  | i + 1, h => by rw [dealK, dealK, dealK_congr l m i (fun j hj => h j (by omega)), h i (by omega)]
/-- the step of shuffle.Deal -/
theorem deal_step (o : List Int) (m x : Nat) (hx : x ≤ o.length) :
    ((o ++ List.replicate (m + 1) 0).set o.length (nth (o ++ List.replicate (m + 1) 0) x)).set x (o.length : Int) = sw o o.length x ++ List.replicate m 0 := by
  have na : ∀ (a b : List Int) (i : Nat), nth (a ++ b) i = if i < a.length then nth a i else nth b (i - a.length) := fun a b i => by
    unfold nth
    rw [List.getD_eq_getElem?_getD, List.getD_eq_getElem?_getD, List.getD_eq_getElem?_getD, List.getElem?_append]
    split <;> rfl
  refine ext_nth (by simp [sw_len]; omega) (fun i hi => ?_)
  simp only [List.length_set, List.length_append, List.length_replicate] at hi
  rw [nth_set _ _ _ _ (by simp; omega), nth_set _ _ _ _ (by simp), na (sw o o.length x), sw_len]
  by_cases e1 : i = x
  · rw [if_pos e1, if_pos (by omega), sw_nth _ _ _ hx, if_pos e1]
  · rw [if_neg e1]
    by_cases e2 : i = o.length
    · rw [if_pos e2, if_pos (by omega), sw_nth _ _ _ hx, if_neg e1, if_pos e2, na, if_pos (by omega)]
    · rw [if_neg e2, na]
      by_cases e3 : i < o.length
      · rw [if_pos e3, if_pos (by omega), sw_nth _ _ _ hx, if_neg e1, if_neg e2]
      · rw [if_neg e3, if_neg (by omega), nth_rep _ _ _ (by omega), nth_rep _ _ _ (by omega)]

/-! lots of an order -/
def idxL (q : List Int) (v : Int) : Nat := q.findIdx (· == v)
theorem idxL_of {q : List Int} (h : IsP q) (x : Nat) (v : Int) (hx : x < q.length) (e : nth q x = v) : idxL q v = x := by
  have hm : ∃ y ∈ q, (y == v) = true := ⟨nth q x, nth_mem q x hx, by simp [e]⟩
  have h1 : idxL q v < q.length := List.findIdx_lt_length.2 hm
  have h2 : (q[idxL q v]'h1 == v) = true := List.findIdx_getElem (w := h1)
  refine h.inj _ _ h1 hx ?_
  rw [e]
  have : nth q (idxL q v) = q[idxL q v]'h1 := by simp [nth, h1]
  rw [this]; simpa using h2
def unsw (q : List Int) (i : Nat) : List Int := (q.set (idxL q i) (nth q i)).take i
theorem unsw_sw (o : List Int) (h : IsP o) (x : Nat) (hx : x ≤ o.length) : idxL (sw o o.length x) o.length = x ∧ unsw (sw o o.length x) o.length = o := by
  have e := idxL_of (h.sw hx) x o.length (by rw [sw_len]; omega) (by rw [sw_nth _ _ _ hx, if_pos rfl])
  refine ⟨e, ?_⟩
  unfold unsw
  rw [e]
  refine ext_nth (by rw [List.length_take, List.length_set, sw_len]; omega) (fun i hi => ?_)
  rw [List.length_take, List.length_set, sw_len] at hi
  rw [nth_take _ _ _ (by omega), nth_set _ _ _ _ (by rw [sw_len]; omega), sw_nth _ _ _ hx, sw_nth _ _ _ hx]
  by_cases e1 : i = x
  · subst e1
    rw [if_pos rfl, if_neg (by omega), if_pos rfl]
  · rw [if_neg e1, if_neg e1, if_neg (by omega)]
theorem isP_has {q : List Int} : ∀ {n : Nat}, q.length = n → IsP q → ∀ v : Nat, v < n → ∃ x, x < n ∧ nth q x = v := by
  intro n hn h v hv
  -- pigeonhole
  have pig : ∀ (n : Nat) (f : Nat → Nat), (∀ i, i < n → f i < n) → (∀ i j, i < n → j < n → f i = f j → i = j) → ∀ v, v < n → ∃ x, x < n ∧ f x = v := by
    intro n
    induction n with
    | zero => intro f _ _ v hv; omega
    | succ n ih =>
      intro f hb hi v hv
      by_cases hn : f n = v
      · exact ⟨n, by omega, hn⟩
      · -- g: as f, but what goes to n goes where n goes
        by_cases hv2 : v = n
        · subst hv2
          rcases Classical.em (∃ x, x < v + 1 ∧ f x = v) with h | h
          · exact h
          · exfalso
            have hlt : ∀ i, i < v + 1 → f i < v := fun i hi' => by
              have := hb i hi'
              have : f i ≠ v := fun e => h ⟨i, hi', e⟩
              omega
            obtain ⟨x, hx, e⟩ := ih f (fun i hi' => hlt i (by omega)) (fun i j h1 h2 => hi i j (by omega) (by omega)) (f v) (hlt v (by omega))
            have := hi x v (by omega) (by omega) e
            omega
        · rcases Classical.em (∃ x, x < n ∧ f x = n) with ⟨y, hy, ey⟩ | h
          · have hfn : f n < n := by
              have := hb n (by omega)
              have : f n ≠ n := fun e => by have := hi y n (by omega) (by omega) (by rw [ey, e]); omega
              omega
            obtain ⟨x, hx, e⟩ := ih (fun i => if i = y then f n else f i) (fun i hi' => by
              show (if i = y then f n else f i) < n
              split
              · exact hfn
              · next hne =>
                have := hb i (by omega)
                have : f i ≠ n := fun e => hne (hi i y (by omega) (by omega) (by rw [e, ey]))
                omega) (fun i j h1 h2 e => by
              by_cases hi1 : i = y <;> by_cases hj1 : j = y
              · omega
              · rw [if_pos hi1, if_neg hj1] at e; have := hi n j (by omega) (by omega) e; omega
              · rw [if_neg hi1, if_pos hj1] at e; have := hi i n (by omega) (by omega) e; omega
              · rw [if_neg hi1, if_neg hj1] at e; exact hi i j (by omega) (by omega) e) v (by omega)
            split at e
            · exact ⟨n, by omega, e⟩
            · exact ⟨x, by omega, e⟩
          · obtain ⟨x, hx, e⟩ := ih f (fun i hi' => by
              have := hb i (by omega)
              have : f i ≠ n := fun e => h ⟨i, hi', e⟩
              omega) (fun i j h1 h2 => hi i j (by omega) (by omega)) v (by omega)
            exact ⟨x, by omega, e⟩
  obtain ⟨x, hx, e⟩ := pig n (fun i => (nth q i).toNat) (fun i hi => by have := h.bd i (by omega); show (nth q i).toNat < n; omega) (fun i j hi hj e => by
    have h1 := h.bd i (by omega)
    have h2 := h.bd j (by omega)
    exact h.inj i j (by omega) (by omega) (by omega)) v hv
  have := h.bd x (by omega)
  exact ⟨x, hx, by omega⟩
theorem sw_unsw (q : List Int) (i : Nat) (hl : q.length = i + 1) (h : IsP q) : idxL q i ≤ i ∧ nth q (idxL q i) = i ∧ (unsw q i).length = i ∧ IsP (unsw q i) ∧ sw (unsw q i) i (idxL q i) = q := by
  obtain ⟨x, hx, e⟩ := isP_has hl h i (by omega)
  have ei := idxL_of h x i (by omega) e
  have hlen : (unsw q i).length = i := by unfold unsw; rw [List.length_take, List.length_set, hl]; omega
  have hn : ∀ j, j < i → nth (unsw q i) j = if j = x then nth q i else nth q j := fun j hj => by
    unfold unsw
    rw [nth_take _ _ _ hj, ei, nth_set _ _ _ _ (by omega)]
  have hli : ∀ j, j < i → j ≠ x → nth q j < i := fun j hj hne => by
    have := h.bd j (by omega)
    rw [hl] at this
    rcases Int.lt_or_le (nth q j) i with h1 | h1
    · exact h1
    · exact absurd (h.inj j x (by omega) (by omega) (by omega)) hne
  have hqi : x ≠ i → nth q i < i := fun hne => by
    have := h.bd i (by omega)
    rw [hl] at this
    rcases Int.lt_or_le (nth q i) i with h1 | h1
    · exact h1
    · exact absurd (h.inj i x (by omega) (by omega) (by omega)).symm hne
  refine ⟨by omega, by rw [ei]; exact e, hlen, ⟨fun j hj => ?_, fun j k hj hk he => ?_⟩, ?_⟩
  · rw [hlen] at hj ⊢
    rw [hn j hj]
    split
    · next he => exact ⟨(h.bd i (by omega)).1, hqi (by omega)⟩
    · next he => exact ⟨(h.bd j (by omega)).1, hli j hj he⟩
  · rw [hlen] at hj hk
    rw [hn j hj, hn k hk] at he
    by_cases e1 : j = x <;> by_cases e2 : k = x
    · omega
    · rw [if_pos e1, if_neg e2] at he; have := h.inj i k (by omega) (by omega) he; omega
    · rw [if_neg e1, if_pos e2] at he; have := h.inj j i (by omega) (by omega) he; omega
    · rw [if_neg e1, if_neg e2] at he; exact h.inj j k (by omega) (by omega) he
  · have e0 : sw (unsw q i) i (idxL q i) = sw (unsw q i) (unsw q i).length x := by rw [hlen, ei]
    rw [e0]
    refine ext_nth (by rw [sw_len, hlen, hl]) (fun j hj => ?_)
    rw [sw_len, hlen] at hj
    rw [sw_nth _ _ _ (by omega), hlen]
    by_cases e1 : j = x
    · subst e1; rw [if_pos rfl, e]
    · rw [if_neg e1]
      by_cases e2 : j = i
      · subst e2
        rw [if_pos rfl, hn x (by omega), if_pos rfl]
      · rw [if_neg e2, hn j (by omega), if_neg e1]
def lotsD : Nat → List Int → List Int
  | 0, _ => []
  | i + 1, q => lotsD i (unsw q i) ++ [((idxL q i : Nat) : Int)]
theorem lotsD_len : ∀ i q, (lotsD i q).length = i
  | 0, _ => rfl
  | i + 1, q => by rw [lotsD, List.length_append, lotsD_len i]; rfl
theorem lotsD_ok : ∀ i q, q.length = i → IsP q → LotOk (lotsD i q)
  | 0, _, _, _ => fun j hj => by simp [lotsD] at hj
  | i + 1, q, hl, h => by
    obtain ⟨a1, a2, a3, a4, a5⟩ := sw_unsw q i hl h
    intro j hj
    rw [lotsD_len] at hj
    rw [lotsD, nth_snoc, lotsD_len]
    by_cases e : j = i
    · rw [if_pos e]; omega
    · rw [if_neg e]; exact lotsD_ok i _ a3 a4 j (by rw [lotsD_len]; omega)
theorem deal_lots : ∀ i q, q.length = i → IsP q → dealK (lotsD i q) i = q
  | 0, q, hl, _ => by rw [dealK, List.eq_nil_of_length_eq_zero hl]
  | i + 1, q, hl, h => by
    obtain ⟨a1, a2, a3, a4, a5⟩ := sw_unsw q i hl h
    rw [dealK, lotsD, nth_snoc, lotsD_len, if_pos rfl, Int.toNat_natCast]
    rw [dealK_congr _ (lotsD i (unsw q i)) i (fun j hj => by rw [nth_snoc, lotsD_len, if_neg (by omega)]), deal_lots i _ a3 a4]
    exact a5
theorem lots_deal (l : List Int) (h : LotOk l) : ∀ i, i ≤ l.length → lotsD i (dealK l i) = l.take i
  | 0, _ => by rw [lotsD, List.take_zero]
  | i + 1, hi => by
    obtain ⟨h1, h2⟩ := dealK_ok l h i (by omega)
    have hx := h i (by omega)
    obtain ⟨u1, u2⟩ := unsw_sw (dealK l i) h2 (nth l i).toNat (by omega)
    rw [h1] at u1 u2
    rw [lotsD, dealK, u1, u2, lots_deal l h i (by omega), take_nth l i (by omega), Int.toNat_of_nonneg hx.1]
end Go.Proofs.YtbolgfiafbhicaaDoor
