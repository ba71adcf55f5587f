/- Plain laws of the clocks of warp.Play: bounds, runs, fronts. -/
import Derived.Test.YtgblmbhbbjgdiaaWarM2
namespace Go.Proofs.Ytgblmbhbbjgdiaa
open Go.RowKit

theorem bumpW_nth (L : List Rn) (b : Int) (hb : b < L.length) (i : Nat) : rnA (bumpW L b) i = if (i : Int) = b then { rnA L i with ps := (rnA L i).ps + 2520 / (rnA L i).sh } else rnA L i := by
  unfold bumpW
  by_cases h : 0 ≤ b
  · rw [if_pos h, rnA_set _ _ _ _ (by omega)]
    by_cases e : (i : Int) = b
    · rw [if_pos (by omega), if_pos e, show b.toNat = i by omega]
    · rw [if_neg (by omega), if_neg e]
  · rw [if_neg h, if_neg (by omega)]
theorem evL_nil (l : List Rn) (t : Nat) : evL l [] t = stL l [] t := rfl
/-- without turns a runner stays as it was, but for its clock -/
theorem stL_same (l : List Rn) : ∀ (t i : Nat), i < l.length → ∃ p, rnA (stL l [] t) i = { rnA l i with ps := p }
  | 0, i, hi => ⟨0, rnA_zero l i hi⟩
  | t + 1, i, hi => by
    obtain ⟨p, hp⟩ := stL_same l t i hi
    have hb := besW_lt (stL l [] t) l.length
    rw [stL_succ, evL_nil, bumpW_nth _ _ (by rw [stL_len]; omega), hp]
    split
    · exact ⟨_, rfl⟩
    · exact ⟨_, rfl⟩
def mayW (r : Rn) : Int := 2520 / r.sh + if r.ah = true then r.wa else 0
theorem bound_at {l : List Rn} {n : Nat} (ok : WOk l [] n 0) (ht : ∀ i, i < n → (rnA l i).th = true) : ∀ t i k, i < n → k < n → (rnA (stL l [] t) i).ps - (rnA (stL l [] t) k).ps ≤ mayW (rnA l i)
  | 0, i, k, hi, hk => by
    have h1 := ok.rn i hi
    have h2 := share_div _ h1.1 h1.2.1
    rw [stL, rnA_zero _ _ (by rw [ok.ln]; exact hi), rnA_zero _ _ (by rw [ok.ln]; exact hk)]
    unfold mayW
    simp only
    split <;> omega
  | t + 1, i, k, hi, hk => by
    have ih := bound_at ok ht t
    have hb := besW_lt (stL l [] t) l.length
    have hbb := besW_best (stL l [] t) l.length
    have hs := stL_same l t
    rw [ok.ln] at hb hbb hs
    rw [stL_succ, evL_nil, ok.ln, bumpW_nth _ _ (by rw [stL_len, ok.ln]; omega), bumpW_nth _ _ (by rw [stL_len, ok.ln]; omega)]
    obtain ⟨pi, hpi⟩ := hs i hi
    obtain ⟨pk, hpk⟩ := hs k hk
    have ih1 := ih i k hi hk
    have hi1 := ok.rn i hi
    have hk1 := ok.rn k hk
    have si := share_div _ hi1.1 hi1.2.1
    have sk := share_div _ hk1.1 hk1.2.1
    rw [hpi, hpk] at ih1 ⊢
    generalize besW (stL l [] t) n = b at *
    by_cases ei : (i : Int) = b
    · rw [if_pos ei]
      by_cases ek : (k : Int) = b
      · have : i = k := by omega
        subst this
        have : pi = pk := by rw [hpi] at hpk; exact (Rn.mk.inj hpk).2.2.2.2
        subst this
        rw [if_pos ek]
        unfold mayW
        simp only
        split <;> omega
      · rw [if_neg ek]
        have h3 := (hbb (by omega)).2 k hk (by rw [hpk]; exact ht k hk)
        rw [show b.toNat = i by omega, hpi, hpk] at h3
        unfold eW at h3
        unfold mayW
        simp only at h3 ⊢
        split at h3 <;> split at h3 <;> simp_all <;> omega
    · rw [if_neg ei]
      by_cases ek : (k : Int) = b
      · rw [if_pos ek]
        simp only at ih1 ⊢
        omega
      · rw [if_neg ek]; exact ih1

/-! who runs -/
def thL (L : List Rn) : List Bool := L.map Rn.th
theorem thL_bump (L : List Rn) (b : Int) : thL (bumpW L b) = thL L := by
  unfold bumpW
  split
  · unfold thL
    apply List.ext_getElem
    · simp
    · intro i h1 h2
      simp only [List.length_map, List.length_set] at h1
      rw [List.getElem_map, List.getElem_map, List.getElem_set]
      split
      · next e => subst e; simp [rnA, h1]
      · rfl
  · rfl
def setB (x : Tu) (b : List Bool) : List Bool := if x.kind = 1 then b.set x.who.toNat false else if x.kind = 2 then b.set x.who.toNat true else b
theorem map_set_th (L : List Rn) (j : Nat) (r : Rn) : (L.set j r).map Rn.th = (L.map Rn.th).set j r.th := List.map_set
theorem set_self_th (L : List Rn) (j : Nat) (b : Bool) (h : (rnA L j).th = b) (hj : j < L.length) : (L.map Rn.th).set j b = L.map Rn.th := by
  apply List.ext_getElem
  · simp
  · intro i h1 h2
    rw [List.getElem_set]
    split
    · next e => subst e; simp [rnA, hj] at h; simp [h]
    · rfl
theorem thL_turn (L : List Rn) (x : Tu) (hx : x.who.toNat < L.length) : thL (turnR L x) = setB x (thL L) := by
  unfold turnR setB thL
  by_cases h1 : x.kind = 1
  · rw [if_pos h1, if_pos h1, map_set_th]
  · rw [if_neg h1, if_neg h1]
    by_cases h2 : x.kind = 2
    · rw [if_pos h2, if_pos h2]
      by_cases h3 : (rnA L x.who.toNat).th = true
      · rw [if_pos h3, set_self_th L _ true h3 hx]
      · rw [if_neg h3, map_set_th]
    · rw [if_neg h2, if_neg h2]
      split
      · rw [map_set_th]; exact set_self_th L _ _ rfl hx
      · split
        · rw [map_set_th]; exact set_self_th L _ _ rfl hx
        · rfl
def tellB (x : Tu) (t : Nat) : Bool := decide (x.t = t) && (decide (x.kind = 1) || decide (x.kind = 2))
/-- the law's own rows behind j turns -/
def thS (T : List Tu) (t : Nat) (b : List Bool) : Nat → List Bool
  | 0 => b
  | j + 1 => if tellB (tuA T j) t = true then (thS T t b j).set (tuA T j).who.toNat (decide ((tuA T j).kind = 2)) else thS T t b j
def wkS (T : List Tu) (t : Nat) (b : List Bool) : Nat → List Bool
  | 0 => b
  | j + 1 => if tellB (tuA T j) t = true then (wkS T t b j).set (tuA T j).who.toNat true else wkS T t b j
theorem thS_len (T : List Tu) (t : Nat) (b : List Bool) : ∀ j, (thS T t b j).length = b.length
  | 0 => rfl
  | j + 1 => by rw [thS]; split <;> simp [thS_len T t b j]
theorem wkS_len (T : List Tu) (t : Nat) (b : List Bool) : ∀ j, (wkS T t b j).length = b.length
  | 0 => rfl
  | j + 1 => by rw [wkS]; split <;> simp [wkS_len T t b j]
def parL (T : List Tu) (t : Nat) (L : List Rn) (j : Nat) : List Rn := (evs (T.take j) t).foldl turnR L
theorem parL_len (T : List Tu) (t : Nat) (L : List Rn) (j : Nat) : (parL T t L j).length = L.length := fold_len _ _
theorem parL_succ (T : List Tu) (t : Nat) (L : List Rn) (j : Nat) (h : j < T.length) : parL T t L (j + 1) = if (tuA T j).t = t then turnR (parL T t L j) (tuA T j) else parL T t L j := by
  unfold parL evs
  rw [tuA_take T j h, List.filter_append, List.foldl_append]
  by_cases e : (tuA T j).t = t
  · rw [if_pos e]; simp [e]
  · rw [if_neg e]; simp [e]
theorem thS_is {l : List Rn} {T : List Tu} {n m : Nat} (ok : WOk l T n m) (t : Nat) (L : List Rn) (hL : L.length = n) : ∀ j, j ≤ m → thS T t (thL L) j = thL (parL T t L j)
  | 0, _ => rfl
  | j + 1, hj => by
    have ih := thS_is ok t L hL j (by omega)
    have hx := ok.tu j (by omega)
    rw [thS, ih, parL_succ T t L j (by rw [ok.lm]; omega)]
    unfold tellB
    by_cases e : (tuA T j).t = t
    · rw [if_pos e, thL_turn _ _ (by rw [parL_len, hL]; omega)]
      unfold setB
      have hk : (tuA T j).kind = 1 ∨ (tuA T j).kind = 2 ∨ (tuA T j).kind = 3 ∨ (tuA T j).kind = 4 := by omega
      rcases hk with k | k | k | k <;> simp [e, k]
    · rw [if_neg e]; simp [e]
def wkA (T : List Tu) (n : Nat) : Nat → List Bool
  | 0 => List.replicate n false
  | t + 1 => wkS T t (wkA T n t) T.length
theorem wkA_len (T : List Tu) (n : Nat) : ∀ t, (wkA T n t).length = n
  | 0 => by simp [wkA]
  | t + 1 => by rw [wkA, wkS_len, wkA_len T n t]
theorem getD_setB (b : List Bool) (i j : Nat) (x : Bool) (h : i < b.length) : (b.set i x).getD j false = if j = i then x else b.getD j false := getD_set b i j x false h
theorem turn_ps (L : List Rn) (x : Tu) (i : Nat) (hx : x.who.toNat < L.length) : (rnA L i).ps ≤ (rnA (turnR L x) i).ps ∧ (rnA (turnR L x) i).sh = (rnA L i).sh ∧ ((x.who.toNat = i → ¬ (x.kind = 1 ∨ x.kind = 2)) → (rnA (turnR L x) i).ps = (rnA L i).ps) := by
  unfold turnR
  by_cases h1 : x.kind = 1
  · rw [if_pos h1, rnA_set _ _ _ _ hx]
    by_cases e : i = x.who.toNat
    · subst e; rw [if_pos rfl]; exact ⟨Int.le_refl _, rfl, fun _ => rfl⟩
    · rw [if_neg e]; exact ⟨Int.le_refl _, rfl, fun _ => rfl⟩
  · rw [if_neg h1]
    by_cases h2 : x.kind = 2
    · rw [if_pos h2]
      by_cases h3 : (rnA L x.who.toNat).th = true
      · rw [if_pos h3]; exact ⟨Int.le_refl _, rfl, fun _ => rfl⟩
      · rw [if_neg h3, rnA_set _ _ _ _ hx]
        by_cases e : i = x.who.toNat
        · subst e; rw [if_pos rfl]
          refine ⟨?_, rfl, fun h => absurd (.inr h2) (h rfl)⟩
          simp only
          split <;> omega
        · rw [if_neg e]; exact ⟨Int.le_refl _, rfl, fun _ => rfl⟩
    · rw [if_neg h2]
      split
      · rw [rnA_set _ _ _ _ hx]
        by_cases e : i = x.who.toNat
        · subst e; rw [if_pos rfl]; exact ⟨Int.le_refl _, rfl, fun _ => rfl⟩
        · rw [if_neg e]; exact ⟨Int.le_refl _, rfl, fun _ => rfl⟩
      · split
        · rw [rnA_set _ _ _ _ hx]
          by_cases e : i = x.who.toNat
          · subst e; rw [if_pos rfl]; exact ⟨Int.le_refl _, rfl, fun _ => rfl⟩
          · rw [if_neg e]; exact ⟨Int.le_refl _, rfl, fun _ => rfl⟩
        · exact ⟨Int.le_refl _, rfl, fun _ => rfl⟩
theorem par_ps {l : List Rn} {T : List Tu} {n m : Nat} (ok : WOk l T n m) (t : Nat) (L : List Rn) (hL : L.length = n) (W : List Bool) (hW : W.length = n) (i : Nat) (hi : i < n) : ∀ j, j ≤ m →
    (rnA L i).ps ≤ (rnA (parL T t L j) i).ps ∧ (rnA (parL T t L j) i).sh = (rnA L i).sh ∧ ((wkS T t W j).getD i false = false → W.getD i false = false ∧ (rnA (parL T t L j) i).ps = (rnA L i).ps)
  | 0, _ => ⟨Int.le_refl _, rfl, fun h => ⟨h, rfl⟩⟩
  | j + 1, hj => by
    obtain ⟨i1, i2, i3⟩ := par_ps ok t L hL W hW i hi j (by omega)
    have hx := ok.tu j (by omega)
    rw [parL_succ T t L j (by rw [ok.lm]; omega), wkS]
    by_cases e : (tuA T j).t = t
    · rw [if_pos e]
      obtain ⟨t1, t2, t3⟩ := turn_ps (parL T t L j) (tuA T j) i (by rw [parL_len, hL]; omega)
      refine ⟨by omega, by rw [t2, i2], fun h => ?_⟩
      by_cases ht : tellB (tuA T j) t = true
      · rw [if_pos ht, getD_setB _ _ _ _ (by rw [wkS_len, hW]; omega)] at h
        by_cases ei : i = (tuA T j).who.toNat
        · rw [if_pos ei] at h; cases h
        · rw [if_neg ei] at h
          obtain ⟨h1, h2⟩ := i3 h
          exact ⟨h1, by rw [t3 (fun e => absurd e.symm ei), h2]⟩
      · rw [if_neg ht] at h
        obtain ⟨h1, h2⟩ := i3 h
        have hn : ¬ ((tuA T j).kind = 1 ∨ (tuA T j).kind = 2) := fun hk => ht (by
          unfold tellB
          rcases hk with hk | hk <;> simp [e, hk])
        exact ⟨h1, by rw [t3 (fun _ => hn), h2]⟩
    · rw [if_neg e]
      have ht : ¬ tellB (tuA T j) t = true := by unfold tellB; simp [e]
      rw [if_neg ht]
      exact ⟨i1, i2, i3⟩
/-- how often i has run -/
def cntI (r : List Int) (i : Int) : Int := ((r.filter fun x => x == i).length : Nat)
theorem cntI_snoc (r : List Int) (x i : Int) : cntI (r ++ [x]) i = cntI r i + if x = i then 1 else 0 := by
  unfold cntI
  rw [List.filter_append, List.length_append]
  by_cases e : x = i <;> simp [e]
theorem evL_par (l : List Rn) (T : List Tu) (t : Nat) : evL l T t = parL T t (stL l T t) T.length := by rw [evL, parL, List.take_length]
theorem runs_at {l : List Rn} {T : List Tu} {n m : Nat} (ok : WOk l T n m) (i : Nat) (hi : i < n) : ∀ t,
    (rnA (stL l T t) i).sh = (rnA l i).sh ∧ cntI (ranW l T t) i * (2520 / (rnA l i).sh) ≤ (rnA (stL l T t) i).ps ∧ ((wkA T n t).getD i false = false → (rnA (stL l T t) i).ps = cntI (ranW l T t) i * (2520 / (rnA l i).sh))
  | 0 => by
    rw [stL, rnA_zero _ _ (by rw [ok.ln]; exact hi)]
    exact ⟨rfl, by simp [ranW, cntI], fun _ => by simp [ranW, cntI]⟩
  | t + 1 => by
    obtain ⟨h1, h2, h3⟩ := runs_at ok i hi t
    have hp := par_ps ok t (stL l T t) (by rw [stL_len, ok.ln]) (wkA T n t) (wkA_len T n t) i hi m (Nat.le_refl _)
    have hb := besW_lt (evL l T t) l.length
    rw [show m = T.length from ok.lm.symm, ← evL_par] at hp
    rw [stL_succ, bumpW_nth _ _ (by rw [evL_len]; omega), ranW_succ, cntI_snoc, wkA]
    obtain ⟨p1, p2, p3⟩ := hp
    generalize besW (evL l T t) l.length = b at *
    by_cases e : (i : Int) = b
    · rw [if_pos e, if_pos e.symm]
      simp only
      rw [p2, h1]
      refine ⟨rfl, ?_, fun h => ?_⟩
      · rw [Int.add_mul]; omega
      · obtain ⟨q1, q2⟩ := p3 h
        have := h3 q1
        rw [Int.add_mul, q2, this]; omega
    · rw [if_neg e, if_neg (fun e2 => e e2.symm)]
      refine ⟨by rw [p2, h1], by rw [Int.add_zero]; omega, fun h => ?_⟩
      obtain ⟨q1, q2⟩ := p3 h
      rw [Int.add_zero, q2, h3 q1]
theorem thL_st (l : List Rn) (T : List Tu) : ∀ t, thL (stL l T (t + 1)) = thL (evL l T t) := fun t => by rw [stL_succ, thL_bump]
theorem thL_zero (l : List Rn) (T : List Tu) : thL (stL l T 0) = thL l := by
  unfold thL; rw [stL, zeroR, List.map_map]; rfl

/-! fronts -/
theorem evs_front (T : List Tu) (k t : Nat) (h : t < k) : evs (T.filter fun x => decide (x.t < (k : Int))) t = evs T t := by
  unfold evs
  rw [List.filter_filter]
  apply List.filter_congr
  intro x _
  by_cases e : x.t = (t : Int)
  · simp [e]; omega
  · simp [e]
theorem stL_front (l : List Rn) (T : List Tu) (k : Nat) : ∀ t, t ≤ k → stL l (T.filter fun x => decide (x.t < (k : Int))) t = stL l T t
  | 0, _ => rfl
  | t + 1, h => by
    have ih := stL_front l T k t (by omega)
    rw [stL_succ, stL_succ, evL, evL, ih, evs_front T k t (by omega)]
theorem ranW_front (l : List Rn) (T : List Tu) (k : Nat) : ranW l (T.filter fun x => decide (x.t < (k : Int))) k = ranW l T k := by
  unfold ranW
  apply List.map_congr_left
  intro t ht
  rw [List.mem_range] at ht
  rw [evL, evL, evs_front T k t ht, stL_front l T k t (by omega)]
theorem chkU_yes (n : Nat) (T : List Tu) (h1 : ∀ x ∈ T, badT n x = false) (h2 : T.Pairwise fun x y => x.t ≤ y.t) : ∀ j, j ≤ T.length → chkU n T j = 0
  | 0, _ => rfl
  | j + 1, hj => by
    rw [chkU, if_neg (by rw [chkU_yes n T h1 h2 j (by omega)]; simp), if_neg (by rw [h1 _ (tuA_mem T j (by omega))]; simp), if_neg]
    rintro ⟨h3, h4⟩
    have := List.pairwise_iff_getElem.1 h2 (j - 1) j (by omega) (by omega) (by omega)
    rw [show tuA T j = T[j] by simp [tuA, show j < T.length by omega], show tuA T (j - 1) = T[j - 1] by simp [tuA, show j - 1 < T.length by omega]] at h4
    omega
theorem chk_front {l : List Rn} {T : List Tu} (h : chkW l T = 0) (k : Int) : chkW l (T.filter fun x => decide (x.t < k)) = 0 := by
  have ok := chkW_ok h
  have hl := List.length_filter_le (fun x : Tu => decide (x.t < k)) T
  have n8 := ok.n8
  have m30 := ok.m30
  have hR : chkR l l.length = 0 := by
    unfold chkW at h
    rw [if_neg (by omega)] at h
    by_cases e : chkR l l.length ≠ 0
    · rw [if_pos e] at h; exact absurd h e
    · omega
  unfold chkW
  rw [if_neg (by omega), if_neg (by omega)]
  refine chkU_yes _ _ (fun x hx => ?_) ?_ _ (Nat.le_refl _)
  · have := ok.who x (List.mem_filter.1 hx).1
    unfold badT
    simp only [Bool.or_eq_false_iff, decide_eq_false_iff_not]
    omega
  · refine List.Pairwise.filter _ ?_
    rw [List.pairwise_iff_getElem]
    intro i j hi hj hij
    have := ok.sorted i (j - i) (by omega)
    rw [show i + (j - i) = j by omega, show tuA T j = T[j] by simp [tuA, hj], show tuA T i = T[i] by simp [tuA, hi]] at this
    exact this
end Go.Proofs.Ytgblmbhbbjgdiaa
