/- Plain law of trees that lead to a root (Kirchhoff, Tutte; Freidlin, Wentzell), up to five nodes. -/
import Derived.Test.YtghobphnjfgjeaaArr4
namespace Go.Proofs.Ytghobphnjfgjeaa
open Go.RowKit

def sK (f : Nat → Int) : Nat → Int
  | 0 => 0
  | k + 1 => sK f k + f k
theorem sK_congr {f g : Nat → Int} : ∀ n, (∀ k, k < n → f k = g k) → sK f n = sK g n
  | 0, _ => rfl
  | n + 1, h => by rw [sK, sK, sK_congr n (fun k hk => h k (by omega)), h n (by omega)]
theorem sK_add (f g : Nat → Int) : ∀ n, sK (fun k => f k + g k) n = sK f n + sK g n
  | 0 => rfl
  | n + 1 => by rw [sK, sK, sK, sK_add f g n]; omega
theorem sK_mul (c : Int) (f : Nat → Int) : ∀ n, sK (fun k => c * f k) n = c * sK f n
  | 0 => by simp [sK]
  | n + 1 => by rw [sK, sK, sK_mul c f n, Int.mul_add]
theorem sK_zero : ∀ n, sK (fun _ => 0) n = 0
  | 0 => rfl
  | n + 1 => by rw [sK, sK_zero n]; rfl
theorem sK_one (f : Nat → Int) (i : Nat) : ∀ n, i < n → (∀ k, k < n → k ≠ i → f k = 0) → sK f n = f i
  | 0, h, _ => by omega
  | n + 1, h, h0 => by
    rw [sK]
    by_cases e : i = n
    · subst e
      rw [sK_congr (g := fun _ => 0) i (fun k hk => h0 k (by omega) (by omega)), sK_zero]; omega
    · rw [sK_one f i n (by omega) (fun k hk => h0 k (by omega)), h0 n (by omega) (by omega)]; omega
theorem sK_nonneg (f : Nat → Int) : ∀ n, (∀ k, k < n → 0 ≤ f k) → 0 ≤ sK f n
  | 0, _ => Int.le_refl _
  | n + 1, h => by rw [sK]; have := sK_nonneg f n (fun k hk => h k (by omega)); have := h n (by omega); omega
theorem sK_le (f : Nat → Int) (b : Int) : ∀ n, (∀ k, k < n → f k ≤ b) → sK f n ≤ b * n
  | 0, _ => by simp [sK]
  | n + 1, h => by
    rw [sK]; have := sK_le f b n (fun k hk => h k (by omega)); have := h n (by omega)
    rw [Int.natCast_add, Int.mul_add]; omega
theorem sK_mono (f : Nat → Int) (n m : Nat) (h : ∀ k, k < m → 0 ≤ f k) (hnm : n ≤ m) : sK f n ≤ sK f m := by
  obtain ⟨d, rfl⟩ : ∃ d, m = n + d := ⟨m - n, by omega⟩
  clear hnm
  induction d with
  | zero => exact Int.le_refl _
  | succ d ih =>
    have := ih (fun k hk => h k (by omega))
    have := h (n + d) (by omega)
    rw [show n + (d + 1) = (n + d) + 1 from rfl, sK]; omega

def mt (M : List (List Int)) (i k : Nat) : Int := nth (M.getD i []) k
def stepT (p : List Nat) (root a : Nat) : Nat := if a = root then a else p.getD a 0
def goT (p : List Nat) (root : Nat) : Nat → Nat → Nat
  | 0, a => a
  | f + 1, a => goT p root f (stepT p root a)
def reachB (n root : Nat) (p : List Nat) : Bool := (List.range n).all fun k => goT p root n k == root
def gT (M : List (List Int)) (n root : Nat) : Nat → List Nat → Int → Int
  | 0, p, wt => if wt = 0 then 0 else if reachB n root p = true then wt else 0
  | r + 1, p, wt => if wt = 0 then 0 else if p.length = root then gT M n root r (p ++ [0]) wt else sK (fun k => if k = p.length then 0 else gT M n root r (p ++ [k]) (wt * mt M p.length k)) n
def hT (M : List (List Int)) (n root : Nat) : Nat → List Nat → Int
  | 0, p => if reachB n root p = true then 1 else 0
  | r + 1, p => if p.length = root then hT M n root r (p ++ [0]) else sK (fun k => if k = p.length then 0 else mt M p.length k * hT M n root r (p ++ [k])) n
theorem gT_is (M : List (List Int)) (n root : Nat) : ∀ r p wt, gT M n root r p wt = wt * hT M n root r p
  | 0, p, wt => by
    rw [gT, hT]
    by_cases h : wt = 0
    · rw [if_pos h, h]; simp
    · rw [if_neg h]; split <;> simp
  | r + 1, p, wt => by
    rw [gT, hT]
    by_cases h : wt = 0
    · rw [if_pos h, h]; simp
    · rw [if_neg h]
      split
      · exact gT_is M n root r _ wt
      · rw [← sK_mul]
        refine sK_congr n fun k _ => ?_
        split
        · simp
        · rw [gT_is M n root r _ _, Int.mul_assoc]
def sA (M : List (List Int)) (n : Nat) (c : List Nat → Int) : Nat → List Nat → Int
  | 0, p => c p
  | r + 1, p => sK (fun k => if k = p.length then 0 else mt M p.length k * sA M n c r (p ++ [k])) n
theorem sA_add (M : List (List Int)) (n : Nat) (c d : List Nat → Int) : ∀ r p, sA M n (fun f => c f + d f) r p = sA M n c r p + sA M n d r p
  | 0, p => rfl
  | r + 1, p => by
    rw [sA, sA, sA, ← sK_add]
    refine sK_congr n fun k _ => ?_
    split
    · rfl
    · rw [sA_add M n c d r, Int.mul_add]
theorem sA_zero (M : List (List Int)) (n : Nat) : ∀ r p, sA M n (fun _ => 0) r p = 0
  | 0, _ => rfl
  | r + 1, p => by
    rw [sA, sK_congr (g := fun _ => 0) n (fun k _ => by split <;> simp [sA_zero M n r]), sK_zero]
def valT (n : Nat) (p : List Nat) : Prop := ∀ j, j < p.length → p.getD j 0 < n ∧ p.getD j 0 ≠ j
theorem getD_snoc (p : List Nat) (x j : Nat) : (p ++ [x]).getD j 0 = if j = p.length then x else p.getD j 0 := by
  rw [List.getD_eq_getElem?_getD, List.getD_eq_getElem?_getD, List.getElem?_append]
  by_cases h : j < p.length
  · rw [if_pos h, if_neg (by omega)]
  · rw [if_neg h]
    by_cases e : j = p.length
    · subst e; simp
    · rw [if_neg e, List.getElem?_eq_none (by simp; omega), List.getElem?_eq_none (by omega)]
theorem getD_setN (p : List Nat) (i j x : Nat) (h : i < p.length) : (p.set i x).getD j 0 = if j = i then x else p.getD j 0 := by
  rw [List.getD_eq_getElem?_getD, List.getD_eq_getElem?_getD, List.getElem?_set]
  by_cases e : i = j
  · subst e; simp [h]
  · rw [if_neg e, if_neg (fun x => e x.symm)]
theorem valT.snoc {n : Nat} {p : List Nat} (h : valT n p) (k : Nat) (hk : k < n) (hne : k ≠ p.length) : valT n (p ++ [k]) := fun j hj => by
  rw [getD_snoc]
  rw [List.length_append, List.length_singleton] at hj
  by_cases e : j = p.length
  · rw [if_pos e]; exact ⟨hk, by omega⟩
  · rw [if_neg e]; exact h j (by omega)
theorem sA_congr (M : List (List Int)) (n : Nat) (c d : List Nat → Int) (h : ∀ f, f.length = n → valT n f → c f = d f) : ∀ r p, p.length + r = n → valT n p → sA M n c r p = sA M n d r p
  | 0, p, hl, hv => h p (by omega) hv
  | r + 1, p, hl, hv => by
    rw [sA, sA]
    refine sK_congr n fun k hk => ?_
    split
    · rfl
    · next e => rw [sA_congr M n c d h r _ (by rw [List.length_append, List.length_singleton]; omega) (hv.snoc k hk e)]
theorem goT_set (p : List Nat) (root : Nat) (x : Nat) (h : root < p.length) : ∀ f a, goT (p.set root x) root f a = goT p root f a
  | 0, _ => rfl
  | f + 1, a => by
    rw [goT, goT, goT_set p root x h f]
    congr 1
    unfold stepT
    by_cases e : a = root
    · rw [if_pos e, if_pos e]
    · rw [if_neg e, if_neg e, getD_setN p root a x h, if_neg e]
theorem reachB_set (n root : Nat) (p : List Nat) (x : Nat) (h : root < p.length) : reachB n root (p.set root x) = reachB n root p := by
  unfold reachB; simp only [goT_set p root x h]
def cE (n k i : Nat) (f : List Nat) : Int := if f.getD k 0 = i ∧ reachB n k f = true then 1 else 0
def cR (n i : Nat) (f : List Nat) : Int := if reachB n i f = true then 1 else 0
theorem edge_past (M : List (List Int)) (n k i : Nat) : ∀ r q, k < q.length → sA M n (cE n k i) r q = if q.getD k 0 = i then hT M n k r (q.set k 0) else 0
  | 0, q, h => by
    rw [sA, hT, cE, reachB_set n k q 0 h]
    by_cases e : q.getD k 0 = i
    · rw [if_pos e]
      by_cases h2 : reachB n k q = true
      · rw [if_pos ⟨e, h2⟩, if_pos h2]
      · rw [if_neg (fun x => h2 x.2), if_neg h2]
    · rw [if_neg e, if_neg (fun h => e h.1)]
  | r + 1, q, h => by
    have key : ∀ x, x < n → (if x = q.length then 0 else mt M q.length x * sA M n (cE n k i) r (q ++ [x])) = if q.getD k 0 = i then (if x = q.length then 0 else mt M q.length x * hT M n k r (q.set k 0 ++ [x])) else 0 := fun x hx => by
      rw [edge_past M n k i r (q ++ [x]) (by rw [List.length_append]; omega), getD_snoc, if_neg (show k ≠ q.length by omega), List.set_append_left _ _ h]
      by_cases e : q.getD k 0 = i
      · rw [if_pos e, if_pos e]
      · rw [if_neg e, if_neg e]; simp
    rw [sA, sK_congr n key]
    by_cases e : q.getD k 0 = i
    · simp only [if_pos e]
      rw [hT, if_neg (by rw [List.length_set]; omega), List.length_set]
    · simp only [if_neg e]
      exact sK_zero n
theorem edge_is (M : List (List Int)) (n k i : Nat) (hi : i < n) (hik : i ≠ k) : ∀ r p, p.length ≤ k → p.length + r = n → k < n → sA M n (cE n k i) r p = mt M k i * hT M n k r p
  | 0, p, h1, h2, h3 => by omega
  | r + 1, p, h1, h2, h3 => by
    rw [sA, hT]
    by_cases e : p.length = k
    · rw [if_pos e]
      have key : ∀ x, x < n → (if x = p.length then 0 else mt M p.length x * sA M n (cE n k i) r (p ++ [x])) = if x = i then mt M k i * hT M n k r (p ++ [0]) else 0 := fun x hx => by
        rw [edge_past M n k i r (p ++ [x]) (by rw [List.length_append, List.length_singleton]; omega), getD_snoc, if_pos e.symm, e]
        have e2 : (p ++ [x]).set k 0 = p ++ [0] := by rw [List.set_append_right _ _ (by omega)]; simp [e]
        rw [e2]
        by_cases hx1 : x = i
        · subst hx1; rw [if_neg hik, if_pos rfl, if_pos rfl]
        · rw [if_neg hx1, if_neg hx1]; split <;> simp
      rw [sK_congr n key, sK_one _ i n hi (fun x _ hx => if_neg hx), if_pos rfl]
    · rw [if_neg e, ← sK_mul]
      refine sK_congr n fun x hx => ?_
      split
      · simp
      · rw [edge_is M n k i hi hik r (p ++ [x]) (by rw [List.length_append, List.length_singleton]; omega) (by rw [List.length_append, List.length_singleton]; omega) h3, ← Int.mul_assoc, ← Int.mul_assoc, Int.mul_comm (mt M p.length x)]
def outT (M : List (List Int)) (n i : Nat) : Int := sK (fun k => if k = i then 0 else mt M i k) n
theorem all_past (M : List (List Int)) (n i : Nat) : ∀ r q, i < q.length → sA M n (cR n i) r q = hT M n i r (q.set i 0)
  | 0, q, h => by rw [sA, hT, cR, reachB_set n i q 0 h]
  | r + 1, q, h => by
    rw [sA, hT, if_neg (by rw [List.length_set]; omega), List.length_set]
    refine sK_congr n fun x hx => ?_
    split
    · rfl
    · rw [all_past M n i r (q ++ [x]) (by rw [List.length_append]; omega), List.set_append_left _ _ h]
theorem all_is (M : List (List Int)) (n i : Nat) (hi : i < n) : ∀ r p, p.length ≤ i → p.length + r = n → sA M n (cR n i) r p = outT M n i * hT M n i r p
  | 0, p, h1, h2 => by omega
  | r + 1, p, h1, h2 => by
    rw [sA, hT]
    by_cases e : p.length = i
    · rw [if_pos e]
      have key : ∀ x, x < n → (if x = p.length then 0 else mt M p.length x * sA M n (cR n i) r (p ++ [x])) = hT M n i r (p ++ [0]) * (if x = i then 0 else mt M i x) := fun x hx => by
        rw [all_past M n i r (p ++ [x]) (by rw [List.length_append, List.length_singleton]; omega), e]
        have e2 : (p ++ [x]).set i 0 = p ++ [0] := by rw [List.set_append_right _ _ (by omega)]; simp [e]
        rw [e2]
        split
        · simp
        · rw [Int.mul_comm]
      rw [sK_congr n key, sK_mul, Int.mul_comm]; rfl
    · rw [if_neg e, ← sK_mul]
      refine sK_congr n fun x hx => ?_
      split
      · simp
      · rw [all_is M n i hi r (p ++ [x]) (by rw [List.length_append, List.length_singleton]; omega) (by rw [List.length_append, List.length_singleton]; omega), ← Int.mul_assoc, ← Int.mul_assoc, Int.mul_comm (mt M p.length x)]
/-! the check, function by function -/
def cntE (n i : Nat) (f : List Nat) : Nat → Nat
  | 0 => 0
  | k + 1 => cntE n i f k + if k ≠ i ∧ f.getD k 0 = i ∧ reachB n k f = true then 1 else 0
def chkT (n i : Nat) : Nat → List Nat → Bool
  | 0, p => cntE n i p n == (if reachB n i p then 1 else 0)
  | r + 1, p => (List.range n).all fun k => k == p.length || chkT n i r (p ++ [k])
theorem chk_all : ∀ n, n < 6 → ∀ i, i < n → chkT n i n [] = true := by decide +kernel
theorem chkT_at (n i : Nat) : ∀ r p f, chkT n i r p = true → f.length = p.length + r → f.take p.length = p → valT n f → cntE n i f n = if reachB n i f = true then 1 else 0
  | 0, p, f, h, hl, ht, hv => by
    have : f = p := by rw [← ht, List.take_of_length_le (by omega)]
    subst this
    rw [chkT, beq_iff_eq] at h
    exact h
  | r + 1, p, f, h, hl, ht, hv => by
    rw [chkT, List.all_eq_true] at h
    have hx := hv p.length (by omega)
    have h2 := h (f.getD p.length 0) (List.mem_range.2 hx.1)
    rw [Bool.or_eq_true] at h2
    rcases h2 with h2 | h2
    · rw [beq_iff_eq] at h2; exact absurd h2 hx.2
    · refine chkT_at n i r _ f h2 (by rw [List.length_append, List.length_singleton]; omega) ?_ hv
      rw [List.length_append, List.length_singleton, List.take_succ_eq_append_getElem (by omega), ht]
      congr 2
      rw [List.getD_eq_getElem?_getD, List.getElem?_eq_getElem (by omega)]; rfl
theorem cntE_sum (n i : Nat) (f : List Nat) : ∀ m, sK (fun k => if k = i then 0 else cE n k i f) m = (cntE n i f m : Nat)
  | 0 => rfl
  | m + 1 => by
    rw [sK, cntE, cntE_sum n i f m]
    unfold cE
    by_cases e : m = i
    · rw [if_pos e, if_neg (fun h => h.1 e)]; simp
    · rw [if_neg e]
      by_cases h : f.getD m 0 = i ∧ reachB n m f = true
      · rw [if_pos h, if_pos ⟨e, h⟩]; simp
      · rw [if_neg h, if_neg (fun x => h x.2)]; simp
theorem sA_sK (M : List (List Int)) (n i : Nat) : ∀ m, sA M n (fun f => sK (fun k => if k = i then 0 else cE n k i f) m) n [] = sK (fun k => if k = i then 0 else sA M n (cE n k i) n []) m
  | 0 => sA_zero M n n []
  | m + 1 => by
    have h1 : sA M n (fun f => if m = i then 0 else cE n m i f) n [] = if m = i then 0 else sA M n (cE n m i) n [] := by
      by_cases e : m = i
      · rw [if_pos e, show (fun f => if m = i then (0 : Int) else cE n m i f) = fun _ => 0 from funext fun f => if_pos e]; exact sA_zero M n n []
      · rw [if_neg e, show (fun f => if m = i then (0 : Int) else cE n m i f) = cE n m i from funext fun f => if_neg e]
    have h2 := sA_add M n (fun f => sK (fun k => if k = i then 0 else cE n k i f) m) (fun f => if m = i then 0 else cE n m i f) n []
    rw [h1, sA_sK M n i m] at h2
    exact h2
/-- what is trees' number -/
def treeT (M : List (List Int)) (n root : Nat) : Int := hT M n root n []
/-- as much comes to each node as goes from it -/
theorem tree_law (M : List (List Int)) (n i : Nat) (h6 : n < 6) (hi : i < n) : sK (fun k => if k = i then 0 else treeT M n k * mt M k i) n = treeT M n i * outT M n i := by
  have e1 : sK (fun k => if k = i then 0 else treeT M n k * mt M k i) n = sK (fun k => if k = i then 0 else sA M n (cE n k i) n []) n := by
    refine sK_congr n fun k hk => ?_
    by_cases e : k = i
    · rw [if_pos e, if_pos e]
    · rw [if_neg e, if_neg e, edge_is M n k i hi (fun x => e x.symm) n [] (by simp) (by simp) hk, Int.mul_comm]; rfl
  rw [e1, ← sA_sK, sA_congr M n _ (cR n i) (fun f hl hv => ?_) n [] (by simp) (fun j hj => by simp at hj), all_is M n i hi n [] (by simp) (by simp), Int.mul_comm]
  · rfl
  · have := chkT_at n i n [] f (chk_all n h6 i hi) (by simpa using hl) rfl hv
    rw [cntE_sum, this]
    unfold cR
    split <;> rfl
theorem hT_nonneg (M : List (List Int)) (n root : Nat) (h : ∀ i k, 0 ≤ mt M i k) : ∀ r p, 0 ≤ hT M n root r p
  | 0, p => by rw [hT]; split <;> omega
  | r + 1, p => by
    rw [hT]
    split
    · exact hT_nonneg M n root h r _
    · refine sK_nonneg _ n fun k _ => ?_
      split
      · omega
      · exact Int.mul_nonneg (h _ _) (hT_nonneg M n root h r _)
theorem hT_le (M : List (List Int)) (n root : Nat) (h : ∀ i k, 0 ≤ mt M i k) (h20 : ∀ i k, mt M i k ≤ 20) (h5 : n ≤ 5) : ∀ r p, hT M n root r p ≤ 100 ^ r
  | 0, p => by rw [hT]; split <;> simp
  | r + 1, p => by
    have e : (100 : Int) ^ (r + 1) = 20 * 100 ^ r * 5 := by rw [Int.pow_succ]; omega
    have p0 : (0 : Int) ≤ 100 ^ r := Int.pow_nonneg (by omega)
    rw [hT]
    split
    · have := hT_le M n root h h20 h5 r (p ++ [0]); omega
    · have hb := sK_le (fun k => if k = p.length then 0 else mt M p.length k * hT M n root r (p ++ [k])) (20 * 100 ^ r) n (fun k _ => by
        split
        · omega
        · exact Int.mul_le_mul (h20 _ _) (hT_le M n root h h20 h5 r _) (hT_nonneg M n root h r _) (by omega))
      have : 20 * (100 : Int) ^ r * n ≤ 20 * 100 ^ r * 5 := Int.mul_le_mul_of_nonneg_left (by omega) (by omega)
      omega
end Go.Proofs.Ytghobphnjfgjeaa
