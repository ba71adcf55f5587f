/- Plain mathematics of odds: two apart; Markov; Chebyshev; tails. -/
import Derived.Test.YtliajiilcicppaaOddM
namespace Go.Proofs.Ytliajiilcicppaa

def wsL (F : Int → Int) : List Int → List Int → Int
  | x :: vs, y :: ws => y * F x + wsL F vs ws
  | [], _ => 0
  | _ :: _, [] => 0
theorem wsK_cons (F : Int → Int) (x y : Int) (vs ws : List Int) : ∀ k, wsK F (x :: vs) (y :: ws) (k + 1) = y * F x + wsK F vs ws k
  | 0 => by simp [wsK, nth]
  | k + 1 => by
    rw [wsK, wsK_cons F x y vs ws k, wsK]
    rw [show nth (x :: vs) (k + 1) = nth vs k from rfl, show nth (y :: ws) (k + 1) = nth ws k from rfl, Int.add_assoc]
theorem wsK_L (F : Int → Int) : ∀ vs ws : List Int, ws.length = vs.length → wsK F vs ws vs.length = wsL F vs ws
  | [], ws, _ => by simp [wsK, wsL]
  | x :: vs, [], h => by simp at h
  | x :: vs, y :: ws, h => by
    rw [List.length_cons, wsK_cons, wsK_L F vs ws (by simpa using h)]; rfl
theorem wsL_app (F : Int → Int) : ∀ (v1 w1 v2 w2 : List Int), w1.length = v1.length → wsL F (v1 ++ v2) (w1 ++ w2) = wsL F v1 w1 + wsL F v2 w2
  | [], [], v2, w2, _ => by simp [wsL]
  | [], _ :: _, v2, w2, h => by simp at h
  | x :: vs, [], v2, w2, h => by simp at h
  | x :: vs, y :: ws, v2, w2, h => by
    simp only [List.cons_append, wsL]
    rw [wsL_app F vs ws v2 w2 (by simpa using h)]; omega
theorem wsL_map (F : Int → Int) (x p : Int) : ∀ vb wb : List Int, wsL F (vb.map (x + ·)) (wb.map (p * ·)) = p * wsL (fun y => F (x + y)) vb wb
  | [], _ => by simp [wsL]
  | _ :: _, [] => by simp [wsL]
  | y :: vb, q :: wb => by
    simp only [List.map_cons, wsL]
    rw [wsL_map F x p vb wb]; grind
theorem wsL_lin (x : Int) : ∀ vb wb : List Int, wsL (fun y => x + y) vb wb = x * wsL (fun _ => 1) vb wb + wsL (fun y => y) vb wb
  | [], _ => by simp [wsL]
  | _ :: _, [] => by simp [wsL]
  | y :: vb, q :: wb => by
    simp only [wsL]
    rw [wsL_lin x vb wb]; grind
theorem wsL_sq (x : Int) : ∀ vb wb : List Int, wsL (fun y => (x + y) * (x + y)) vb wb = x * x * wsL (fun _ => 1) vb wb + 2 * x * wsL (fun y => y) vb wb + wsL (fun y => y * y) vb wb
  | [], _ => by simp [wsL]
  | _ :: _, [] => by simp [wsL]
  | y :: vb, q :: wb => by
    simp only [wsL]
    rw [wsL_sq x vb wb]; grind

def bothV (va vb : List Int) : List Int := va.flatMap (fun x => vb.map (x + ·))
def bothW (wa wb : List Int) : List Int := wa.flatMap (fun p => wb.map (p * ·))
theorem bothV_len (va vb : List Int) : (bothV va vb).length = va.length * vb.length := by
  induction va with
  | nil => simp [bothV]
  | cons x va ih => unfold bothV at ih ⊢; rw [List.flatMap_cons, List.length_append, ih, List.length_map, List.length_cons, Nat.add_mul, Nat.one_mul, Nat.add_comm]
theorem bothW_len (va vb : List Int) : (bothW va vb).length = va.length * vb.length := by
  induction va with
  | nil => simp [bothW]
  | cons x va ih => unfold bothW at ih ⊢; rw [List.flatMap_cons, List.length_append, ih, List.length_map, List.length_cons, Nat.add_mul, Nat.one_mul, Nat.add_comm]
theorem both_1 (vb wb : List Int) (h : wb.length = vb.length) : ∀ va wa : List Int, wa.length = va.length → wsL (fun _ => 1) (bothV va vb) (bothW wa wb) = wsL (fun _ => 1) va wa * wsL (fun _ => 1) vb wb
  | [], [], _ => by simp [bothV, bothW, wsL]
  | [], _ :: _, h => by simp at h
  | x :: vs, [], h => by simp at h
  | x :: va, p :: wa, h' => by
    have ih := both_1 vb wb h va wa (by simpa using h')
    unfold bothV bothW at ih ⊢
    rw [List.flatMap_cons, List.flatMap_cons, wsL_app _ _ _ _ _ (by simpa using h), wsL_map, ih, wsL]
    generalize wsL (fun _ => 1) va wa = a; generalize wsL (fun _ => 1) vb wb = b
    grind
theorem both_x (vb wb : List Int) (h : wb.length = vb.length) : ∀ va wa : List Int, wa.length = va.length → wsL (fun y => y) (bothV va vb) (bothW wa wb) = wsL (fun y => y) va wa * wsL (fun _ => 1) vb wb + wsL (fun _ => 1) va wa * wsL (fun y => y) vb wb
  | [], [], _ => by simp [bothV, bothW, wsL]
  | [], _ :: _, h => by simp at h
  | x :: vs, [], h => by simp at h
  | x :: va, p :: wa, h' => by
    have ih := both_x vb wb h va wa (by simpa using h')
    unfold bothV bothW at ih ⊢
    rw [List.flatMap_cons, List.flatMap_cons, wsL_app _ _ _ _ _ (by simpa using h), wsL_map, ih, wsL_lin, wsL, wsL]
    generalize wsL (fun _ => 1) va wa = a; generalize wsL (fun _ => 1) vb wb = b
    generalize wsL (fun y => y) va wa = c; generalize wsL (fun y => y) vb wb = d
    grind
theorem both_xx (vb wb : List Int) (h : wb.length = vb.length) : ∀ va wa : List Int, wa.length = va.length → wsL (fun y => y * y) (bothV va vb) (bothW wa wb) = wsL (fun y => y * y) va wa * wsL (fun _ => 1) vb wb + 2 * wsL (fun y => y) va wa * wsL (fun y => y) vb wb + wsL (fun _ => 1) va wa * wsL (fun y => y * y) vb wb
  | [], [], _ => by simp [bothV, bothW, wsL]
  | [], _ :: _, h => by simp at h
  | x :: vs, [], h => by simp at h
  | x :: va, p :: wa, h' => by
    have ih := both_xx vb wb h va wa (by simpa using h')
    unfold bothV bothW at ih ⊢
    rw [List.flatMap_cons, List.flatMap_cons, wsL_app _ _ _ _ _ (by simpa using h), wsL_map, ih, wsL_sq, wsL, wsL, wsL]
    generalize wsL (fun _ => 1) va wa = a; generalize wsL (fun _ => 1) vb wb = b
    generalize wsL (fun y => y) va wa = c; generalize wsL (fun y => y) vb wb = d
    generalize wsL (fun y => y * y) va wa = e; generalize wsL (fun y => y * y) vb wb = f
    grind
theorem bothV_snoc (va vb : List Int) (x : Int) : bothV (va ++ [x]) vb = bothV va vb ++ vb.map (x + ·) := by simp [bothV, List.flatMap_append]
theorem bothW_snoc (va vb : List Int) (x : Int) : bothW (va ++ [x]) vb = bothW va vb ++ vb.map (x * ·) := by simp [bothW, List.flatMap_append]
section
variable {va wa vb wb : List Int} (ha : wa.length = va.length) (hb : wb.length = vb.length)
include ha hb
theorem both_len : (bothW wa wb).length = (bothV va vb).length := by rw [bothW_len, bothV_len, ha, hb]
theorem oW_both : oW (bothV va vb) (bothW wa wb) = oW va wa * oW vb wb := by
  unfold oW; rw [wsK_L _ _ _ (both_len ha hb), wsK_L _ _ _ ha, wsK_L _ _ _ hb, both_1 vb wb hb va wa ha]
theorem oA_both : oA (bothV va vb) (bothW wa wb) = oA va wa * oW vb wb + oW va wa * oA vb wb := by
  unfold oW oA; rw [wsK_L _ _ _ (both_len ha hb), wsK_L _ _ _ ha, wsK_L _ _ _ hb, wsK_L _ _ _ ha, wsK_L _ _ _ hb, both_x vb wb hb va wa ha]
theorem oB_both : oB (bothV va vb) (bothW wa wb) = oB va wa * oW vb wb + 2 * oA va wa * oA vb wb + oW va wa * oB vb wb := by
  unfold oW oA oB; rw [wsK_L _ _ _ (both_len ha hb), wsK_L _ _ _ ha, wsK_L _ _ _ hb, wsK_L _ _ _ ha, wsK_L _ _ _ hb, wsK_L _ _ _ ha, wsK_L _ _ _ hb, both_xx vb wb hb va wa ha]
theorem sP_both : sP (bothV va vb) (bothW wa wb) = sP va wa * sQ vb wb + sP vb wb * sQ va wa := by
  unfold sP sQ; rw [oW_both ha hb, oA_both ha hb, oB_both ha hb]; grind
theorem sQ_both : sQ (bothV va vb) (bothW wa wb) = sQ va wa * sQ vb wb := by
  unfold sQ; rw [oW_both ha hb]; grind
end

/-- how often a value is at least so much -/
def oN (t : Int) (vs ws : List Int) : Int := wsK (fun x => if t ≤ x then 1 else 0) vs ws vs.length
theorem wsK_le {vs ws : List Int} (h : OddOk vs ws) (F G : Int → Int) (hFG : ∀ k, k < vs.length → F (nth vs k) ≤ G (nth vs k)) : ∀ k : Nat, k ≤ vs.length → wsK F vs ws k ≤ wsK G vs ws k
  | 0, _ => by simp [wsK]
  | k + 1, hk => by
    have ih := wsK_le h F G hFG k (by omega)
    have := h.val k (by omega)
    have := Int.mul_le_mul_of_nonneg_left (hFG k (by omega)) (show 0 ≤ nth ws k by omega)
    rw [wsK, wsK]; omega
theorem wsK_smul (F : Int → Int) (c : Int) (vs ws : List Int) : ∀ k, wsK (fun x => c * F x) vs ws k = c * wsK F vs ws k
  | 0 => by simp [wsK]
  | k + 1 => by rw [wsK, wsK, wsK_smul F c vs ws k]; grind
theorem wsK_add (F G : Int → Int) (vs ws : List Int) : ∀ k, wsK (fun x => F x + G x) vs ws k = wsK F vs ws k + wsK G vs ws k
  | 0 => by simp [wsK]
  | k + 1 => by rw [wsK, wsK, wsK, wsK_add F G vs ws k]; grind
theorem wsK_congr (F G : Int → Int) (vs ws : List Int) : ∀ k, (∀ i, i < k → F (nth vs i) = G (nth vs i)) → wsK F vs ws k = wsK G vs ws k
  | 0, _ => rfl
  | k + 1, h => by rw [wsK, wsK, wsK_congr F G vs ws k (fun i hi => h i (by omega)), h k (by omega)]
theorem oN_bd {vs ws : List Int} (h : OddOk vs ws) (t : Int) : 0 ≤ oN t vs ws ∧ oN t vs ws ≤ oW vs ws := by
  have h1 := wsK_nn h (fun x => if t ≤ x then 1 else 0) (fun x => by show 0 ≤ if t ≤ x then (1 : Int) else 0; split <;> omega) vs.length (Nat.le_refl _)
  have h2 := wsK_le h (fun x => if t ≤ x then 1 else 0) (fun _ => 1) (fun k _ => by show (if t ≤ nth vs k then (1 : Int) else 0) ≤ 1; split <;> omega) vs.length (Nat.le_refl _)
  exact ⟨h1, h2⟩
theorem oN_le {vs ws : List Int} (h : OddOk vs ws) (t : Int) : oN (t + 1) vs ws ≤ oN t vs ws :=
  wsK_le h _ _ (fun k _ => by show (if t + 1 ≤ nth vs k then (1 : Int) else 0) ≤ if t ≤ nth vs k then 1 else 0; split <;> split <;> omega) vs.length (Nat.le_refl _)
theorem markov {vs ws : List Int} (h : OddOk vs ws) (h0 : ∀ k, k < vs.length → 0 ≤ nth vs k) (t : Int) : t * oN t vs ws ≤ oA vs ws := by
  unfold oN oA
  rw [← wsK_smul]
  refine wsK_le h _ _ (fun k hk => ?_) vs.length (Nat.le_refl _)
  have := h0 k hk
  show t * (if t ≤ nth vs k then (1 : Int) else 0) ≤ nth vs k
  split <;> omega
theorem oN_all {vs ws : List Int} (t : Int) (h0 : ∀ k, k < vs.length → t ≤ nth vs k) : oN t vs ws = oW vs ws :=
  wsK_congr _ _ vs ws vs.length (fun i hi => by show (if t ≤ nth vs i then (1 : Int) else 0) = 1; rw [if_pos (h0 i hi)])
/-- the values up to t, weighted -/
def oT (t : Int) (vs ws : List Int) : Int := wsK (fun x => if t ≤ x then t else x) vs ws vs.length
theorem oT_0 {vs ws : List Int} (h0 : ∀ k, k < vs.length → 0 ≤ nth vs k) : oT 0 vs ws = 0 := by
  have e := wsK_congr (fun x => if 0 ≤ x then 0 else x) (fun x => 0 * 1) vs ws vs.length (fun i hi => by show (if 0 ≤ nth vs i then (0 : Int) else nth vs i) = 0 * 1; rw [if_pos (h0 i hi)]; rfl)
  unfold oT
  rw [e, wsK_smul (fun _ => 1) 0]; simp
theorem oT_step (vs ws : List Int) (t : Int) : oT (t + 1) vs ws = oT t vs ws + oN (t + 1) vs ws := by
  unfold oT oN
  rw [← wsK_add]
  refine wsK_congr _ _ vs ws vs.length (fun i hi => ?_)
  show (if t + 1 ≤ nth vs i then t + 1 else nth vs i) = (if t ≤ nth vs i then t else nth vs i) + if t + 1 ≤ nth vs i then 1 else 0
  split <;> split <;> omega
theorem oT_top {vs ws : List Int} (t : Int) (h0 : ∀ k, k < vs.length → nth vs k ≤ t) : oT t vs ws = oA vs ws :=
  wsK_congr _ _ vs ws vs.length (fun i hi => by have := h0 i hi; show (if t ≤ nth vs i then t else nth vs i) = nth vs i; split <;> omega)
theorem oT_bd {vs ws : List Int} (h : OddOk vs ws) (h0 : ∀ k, k < vs.length → 0 ≤ nth vs k) (t : Int) (ht : 0 ≤ t) : 0 ≤ oT t vs ws ∧ oT t vs ws ≤ oA vs ws := by
  refine ⟨?_, wsK_le h _ _ (fun k hk => by show (if t ≤ nth vs k then t else nth vs k) ≤ nth vs k; split <;> omega) vs.length (Nat.le_refl _)⟩
  have := wsK_le h (fun _ => 0 * 1) (fun x => if t ≤ x then t else x) (fun k hk => by have := h0 k hk; show 0 * 1 ≤ if t ≤ nth vs k then t else nth vs k; split <;> omega) vs.length (Nat.le_refl _)
  rw [wsK_smul (fun _ => 1) 0] at this
  unfold oT; omega
/-- Chebyshev: the weights of those that are as far -/
theorem cheb {vs ws : List Int} (h : OddOk vs ws) (X Y f : Int) (hY : 0 < Y) (hf : 0 ≤ f) (hr : Eqv X Y (oA vs ws) (oW vs ws)) :
    wsK (fun x => if f * Y ≤ x * Y - X ∨ f * Y ≤ -(x * Y - X) then 1 else 0) vs ws vs.length * f * f * oW vs ws ≤ sP vs ws := by
  have hW := oW_bd h
  have hd := wsK_dev vs ws (oA vs ws) (oW vs ws) vs.length
  change _ = oA vs ws * oA vs ws * oW vs ws - 2 * oA vs ws * oW vs ws * oA vs ws + oW vs ws * oW vs ws * oB vs ws at hd
  have hle := wsK_le h (fun x => (f * oW vs ws * (f * oW vs ws)) * (if f * Y ≤ x * Y - X ∨ f * Y ≤ -(x * Y - X) then 1 else 0)) (fun x => (oA vs ws - oW vs ws * x) * (oA vs ws - oW vs ws * x)) (fun k hk => by
    show (f * oW vs ws * (f * oW vs ws)) * (if f * Y ≤ nth vs k * Y - X ∨ f * Y ≤ -(nth vs k * Y - X) then 1 else 0) ≤ (oA vs ws - oW vs ws * nth vs k) * (oA vs ws - oW vs ws * nth vs k)
    generalize nth vs k = x
    generalize oW vs ws = W at *
    generalize oA vs ws = A at *
    unfold Eqv at hr
    have hsq := mul_self_nn (A - W * x)
    have fW : 0 ≤ f * W := Int.mul_nonneg hf (by omega)
    by_cases c : f * Y ≤ x * Y - X ∨ f * Y ≤ -(x * Y - X)
    · rw [if_pos c, Int.mul_one]
      have key : f * W ≤ x * W - A ∨ f * W ≤ A - x * W := by
        rcases c with c | c
        · left
          have := Int.mul_le_mul_of_nonneg_right c (show 0 ≤ W by omega)
          have e1 : f * Y * W = f * W * Y := by grind
          have e2 : (x * Y - X) * W = (x * W - A) * Y := by grind
          rw [e1, e2] at this
          exact Int.le_of_mul_le_mul_right this hY
        · right
          have := Int.mul_le_mul_of_nonneg_right c (show 0 ≤ W by omega)
          have e1 : f * Y * W = f * W * Y := by grind
          have e2 : -(x * Y - X) * W = (A - x * W) * Y := by grind
          rw [e1, e2] at this
          exact Int.le_of_mul_le_mul_right this hY
      rcases key with key | key
      · have := Int.mul_le_mul key key fW (by omega)
        have e : (A - W * x) * (A - W * x) = (x * W - A) * (x * W - A) := by grind
        rw [e]; exact this
      · have := Int.mul_le_mul key key fW (by omega)
        have e : (A - W * x) * (A - W * x) = (A - x * W) * (A - x * W) := by grind
        rw [e]; exact this
    · rw [if_neg c, Int.mul_zero]; exact hsq) vs.length (Nat.le_refl _)
  rw [wsK_smul, hd] at hle
  generalize wsK (fun x => if f * Y ≤ x * Y - X ∨ f * Y ≤ -(x * Y - X) then 1 else 0) vs ws vs.length = n at *
  unfold sP
  generalize oW vs ws = W at *
  generalize oA vs ws = A at *
  generalize oB vs ws = B at *
  have e1 : f * W * (f * W) * n = (n * f * f * W) * W := by grind
  have e2 : A * A * W - 2 * A * W * A + W * W * B = (W * B - A * A) * W := by grind
  rw [e1, e2] at hle
  exact Int.le_of_mul_le_mul_right hle (by omega)
end Go.Proofs.Ytliajiilcicppaa
