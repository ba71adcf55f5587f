/- Plain mathematics of odds: weighted sums. -/
import Derived.Test.YtdabgibmbmhmdaaArr2
import Derived.Test.YtdabgibmbmhmdaaMathRat
namespace Go.Proofs.Ytdabgibmbmhmdaa

structure OddOk (vs ws : List Int) : Prop where
  n1 : 1 ≤ vs.length
  n12 : vs.length ≤ 12
  len : ws.length = vs.length
  val : ∀ k, k < vs.length → -20 ≤ nth vs k ∧ nth vs k ≤ 20 ∧ 1 ≤ nth ws k ∧ nth ws k ≤ 100
def oddBad (x y : Int) : Bool := decide (x < -20 ∨ 20 < x ∨ y < 1 ∨ 100 < y)
/-- what odds.Check says -/
def chkO (vs ws : List Int) : Int := if vs.length < 1 ∨ 12 < vs.length then 2 else if ws.length ≠ vs.length then 3 else if (List.range vs.length).any (fun k => oddBad (nth vs k) (nth ws k)) then 1 else 0
theorem chkO_ok {vs ws : List Int} (h : chkO vs ws = 0) : OddOk vs ws := by
  unfold chkO at h
  split at h
  · omega
  · split at h
    · omega
    · split at h
      · omega
      · next h1 h2 h3 =>
        refine ⟨by omega, by omega, by omega, fun k hk => ?_⟩
        have h4 : ¬ (oddBad (nth vs k) (nth ws k) = true) := fun e => h3 (List.any_eq_true.2 ⟨k, List.mem_range.2 hk, e⟩)
        simp only [oddBad, decide_eq_true_eq] at h4
        omega
theorem chkO_of {vs ws : List Int} (h : OddOk vs ws) : chkO vs ws = 0 := by
  obtain ⟨h1, h2, h3, h4⟩ := h
  unfold chkO
  rw [if_neg (by omega), if_neg (by omega), if_neg]
  intro h
  obtain ⟨k, hk, e⟩ := List.any_eq_true.1 h
  have := h4 k (List.mem_range.1 hk)
  simp only [oddBad, decide_eq_true_eq] at e
  omega

/-- the first k weights, each times a number of its value, together -/
def wsK (F : Int → Int) (vs ws : List Int) : Nat → Int
  | 0 => 0
  | k + 1 => wsK F vs ws k + nth ws k * F (nth vs k)
def oW (vs ws : List Int) : Int := wsK (fun _ => 1) vs ws vs.length
def oA (vs ws : List Int) : Int := wsK (fun x => x) vs ws vs.length
def oB (vs ws : List Int) : Int := wsK (fun x => x * x) vs ws vs.length
theorem wsK_bd {vs ws : List Int} (h : OddOk vs ws) (F : Int → Int) (A : Int) (hA : 0 ≤ A) (hF : ∀ x, -20 ≤ x → x ≤ 20 → -A ≤ F x ∧ F x ≤ A) : ∀ k : Nat, k ≤ vs.length → -(100 * A * k) ≤ wsK F vs ws k ∧ wsK F vs ws k ≤ 100 * A * k
  | 0, _ => by simp [wsK]
  | k + 1, hk => by
    have ih := wsK_bd h F A hA hF k (by omega)
    obtain ⟨v1, v2, v3, v4⟩ := h.val k (by omega)
    have hf := hF _ v1 v2
    have m := mul_bdI (nth ws k) (F (nth vs k)) 100 A (by omega) hf
    rw [wsK]
    have e : 100 * A * ((k + 1 : Nat) : Int) = 100 * A * k + 100 * A := by grind
    rw [e]; omega
theorem term_bd {vs ws : List Int} (h : OddOk vs ws) (F : Int → Int) (hF : ∀ x, -20 ≤ x → x ≤ 20 → -400 ≤ F x ∧ F x ≤ 400) (k : Nat) (hk : k < vs.length) : -40000 ≤ nth ws k * F (nth vs k) ∧ nth ws k * F (nth vs k) ≤ 40000 := by
  obtain ⟨v1, v2, v3, v4⟩ := h.val k hk
  exact mul_bdI (nth ws k) (F (nth vs k)) 100 400 (by omega) (hF _ v1 v2)
theorem oW_bd {vs ws : List Int} (h : OddOk vs ws) : 1 ≤ oW vs ws ∧ oW vs ws ≤ 1200 := by
  have hk : ∀ k : Nat, k ≤ vs.length → (k : Int) ≤ wsK (fun _ => 1) vs ws k ∧ wsK (fun _ => 1) vs ws k ≤ 100 * k := fun k => by
    induction k with
    | zero => intro _; simp [wsK]
    | succ k ih =>
      intro hk
      have := ih (by omega)
      have := h.val k (by omega)
      rw [wsK]; omega
  have := hk vs.length (Nat.le_refl _)
  have := h.n1; have := h.n12
  unfold oW; omega
theorem oA_bd {vs ws : List Int} (h : OddOk vs ws) : -24000 ≤ oA vs ws ∧ oA vs ws ≤ 24000 := by
  have := wsK_bd h (fun x => x) 20 (by omega) (fun x a b => by omega) vs.length (Nat.le_refl _)
  have := h.n12
  unfold oA; omega
theorem sq_bd (x : Int) (h1 : -20 ≤ x) (h2 : x ≤ 20) : 0 ≤ x * x ∧ x * x ≤ 400 := by
  have := mul_bdI x x 20 20 ⟨h1, h2⟩ ⟨h1, h2⟩
  exact ⟨by rcases Int.le_total 0 x with h | h; exact Int.mul_nonneg h h; exact Int.mul_nonneg_of_nonpos_of_nonpos h h, by omega⟩
theorem mul_self_nn (x : Int) : 0 ≤ x * x := by
  rcases Int.le_total 0 x with h | h
  · exact Int.mul_nonneg h h
  · exact Int.mul_nonneg_of_nonpos_of_nonpos h h
theorem wsK_nn {vs ws : List Int} (h : OddOk vs ws) (F : Int → Int) (hF : ∀ x, 0 ≤ F x) : ∀ k : Nat, k ≤ vs.length → 0 ≤ wsK F vs ws k
  | 0, _ => by simp [wsK]
  | k + 1, hk => by
    have ih := wsK_nn h F hF k (by omega)
    have := h.val k (by omega)
    have := Int.mul_nonneg (show 0 ≤ nth ws k by omega) (hF (nth vs k))
    rw [wsK]; omega
theorem oB_bd {vs ws : List Int} (h : OddOk vs ws) : 0 ≤ oB vs ws ∧ oB vs ws ≤ 480000 := by
  have := wsK_bd h (fun x => x * x) 400 (by omega) (fun x a b => by have := sq_bd x a b; omega) vs.length (Nat.le_refl _)
  have := h.n12
  have := wsK_nn h (fun x => x * x) mul_self_nn vs.length (Nat.le_refl _)
  unfold oB; omega
/-- linear in the function -/
theorem wsK_dev (vs ws : List Int) (c d : Int) : ∀ k, wsK (fun x => (c - d * x) * (c - d * x)) vs ws k = c * c * wsK (fun _ => 1) vs ws k - 2 * c * d * wsK (fun x => x) vs ws k + d * d * wsK (fun x => x * x) vs ws k
  | 0 => by simp [wsK]
  | k + 1 => by
    rw [wsK, wsK, wsK, wsK, wsK_dev vs ws c d k]; grind
/-- the inequality of Cauchy and Schwarz -/
theorem odd_cs {vs ws : List Int} (h : OddOk vs ws) : 0 ≤ oW vs ws * oB vs ws - oA vs ws * oA vs ws := by
  have hw := oW_bd h
  have h1 := wsK_nn h (fun x => (oA vs ws - oW vs ws * x) * (oA vs ws - oW vs ws * x)) (fun x => mul_self_nn _) vs.length (Nat.le_refl _)
  rw [wsK_dev] at h1
  have e : oA vs ws * oA vs ws * oW vs ws - 2 * oA vs ws * oW vs ws * oA vs ws + oW vs ws * oW vs ws * oB vs ws = oW vs ws * (oW vs ws * oB vs ws - oA vs ws * oA vs ws) := by grind
  have h2 : 0 ≤ oW vs ws * (oW vs ws * oB vs ws - oA vs ws * oA vs ws) := by rw [← e]; exact h1
  rcases Int.lt_or_le (oW vs ws * oB vs ws - oA vs ws * oA vs ws) 0 with h3 | h3
  · have := Int.mul_neg_of_pos_of_neg (show 0 < oW vs ws by omega) h3
    omega
  · exact h3
def sP (vs ws : List Int) : Int := oW vs ws * oB vs ws - oA vs ws * oA vs ws
def sQ (vs ws : List Int) : Int := oW vs ws * oW vs ws
theorem sPQ_bd {vs ws : List Int} (h : OddOk vs ws) : 0 ≤ sP vs ws ∧ sP vs ws ≤ 576000000 ∧ 1 ≤ sQ vs ws ∧ sQ vs ws ≤ 1440000 := by
  have h1 := oW_bd h; have h2 := oA_bd h; have h3 := oB_bd h
  have m1 := mul_bdI (oW vs ws) (oB vs ws) 1200 480000 (by omega) (by omega)
  have m2 := mul_self_nn (oA vs ws)
  have m3 := mul_bdI (oW vs ws) (oW vs ws) 1200 1200 (by omega) (by omega)
  have m4 := Int.mul_pos (show 0 < oW vs ws by omega) (show 0 < oW vs ws by omega)
  have := odd_cs h
  unfold sP sQ; omega
end Go.Proofs.Ytdabgibmbmhmdaa
