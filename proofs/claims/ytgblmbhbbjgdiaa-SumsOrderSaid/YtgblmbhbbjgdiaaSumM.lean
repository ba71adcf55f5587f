/- Plain laws of sums by twos (Fenwick). -/
import Derived.Test.YtgblmbhbbjgdiaaArr4
import Derived.Laws.BitsAllLaws
namespace Go.Proofs.Ytgblmbhbbjgdiaa
open Go.RowKit

def lb (k : Nat) : Nat := Nat.gcd k 64
theorem lb_bits : ∀ k : Nat, k < 65 → 0 < k → bits .and .i64 (k : Int) (-(k : Int)) = (lb k : Int) := by decide +kernel
theorem lb_bd : ∀ k, k < 65 → 0 < k → 1 ≤ lb k ∧ lb k ≤ k := by decide +kernel
theorem lb_gap : ∀ k, k < 65 → ∀ j, j < 65 → 0 < k → k < j → j < k + lb k → k + lb j ≤ j := by decide +kernel
theorem lb_up : ∀ k, k < 65 → 0 < k → k + lb k < 65 → k + lb k - lb (k + lb k) ≤ k - lb k := by decide +kernel
def pre (v : List Int) : Nat → Int
  | 0 => 0
  | k + 1 => pre v k + nth v k
theorem pre_set (v : List Int) (i : Nat) (y : Int) (hi : i < v.length) : ∀ k, pre (v.set i y) k = pre v k + if i < k then y - nth v i else 0
  | 0 => by simp [pre]
  | k + 1 => by
    rw [pre, pre, pre_set v i y hi k, nth_set _ _ _ _ hi]
    by_cases e : k = i
    · subst e; rw [if_pos rfl, if_neg (by omega), if_pos (by omega)]; omega
    · rw [if_neg e]
      by_cases h : i < k
      · rw [if_pos h, if_pos (by omega)]; omega
      · rw [if_neg h, if_neg (by omega)]; omega
structure VOk (v : List Int) (n : Nat) : Prop where
  len : v.length = n
  n1 : 1 ≤ n
  n64 : n ≤ 64
  bd : ∀ i, 0 ≤ nth v i ∧ nth v i ≤ 1000000000
theorem pre_mono {v : List Int} {n : Nat} (h : VOk v n) : ∀ d k, pre v k ≤ pre v (k + d)
  | 0, _ => Int.le_refl _
  | d + 1, k => by
    have := pre_mono h d k
    have := h.bd (k + d)
    rw [← Nat.add_assoc, pre]; omega
theorem pre_le {v : List Int} {n : Nat} (h : VOk v n) {j k : Nat} (hjk : j ≤ k) : pre v j ≤ pre v k := by
  have := pre_mono h (k - j) j
  rwa [show j + (k - j) = k from by omega] at this
theorem pre_bd {v : List Int} {n : Nat} (h : VOk v n) : ∀ k, k ≤ 64 → 0 ≤ pre v k ∧ pre v k ≤ k * 1000000000
  | 0, _ => by simp [pre]
  | k + 1, hk => by
    have := pre_bd h k (by omega)
    have := h.bd k
    rw [pre]; omega
def fenV (v : List Int) (k : Nat) : Int := pre v k - pre v (k - lb k)
def fenP (v v' : List Int) (n k : Nat) : List Int := (List.range (n + 1)).map fun j => if j < k then fenV v' j else fenV v j
def fenL (v : List Int) (n : Nat) : List Int := (List.range (n + 1)).map fun j => fenV v j
theorem fenL_len (v : List Int) (n : Nat) : (fenL v n).length = n + 1 := by simp [fenL]
theorem fenP_len (v v' : List Int) (n k : Nat) : (fenP v v' n k).length = n + 1 := by simp [fenP]
theorem fenL_nth (v : List Int) (n j : Nat) (h : j ≤ n) : nth (fenL v n) j = fenV v j := by simp [fenL, nth, show j < n + 1 from by omega]
theorem fenP_nth (v v' : List Int) (n k j : Nat) (h : j ≤ n) : nth (fenP v v' n k) j = if j < k then fenV v' j else fenV v j := by simp [fenP, nth, show j < n + 1 from by omega]
theorem fenL_zero (n : Nat) : List.replicate (n + 1) 0 = fenL (List.replicate n 0) n := ext_nth (by simp [fenL]) (fun j hj => by
  rw [List.length_replicate] at hj
  have z : ∀ k, pre (List.replicate n 0) k = 0 := by
    intro k
    induction k with
    | zero => rfl
    | succ k ih =>
      rw [pre, ih]
      by_cases h : k < n
      · rw [nth_rep _ _ _ h]; rfl
      · simp [nth, h]
  rw [nth_rep _ _ _ hj, fenL_nth _ _ _ (by omega), fenV, z, z]; rfl)
section
variable {v : List Int} {n : Nat} (h : VOk v n) (i : Nat) (hi : i < n) (y : Int)
include h hi
theorem fenV_same (j : Nat) (_hj : j ≤ n) (hout : j ≤ i ∨ i < j - lb j) : fenV (v.set i y) j = fenV v j := by
  have hi' : i < v.length := by rw [h.len]; exact hi
  unfold fenV
  rw [pre_set v i y hi', pre_set v i y hi']
  rcases hout with h1 | h1
  · rw [if_neg (by omega), if_neg (by omega)]; omega
  · rw [if_pos (by omega), if_pos h1]; omega
theorem fenP_start : fenP v (v.set i y) n (i + 1) = fenL v n := ext_nth (by rw [fenP_len, fenL_len]) (fun j hj => by
  rw [fenP_len] at hj
  rw [fenP_nth _ _ _ _ _ (by omega), fenL_nth _ _ _ (by omega)]
  split
  · exact fenV_same h i hi y j (by omega) (.inl (by omega))
  · rfl)
omit h hi in
theorem fenP_end (k : Nat) (hk : n < k) : fenP v (v.set i y) n k = fenL (v.set i y) n := ext_nth (by rw [fenP_len, fenL_len]) (fun j hj => by
  rw [fenP_len] at hj
  rw [fenP_nth _ _ _ _ _ (by omega), fenL_nth _ _ _ (by omega), if_pos (by omega)])
theorem fenP_step (k : Nat) (hk : k ≤ n) (h1 : k - lb k ≤ i) (h2 : i < k) : (fenP v (v.set i y) n k).set k (nth (fenP v (v.set i y) n k) k + (y - nth v i)) = fenP v (v.set i y) n (k + lb k) := ext_nth (by rw [List.length_set, fenP_len, fenP_len]) (fun j hj => by
  rw [List.length_set, fenP_len] at hj
  have hn := h.n64
  have hb := lb_bd k (by omega) (by omega)
  have hi' : i < v.length := by rw [h.len]; exact hi
  rw [nth_set _ _ _ _ (by rw [fenP_len]; omega), fenP_nth _ _ _ _ _ (by omega), fenP_nth _ _ _ _ _ (by omega), fenP_nth _ _ _ _ _ (by omega)]
  by_cases e : j = k
  · subst e
    rw [if_pos rfl, if_neg (by omega), if_pos (by omega)]
    unfold fenV
    rw [pre_set v i y hi', pre_set v i y hi', if_pos h2, if_neg (by omega)]; omega
  · rw [if_neg e]
    by_cases hlt : j < k
    · rw [if_pos hlt, if_pos (by omega)]
    · rw [if_neg hlt]
      by_cases hlt2 : j < k + lb k
      · rw [if_pos hlt2]
        have := lb_gap k (by omega) j (by omega) (by omega) (by omega) hlt2
        exact (fenV_same h i hi y j (by omega) (.inr (by omega))).symm
      · rw [if_neg hlt2])
end
/-- what an addition makes of the numbers -/
def addV (v : List Int) (i : Nat) (x : Int) : List Int × Int :=
  if nth v i + x < 0 then (v, 3) else if 1000000000 < nth v i + x then (v, 2) else (v.set i (nth v i + x), 0)
theorem addV_ok {v : List Int} {n : Nat} (h : VOk v n) (i : Nat) (hi : i < n) (x : Int) : VOk (addV v i x).1 n := by
  unfold addV
  split
  · exact h
  · split
    · exact h
    · refine ⟨by rw [List.length_set, h.len], h.n1, h.n64, fun j => ?_⟩
      rw [nth_set _ _ _ _ (by rw [h.len]; exact hi)]
      split
      · omega
      · exact h.bd j
theorem zero_ok (n : Nat) (h1 : 1 ≤ n) (h2 : n ≤ 64) : VOk (List.replicate n 0) n := ⟨by simp, h1, h2, fun i => by
  by_cases h : i < n
  · rw [nth_rep _ _ _ h]; omega
  · simp [nth, h]⟩
/-! finding -/
theorem lb_find : ∀ s, s < 7 → ∀ a, a < 65 → a % (2 * 2 ^ s) = 0 → a + 2 ^ s < 65 → lb (a + 2 ^ s) = 2 ^ s := by decide +kernel
/-- the one that x falls into -/
theorem find_uniq {v : List Int} {n : Nat} (h : VOk v n) (x : Int) (j k : Nat) (j1 : pre v j ≤ x) (j2 : x < pre v (j + 1)) (k1 : pre v k ≤ x) (k2 : x < pre v (k + 1)) : j = k := by
  rcases Nat.lt_trichotomy j k with hlt | rfl | hlt
  · have := pre_le h (show j + 1 ≤ k by omega); omega
  · rfl
  · have := pre_le h (show k + 1 ≤ j by omega); omega
end Go.Proofs.Ytgblmbhbbjgdiaa
