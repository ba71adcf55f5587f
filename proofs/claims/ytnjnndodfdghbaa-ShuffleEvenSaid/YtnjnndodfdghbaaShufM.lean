/- Of all rows of lots of at most five each order comes of one. -/
import Derived.Test.YtnjnndodfdghbaaRankM
namespace Go.Proofs.Ytnjnndodfdghbaa
open Go.RowKit

def lotsX (x n : Nat) : List Int := (List.range n).map fun i => ((x / facN i % (i + 1) : Nat) : Int)
theorem lotsX_len (x n : Nat) : (lotsX x n).length = n := by simp [lotsX]
theorem lotsX_succ (x n : Nat) : lotsX x (n + 1) = lotsX x n ++ [((x / facN n % (n + 1) : Nat) : Int)] := by simp [lotsX, List.range_succ]
theorem lotsX_ok (x n : Nat) : LotOk (lotsX x n) := fun i hi => by
  rw [lotsX_len] at hi
  have : nth (lotsX x n) i = ((x / facN i % (i + 1) : Nat) : Int) := by simp [nth, lotsX, hi]
  rw [this]
  have := Nat.mod_lt (x / facN i) (show 0 < i + 1 by omega)
  omega
def kX (n x : Nat) : Int := ofC (codeL (dealL (lotsX x n)))
theorem kX_bd (n x : Nat) : 0 ≤ kX n x ∧ kX n x < facN n := by
  have h := ofC_bd (codeL (dealL (lotsX x n))) (codeL_ok _)
  rw [codeL_len, (dealL_ok _ (lotsX_ok x n)).1, lotsX_len] at h
  exact h
def seenL (n x : Nat) : List Int := (List.range (facN n)).map fun k : Nat => (((List.range x).countP (fun y => kX n y == (k : Int)) : Nat) : Int)
theorem seenL_len (n x : Nat) : (seenL n x).length = facN n := by simp [seenL]
theorem seenL_nth (n x k : Nat) (h : k < facN n) : nth (seenL n x) k = ((List.range x).countP (fun y => kX n y == (k : Int)) : Nat) := by simp [nth, seenL, h]
theorem seenL_zero (n : Nat) : seenL n 0 = List.replicate (facN n) 0 := ext_nth (by rw [seenL_len]; simp) (fun i hi => by
  rw [seenL_len] at hi
  rw [seenL_nth _ _ _ hi, nth_rep _ _ _ hi]; rfl)
theorem seenL_step (n x K : Nat) (hK : kX n x = K) : (seenL n x).set K (nth (seenL n x) K + 1) = seenL n (x + 1) := by
  have hb := kX_bd n x
  rw [hK] at hb
  refine ext_nth (by simp [seenL_len]) (fun i hi => ?_)
  rw [List.length_set, seenL_len] at hi
  rw [nth_set _ _ _ _ (by rw [seenL_len]; omega), seenL_nth _ _ _ hi, seenL_nth n (x + 1) i hi, List.range_succ, List.countP_append, List.countP_singleton, hK]
  by_cases e : i = K
  · subst e; rw [if_pos rfl, seenL_nth _ _ _ hi]; simp
  · rw [if_neg e]
    have : ((K : Int) == (i : Int)) = false := by rw [beq_eq_false_iff_ne]; omega
    simp [this]
theorem seenL_bd (n x k : Nat) (h : k < facN n) : 0 ≤ nth (seenL n x) k ∧ nth (seenL n x) k ≤ x := by
  rw [seenL_nth _ _ _ h]
  have := List.countP_le_length (p := fun y => kX n y == (k : Int)) (l := List.range x)
  rw [List.length_range] at this
  omega
def chkX (n : Nat) (L : List Int) : Bool := ((List.range (facN n)).map (kX n) == L) && (List.range (facN n)).all (fun k => L.countP (· == (k : Int)) == 1)
theorem all0 : chkX 0 [0] = true := by decide +kernel
theorem all1 : chkX 1 [0] = true := by decide +kernel
theorem all2 : chkX 2 [1, 0] = true := by decide +kernel
theorem all3 : chkX 3 [4, 5, 3, 1, 2, 0] = true := by decide +kernel
theorem all4 : chkX 4 [18, 20, 22, 23, 19, 21, 17, 16, 10, 4, 11, 5, 13, 15, 9, 3, 7, 1, 12, 14, 8, 2, 6, 0] = true := by decide +kernel
theorem all5 : chkX 5 [96, 102, 108, 110, 98, 104, 116, 114, 115, 117, 118, 119, 100, 106, 112, 113, 101, 107, 97, 103, 109, 111, 99, 105, 93, 91, 90, 92, 95, 94, 68, 66, 42, 18, 44, 20, 71, 70, 46, 22, 47, 23, 69, 67, 43, 19, 45, 21, 77, 83, 89, 88, 76, 82, 64, 65, 41, 17, 40, 16, 52, 58, 34, 10, 28, 4, 53, 59, 35, 11, 29, 5, 73, 79, 85, 87, 75, 81, 63, 61, 37, 13, 39, 15, 51, 57, 33, 9, 27, 3, 49, 55, 31, 7, 25, 1, 72, 78, 84, 86, 74, 80, 62, 60, 36, 12, 38, 14, 50, 56, 32, 8, 26, 2, 48, 54, 30, 6, 24, 0] = true := by decide +kernel
theorem chkX_all {n : Nat} {L : List Int} (h : chkX n L = true) : ∀ k, k < facN n → nth (seenL n (facN n)) k = 1 := by
  unfold chkX at h
  rw [Bool.and_eq_true, beq_iff_eq, List.all_eq_true] at h
  intro k hk
  rw [seenL_nth _ _ _ hk]
  have h2 := h.2 k (List.mem_range.2 hk)
  rw [← h.1, List.countP_map, beq_iff_eq] at h2
  have e : (List.range (facN n)).countP (fun y => kX n y == (k : Int)) = (List.range (facN n)).countP ((fun x => x == (k : Int)) ∘ kX n) := rfl
  rw [e, h2]; rfl
theorem seen_all : ∀ n, n ≤ 5 → ∀ k, k < facN n → nth (seenL n (facN n)) k = 1
  | 0, _ => chkX_all all0
  | 1, _ => chkX_all all1
  | 2, _ => chkX_all all2
  | 3, _ => chkX_all all3
  | 4, _ => chkX_all all4
  | 5, _ => chkX_all all5
  | n + 6, h => by omega
end Go.Proofs.Ytnjnndodfdghbaa
