/- Plain mathematics: paths that stay at or above 0; Catalan and ballot numbers by rows. -/
import Derived.Test.YtdcekplmmfenlaaRows
namespace Go.Proofs.Ytdcekplmmfenlaa
/-- how many paths of t steps lead from 0 to h, none of them below 0 -/
def pathN : Nat → Nat → Nat
  | 0, 0 => 1
  | 0, _ + 1 => 0
  | t + 1, 0 => pathN t 1
  | t + 1, h + 1 => pathN t h + pathN t (h + 2)
def addL : List Nat → List Nat → List Nat
  | [], l => l
  | l, [] => l
  | a :: l, b :: m => (a + b) :: addL l m
theorem addL_get : ∀ (l m : List Nat) (i : Nat), (addL l m).getD i 0 = l.getD i 0 + m.getD i 0
  | [], m, i => by simp [addL]
  | a :: l, [], i => by simp [addL]
  | a :: l, b :: m, 0 => by simp [addL]
  | a :: l, b :: m, i + 1 => by
    have := addL_get l m i
    simpa [addL] using this
def pathRow : Nat → List Nat
  | 0 => [1]
  | t + 1 => addL (pathRow t).tail (0 :: pathRow t)
theorem pathRow_get : ∀ t h, (pathRow t).getD h 0 = pathN t h
  | 0, 0 => rfl
  | 0, h + 1 => by simp [pathRow, pathN]
  | t + 1, 0 => by
    have := pathRow_get t 1
    rw [pathRow, addL_get, pathN, ← this]
    cases pathRow t <;> simp
  | t + 1, h + 1 => by
    have h1 := pathRow_get t h
    have h2 := pathRow_get t (h + 2)
    rw [pathRow, addL_get, pathN, ← h1, ← h2]
    cases pathRow t with
    | nil => simp
    | cons a l => simp; omega
theorem pathN_gt : ∀ t h, t < h → pathN t h = 0
  | 0, 0, h => by omega
  | 0, h + 1, _ => rfl
  | t + 1, 0, h => by omega
  | t + 1, h + 1, hh => by rw [pathN, pathN_gt t h (by omega), pathN_gt t (h + 2) (by omega)]
theorem pathN_le : ∀ t h, pathN t h ≤ 2 ^ t
  | 0, 0 => by simp [pathN]
  | 0, h + 1 => by simp [pathN]
  | t + 1, 0 => by have := pathN_le t 1; rw [pathN, Nat.pow_succ]; omega
  | t + 1, h + 1 => by have := pathN_le t h; have := pathN_le t (h + 2); rw [pathN, Nat.pow_succ]; omega
theorem pathN_le31 (t h : Nat) (ht : t ≤ 31) : pathN t h ≤ 2147483648 := Nat.le_trans (pathN_le t h) (Nat.pow_le_pow_right (n := 2) (by omega) ht)
/-- Catalan numbers -/
def catN (n : Nat) : Nat := pathN (2 * n) 0
def catL (n : Nat) : Nat := (pathRow (2 * n)).getD 0 0
theorem catL_eq (n : Nat) : catL n = catN n := pathRow_get (2 * n) 0
theorem cat_small : ∀ n, n < 17 → catN n ≤ 100000000 := by
  intro n hn
  rw [← catL_eq]
  have : ∀ n, n < 17 → catL n ≤ 100000000 := by decide +kernel
  exact this n hn
end Go.Proofs.Ytdcekplmmfenlaa
