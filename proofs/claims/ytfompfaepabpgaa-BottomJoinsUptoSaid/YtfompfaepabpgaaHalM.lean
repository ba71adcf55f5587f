/- A hall, in plain words: members, loans. -/
import Derived.Test.YtfompfaepabpgaaFG
namespace Go.Proofs.Ytfompfaepabpgaa
open Go.RowKit

structure Mem where
  nm : ByteArray
  tk : Int
  wn : Int
structure Loan where
  fr : ByteArray
  to : ByteArray
  n : Int
def memC (m : Mem) : List Value := [.string m.nm, .int .i64 m.tk, .int .i64 m.wn]
def loanC (l : Loan) : List Value := [.string l.fr, .string l.to, .int .i64 l.n]
/-- structs laid one behind the other -/
def rowsC {α : Type} (f : α → List Value) : List α → List Value
  | [] => []
  | x :: l => f x ++ rowsC f l
theorem rowsC_len {α : Type} {f : α → List Value} {c : Nat} (hf : ∀ x, (f x).length = c) : ∀ l : List α, (rowsC f l).length = l.length * c
  | [] => by simp [rowsC]
  | x :: l => by rw [rowsC, List.length_append, hf, rowsC_len hf l, List.length_cons, Nat.add_mul]; omega
theorem rowsC_app {α : Type} (f : α → List Value) : ∀ a b : List α, rowsC f (a ++ b) = rowsC f a ++ rowsC f b
  | [], b => rfl
  | x :: a, b => by rw [List.cons_append, rowsC, rowsC, rowsC_app f a b, List.append_assoc]
theorem rowsC_one {α : Type} (f : α → List Value) (x : α) : rowsC f [x] = f x := by simp [rowsC]
theorem rowsC_get {α : Type} {f : α → List Value} {c : Nat} (hf : ∀ x, (f x).length = c) : ∀ (l : List α) (i j : Nat) (x : α), l[i]? = some x → j < c → (rowsC f l)[i * c + j]? = (f x)[j]?
  | [], i, j, x, h, _ => by simp at h
  | y :: l, 0, j, x, h, hj => by
    have : y = x := by simpa using h
    subst this
    rw [rowsC, Nat.zero_mul, Nat.zero_add, List.getElem?_append_left (by rw [hf]; exact hj)]
  | y :: l, i + 1, j, x, h, hj => by
    rw [rowsC, List.getElem?_append_right (by rw [hf, Nat.add_mul]; omega), hf, show (i + 1) * c + j - c = i * c + j by rw [Nat.add_mul]; omega]
    exact rowsC_get hf l i j x (by simpa using h) hj
theorem rowsC_set {α : Type} {f : α → List Value} {c : Nat} (hf : ∀ x, (f x).length = c) : ∀ (l : List α) (i j : Nat) (x y : α) (v : Value), l[i]? = some x → j < c → (f x).set j v = f y → (rowsC f l).set (i * c + j) v = rowsC f (l.set i y)
  | [], i, j, x, y, v, h, _, _ => by simp at h
  | z :: l, 0, j, x, y, v, h, hj, e => by
    have : z = x := by simpa using h
    subst this
    rw [rowsC, Nat.zero_mul, Nat.zero_add, List.set_append_left _ _ (by rw [hf]; exact hj), e]; rfl
  | z :: l, i + 1, j, x, y, v, h, hj, e => by
    rw [rowsC, List.set_append_right _ _ (by rw [hf, Nat.add_mul]; omega), hf, show (i + 1) * c + j - c = i * c + j by rw [Nat.add_mul]; omega]
    rw [rowsC_set hf l i j x y v (by simpa using h) hj e]; rfl
theorem memC_len (m : Mem) : (memC m).length = 3 := rfl
theorem loanC_len (l : Loan) : (loanC l).length = 3 := rfl
/-- a small letter -/
def lowB (b : UInt8) : Bool := decide (97 ≤ b.toNat) && decide (b.toNat ≤ 122)
def namedB (s : ByteArray) : Bool := s.data.toList.all lowB && decide (0 < s.size) && decide (s.size ≤ 12)
/-- the place of a name among the members; their number, if it is not there -/
def findM (nm : ByteArray) : List Mem → Nat
  | [] => 0
  | m :: l => if m.nm = nm then 0 else findM nm l + 1
theorem findM_le (nm : ByteArray) : ∀ l, findM nm l ≤ l.length
  | [] => Nat.le_refl _
  | m :: l => by have := findM_le nm l; rw [findM, List.length_cons]; split <;> omega
structure HSt where
  M : List Mem
  L : List Loan
end Go.Proofs.Ytfompfaepabpgaa
