/- Rows that are only read. -/
import Derived.Test.YtdabgibmbmhmdaaArr4
namespace Go.Proofs.Ytdabgibmbmhmdaa
open Go.RowKit

/-- the row of the rows -/
abbrev outE (ad : Option Addr) (n cap : Nat) (R : List Rw) : Ent := ⟨22, .slice ad n cap, R.map rv⟩
def lsR (R : List Rw) : List (List Int) := R.map fun p => p.2.2
theorem lsR_len (R : List Rw) : (lsR R).length = R.length := by simp [lsR]
theorem lsR_get (R : List Rw) (i : Nat) (h : i < R.length) : (lsR R)[i]'(by rw [lsR_len]; exact h) = R[i].2.2 := by simp [lsR]
theorem lsR_set (R : List Rw) (i : Nat) (p : Rw) : lsR (R.set i p) = (lsR R).set i p.2.2 := by simp [lsR, List.map_set]
/-- rows that read as these -/
structure Rm (w : World) (a : Option Addr) (R : List Rw) : Prop where
  out : Sa w a (R.map rv)
  row : ∀ p ∈ R, Sa w p.1 (ints p.2.2)
theorem Rm.keep {w w' : World} {a : Option Addr} {R : List Rw} (h : Rm w a R) (k : Below w.heap.size w w') : Rm w' a R := ⟨h.out.keep k, fun p hp => (h.row p hp).keep k⟩
theorem Rm.at {w : World} {a : Option Addr} {R : List Rw} (h : Rm w a R) (i : Nat) (hi : i < R.length) : ∃ b off, a = some ⟨b, off, .none⟩ ∧ b < w.heap.size ∧ w.cell? ⟨b, off + i, .none⟩ = some (rv R[i]) ∧ Sa w R[i].1 (ints R[i].2.2) := by
  obtain ⟨b, off, e, hb, hc⟩ := h.out.at i (by simpa using hi)
  exact ⟨b, off, e, hb, by rw [hc, List.getElem?_map, List.getElem?_eq_getElem hi]; rfl, h.row _ (List.getElem_mem hi)⟩
end Go.Proofs.Ytdabgibmbmhmdaa
