/- A block known whole: a row of n ints, the numbers f 0 .. f (n-1). -/
import Derived.Test.YtdabgibmbmhmdaaBase
import Derived.OwnWalk
import Derived.Laws.MakeOwn
namespace Go.Proofs.Ytdabgibmbmhmdaa
open Go.RowKit

def rowCells (n : Nat) (f : Nat → Int) : Array Value := ((List.range n).map fun i => Value.int .i64 (f i)).toArray
/-- block B is a row of n ints f 0 .. f (n-1), writable -/
def RowAt (w : World) (B T n : Nat) (f : Nat → Int) : Prop := w.heap[B]? = some (.cells (rowCells n f) T (0, 0))

theorem rowCells_size (n : Nat) (f : Nat → Int) : (rowCells n f).size = n := by simp [rowCells]
theorem rowCells_get (n : Nat) (f : Nat → Int) (i : Nat) (h : i < n) : (rowCells n f)[i]? = some (.int .i64 (f i)) := by simp [rowCells, h]
theorem rowCells_congr (n : Nat) (f g : Nat → Int) (h : ∀ i, i < n → f i = g i) : rowCells n f = rowCells n g := by
  unfold rowCells
  congr 1
  apply List.map_congr_left
  intro i hi
  rw [h i (by simpa using hi)]
theorem RowAt.congr {w : World} {B T n : Nat} {f g : Nat → Int} (h : RowAt w B T n f) (e : ∀ i, i < n → f i = g i) : RowAt w B T n g := by
  unfold RowAt at *; rw [h, rowCells_congr n f g e]
theorem RowAt.cell {w : World} {B T n : Nat} {f : Nat → Int} (h : RowAt w B T n f) (i : Nat) (hi : i < n) : w.cell? ⟨B, i, none⟩ = some (.int .i64 (f i)) := by
  unfold World.cell?
  rw [show ((⟨B, i, none⟩ : Addr).block) = B from rfl, h]
  simp [rowCells_get n f i hi]
theorem RowAt.thawed {w : World} {B T n : Nat} {f : Nat → Int} (h : RowAt w B T n f) (i : Nat) : w.frozen? ⟨B, i, none⟩ = false := by
  unfold World.frozen?
  rw [show ((⟨B, i, none⟩ : Addr).block) = B from rfl, h]
  simp
theorem rowCells_set (n : Nat) (f : Nat → Int) (i : Nat) (v : Int) : (rowCells n f).setIfInBounds i (.int .i64 v) = rowCells n (fun j => if j = i then v else f j) := by
  apply Array.ext_getElem?
  intro j
  by_cases hj : j < n
  · rw [rowCells_get n _ j hj, Array.getElem?_setIfInBounds]
    by_cases e : i = j
    · subst e; simp [rowCells_size, hj]
    · rw [if_neg e, rowCells_get n _ j hj, if_neg (fun x => e x.symm)]
  · rw [Array.getElem?_eq_none (by rw [Array.size_setIfInBounds, rowCells_size]; omega), Array.getElem?_eq_none (by rw [rowCells_size]; omega)]
theorem RowAt.set {w : World} {B T n : Nat} {f : Nat → Int} (h : RowAt w B T n f) (i : Nat) (v : Int) : RowAt (w.setCell ⟨B, i, none⟩ (.int .i64 v)) B T n (fun j => if j = i then v else f j) := by
  unfold RowAt at *
  unfold World.setCell
  simp only [Array.getElem?_modify, if_true, h, Option.map_some]
  congr 2
  simp only [Option.isSome_none, Bool.false_eq_true, if_false]
  exact rowCells_set n f i v
theorem RowAt.drew {w : World} {B T n : Nat} {f : Nat → Int} (h : RowAt w B T n f) : RowAt w.drew B T n f := h
theorem RowAt.drewN {w : World} {B T n : Nat} {f : Nat → Int} (h : RowAt w B T n f) (k : Nat) : RowAt (w.drewN k) B T n f := h
theorem RowAt.alloc {w : World} {B T n : Nat} {f : Nat → Int} (h : RowAt w B T n f) (o : Obj) : RowAt (w.alloc o) B T n f := by
  unfold RowAt at *
  have hB : B < w.heap.size := (Array.getElem?_eq_some_iff.1 h).1
  rw [Below.heap_alloc w o B hB, h]
theorem RowAt.new (w : World) (T n : Nat) (f : Nat → Int) : RowAt (w.alloc (.cells (rowCells n f) T)) w.heap.size T n f := by
  show (w.heap.push _)[w.heap.size]? = _
  exact Array.getElem?_push_size
theorem RowAt.new' (w : World) (T n : Nat) (f : Nat → Int) (c : Array Value) (h : c = rowCells n f) : RowAt (w.alloc (.cells c T)) w.heap.size T n f := by
  subst h; exact RowAt.new w T n f
theorem RowAt.zeros (w : World) (T n : Nat) : RowAt (w.alloc (.cells (Array.replicate n (.int .i64 0)) T)) w.heap.size T n (fun _ => 0) := by
  apply RowAt.new'
  unfold rowCells
  apply Array.ext'
  simp [List.map_const']
theorem RowAt.lt {w : World} {B T n : Nat} {f : Nat → Int} (h : RowAt w B T n f) : B < w.heap.size := by
  unfold RowAt at h
  exact (Array.getElem?_eq_some_iff.1 h).1
theorem RowAt.below {w w' : World} {B T n B0 : Nat} {f : Nat → Int} (h : RowAt w B T n f) (b : Below B0 w w') (hB : B < B0) : RowAt w' B T n f := by
  unfold RowAt at *; rw [b.block B hB, h]

theorem intInfo : (Try.prog.info? 3).map (fun i => (i.zero, i.size, i.bytes)) = some (some (.int .i64 0), 1, 8) := by kernel_rfl
theorem madeInts (n : Nat) : madeCells (Value.cells (.int .i64 0)) (n * 1) = rowCells n (fun _ => 0) := by
  rw [Nat.mul_one]
  apply Array.ext
  · rw [size_madeCells, rowCells_size]
  · intro i h1 h2
    have e1 : (madeCells (Value.cells (.int .i64 0)) n)[i] = Value.int .i64 0 := by
      simp [madeCells, Value.cells, Nat.mod_one]
    have e2 : (rowCells n (fun _ => 0))[i] = Value.int .i64 0 := by simp [rowCells]
    rw [e1, e2]
/-- make([]int, n) -/
theorem make_ints (n : Nat) (h : n ≤ 1000000) (w : World) : Sem.run Try.prog (Instr.makeSlice 22 (.int .i64 (n : Int)) (.int .i64 (n : Int))) w = .ok (.slice (some ⟨w.heap.size, 0, none⟩) n n) (w.alloc (.cells (rowCells n (fun _ => 0)) 3)) := by
  obtain ⟨i0, hi, hz0, hz1, hz2⟩ := info_parts intInfo
  have := run_make (P := Try.prog) w 22 3 i0 (.int .i64 0) Try.underlying22 hi hz0 .i64 .i64 n n (by omega) (by omega) (by rw [hz2]; omega) (by omega)
  rw [this, hz1, Int.toNat_natCast, madeInts]
end Go.Proofs.Ytdabgibmbmhmdaa
