/- Several of my texts in one: Base, Row. -/
import Derived.Test.YtbolgfiafbhicaaDoorRows
import Derived.WalkKit
import Derived.IntWalk
import Derived.ProofKit
import Derived.OpenShut
import Derived.Outline
import Derived.WalkSpells
import Derived.Lib.Hide
import Derived.LoopTactic
import Derived.WalkSmall
import Derived.Deep.QuietTactic
import Derived.BigQuiet
import Derived.Deep.RegionWith
import Derived.OwnWalk
import Derived.Laws.MakeOwn
/- Contracts of the small helpers that many laws call: Rest, Within, good. -/
namespace Go.Proofs.YtbolgfiafbhicaaDoor
open Go.RowKit

theorem ret_int {k : IntKind} {a b : Int} (h : a = b) : Ending.returned (.int k a) = .returned (.int k b) := by rw [h]
theorem ret_bool {a b : Bool} (h : a = b) : Ending.returned (.bool a) = .returned (.bool b) := by rw [h]

/-- a contract that leaves the world alone, in a region that draws its order -/
theorem quiet_eq {P : Program} {f : FuncId} {args : Array Value} {w : World} {n : Nat} {v : Value}
    (h : Calls P f args (w.drewN n) fun e w' => e = .returned v ∧ w.drewN n = w') : Calls P f args (w.drewN n) fun e w'' => e = .returned v ∧ ∃ m, w'' = w.drewN m :=
  Calls.quiet_of_same (h.mono fun _ _ ⟨a, b⟩ => ⟨a, b.symm⟩)

theorem grown_drewN {W w' : World} (h : Grown W w') (n : Nat) : Grown W (w'.drewN n) := h
theorem grown_trans {W w1 w2 : World} (h1 : Grown W w1) (h2 : Grown w1 w2) : Grown W w2 := by
  refine ⟨World.keptBut_trans h1.1 h2.1, fun a => by rw [h2.2.1, h1.2.1], Nat.le_trans h1.2.2 h2.2.2⟩

theorem ret2_int {k l : IntKind} {a b c d : Int} (h : a = b) (h2 : c = d) : Ending.returned (.tuple #[.int k a, .int l c]) = .returned (.tuple #[.int k b, .int l d]) := by rw [h, h2]
theorem kin_trans {a b c : World} (h : Below a.heap.size a b) (k : Below b.heap.size b c) : Below a.heap.size a c := h.trans (k.mono h.size)
theorem bcell {W w1 : World} (hb : Below W.heap.size W w1) : (∀ b o, b < W.heap.size → w1.cell? ⟨b, o, none⟩ = W.cell? ⟨b, o, none⟩) ∧ (∀ b o, b < W.heap.size → w1.frozen? ⟨b, o, none⟩ = W.frozen? ⟨b, o, none⟩) :=
  ⟨fun b o h => hb.cell (p := ⟨b, o, none⟩) h, fun b o h => hb.frozen (p := ⟨b, o, none⟩) h⟩
theorem kin_alloc {a b : World} (h : Below a.heap.size a b) (o : Obj) : Below a.heap.size a (b.alloc o) := h.alloc h.size o
theorem val_int {k : IntKind} {a b : Int} (h : a = b) : Value.int k a = Value.int k b := by rw [h]
theorem wrap64_eq {a b : Int} (h : a = b) (h1 : -9223372036854775808 ≤ b) (h2 : b ≤ 9223372036854775807) : wrap64 a = b := by
  rw [h]; exact IntWalk.wrap64_in b ⟨h1, h2⟩
theorem val_wrap {a b : Int} (h : a = b) (h1 : -9223372036854775808 ≤ b) (h2 : b ≤ 9223372036854775807) : Value.int .i64 (wrap64 a) = Value.int .i64 b := by
  rw [wrap64_eq h h1 h2]

theorem emod_of_tmod (k n : Int) (h : 1 ≤ n) : k % n = if k.tmod n < 0 then k.tmod n + n else k.tmod n := by
  rw [Int.tmod_eq_emod]
  have := Int.emod_nonneg k (b := n) (by omega)
  have := Int.emod_lt_of_pos k (b := n) (by omega)
  have hn : (n.natAbs : Int) = n := by omega
  by_cases hc : 0 ≤ k ∨ n ∣ k
  · rw [if_pos hc]; simp; omega
  · rw [if_neg hc]
    rw [hn]
    split <;> omega

/-- are all of these numbers 0? -/
def allZ (xs : List Int) : Bool := xs.all (fun x => x == 0)

theorem cell_new (w : World) (c : Array Value) (T : TypeId) (i : Nat) : (w.alloc (.cells c T)).cell? ⟨w.heap.size, 0 + i, none⟩ = c[i]? := by
  have : (w.alloc (.cells c T)).heap[w.heap.size]? = some (.cells c T) := by
    show (w.heap.push _)[w.heap.size]? = _
    exact Array.getElem?_push_size
  unfold World.cell?
  rw [show ((⟨w.heap.size, 0 + i, none⟩ : Addr).block) = w.heap.size from rfl, this]
  simp
end Go.Proofs.YtbolgfiafbhicaaDoor
/- A block known whole: a row of n ints, the numbers f 0 .. f (n-1). -/
namespace Go.Proofs.YtbolgfiafbhicaaDoor
open Go.RowKit

def rowCells (n : Nat) (f : Nat → Int) : Array Value := ((List.range n).map fun i => Value.int .i64 (f i)).toArray
/-- block B is a row of n ints f 0 .. f (n-1), writable -/
def RowAt (w : World) (B T n : Nat) (f : Nat → Int) : Prop := w.heap[B]? = some (.cells (rowCells n f) T (0, 0))

theorem rowCells_size (n : Nat) (f : Nat → Int) : (rowCells n f).size = n := by simp [rowCells]
theorem rowCells_get (n : Nat) (f : Nat → Int) (i : Nat) (h : i < n) : (rowCells n f)[i]? = some (.int .i64 (f i)) := by simp [rowCells, h]
theorem rowCells_congr (n : Nat) (f g : Nat → Int) (h : ∀ i, i < n → f i = g i) : rowCells n f = rowCells n g := by
  unfold rowCells
  congr 1
  apply List.map_congr_left
  intro i hi
  rw [h i (by simpa using hi)]
theorem RowAt.congr {w : World} {B T n : Nat} {f g : Nat → Int} (h : RowAt w B T n f) (e : ∀ i, i < n → f i = g i) : RowAt w B T n g := by
  unfold RowAt at *; rw [h, rowCells_congr n f g e]
theorem RowAt.cell {w : World} {B T n : Nat} {f : Nat → Int} (h : RowAt w B T n f) (i : Nat) (hi : i < n) : w.cell? ⟨B, i, none⟩ = some (.int .i64 (f i)) := by
  unfold World.cell?
  rw [show ((⟨B, i, none⟩ : Addr).block) = B from rfl, h]
  simp [rowCells_get n f i hi]
theorem RowAt.thawed {w : World} {B T n : Nat} {f : Nat → Int} (h : RowAt w B T n f) (i : Nat) : w.frozen? ⟨B, i, none⟩ = false := by
  unfold World.frozen?
  rw [show ((⟨B, i, none⟩ : Addr).block) = B from rfl, h]
  simp
theorem rowCells_set (n : Nat) (f : Nat → Int) (i : Nat) (v : Int) : (rowCells n f).setIfInBounds i (.int .i64 v) = rowCells n (fun j => if j = i then v else f j) := by
  apply Array.ext_getElem?
  intro j
  by_cases hj : j < n
  · rw [rowCells_get n _ j hj, Array.getElem?_setIfInBounds]
    by_cases e : i = j
    · subst e; simp [rowCells_size, hj]
    · rw [if_neg e, rowCells_get n _ j hj, if_neg (fun x => e x.symm)]
  · rw [Array.getElem?_eq_none (by rw [Array.size_setIfInBounds, rowCells_size]; omega), Array.getElem?_eq_none (by rw [rowCells_size]; omega)]
theorem RowAt.set {w : World} {B T n : Nat} {f : Nat → Int} (h : RowAt w B T n f) (i : Nat) (v : Int) : RowAt (w.setCell ⟨B, i, none⟩ (.int .i64 v)) B T n (fun j => if j = i then v else f j) := by
  unfold RowAt at *
  unfold World.setCell
  simp only [Array.getElem?_modify, if_true, h, Option.map_some]
  congr 2
  simp only [Option.isSome_none, Bool.false_eq_true, if_false]
  exact rowCells_set n f i v
theorem RowAt.drew {w : World} {B T n : Nat} {f : Nat → Int} (h : RowAt w B T n f) : RowAt w.drew B T n f := h
theorem RowAt.drewN {w : World} {B T n : Nat} {f : Nat → Int} (h : RowAt w B T n f) (k : Nat) : RowAt (w.drewN k) B T n f := h
theorem RowAt.alloc {w : World} {B T n : Nat} {f : Nat → Int} (h : RowAt w B T n f) (o : Obj) : RowAt (w.alloc o) B T n f := by
  unfold RowAt at *
  have hB : B < w.heap.size := (Array.getElem?_eq_some_iff.1 h).1
  rw [Below.heap_alloc w o B hB, h]
theorem RowAt.new (w : World) (T n : Nat) (f : Nat → Int) : RowAt (w.alloc (.cells (rowCells n f) T)) w.heap.size T n f := by
  show (w.heap.push _)[w.heap.size]? = _
  exact Array.getElem?_push_size
theorem RowAt.new' (w : World) (T n : Nat) (f : Nat → Int) (c : Array Value) (h : c = rowCells n f) : RowAt (w.alloc (.cells c T)) w.heap.size T n f := by
  subst h; exact RowAt.new w T n f
theorem RowAt.zeros (w : World) (T n : Nat) : RowAt (w.alloc (.cells (Array.replicate n (.int .i64 0)) T)) w.heap.size T n (fun _ => 0) := by
  apply RowAt.new'
  unfold rowCells
  apply Array.ext'
  simp [List.map_const']
theorem RowAt.lt {w : World} {B T n : Nat} {f : Nat → Int} (h : RowAt w B T n f) : B < w.heap.size := by
  unfold RowAt at h
  exact (Array.getElem?_eq_some_iff.1 h).1
theorem RowAt.below {w w' : World} {B T n B0 : Nat} {f : Nat → Int} (h : RowAt w B T n f) (b : Below B0 w w') (hB : B < B0) : RowAt w' B T n f := by
  unfold RowAt at *; rw [b.block B hB, h]

theorem intInfo : (Tryd.prog.info? 3).map (fun i => (i.zero, i.size, i.bytes)) = some (some (.int .i64 0), 1, 8) := by kernel_rfl
theorem madeInts (n : Nat) : madeCells (Value.cells (.int .i64 0)) (n * 1) = rowCells n (fun _ => 0) := by
  rw [Nat.mul_one]
  apply Array.ext
  · rw [size_madeCells, rowCells_size]
  · intro i h1 h2
    have e1 : (madeCells (Value.cells (.int .i64 0)) n)[i] = Value.int .i64 0 := by
      simp [madeCells, Value.cells, Nat.mod_one]
    have e2 : (rowCells n (fun _ => 0))[i] = Value.int .i64 0 := by simp [rowCells]
    rw [e1, e2]
/-- make([]int, n) -/
theorem make_ints (n : Nat) (h : n ≤ 1000000) (w : World) : Sem.run Tryd.prog (Instr.makeSlice 76 (.int .i64 (n : Int)) (.int .i64 (n : Int))) w = .ok (.slice (some ⟨w.heap.size, 0, none⟩) n n) (w.alloc (.cells (rowCells n (fun _ => 0)) 3)) := by
  obtain ⟨i0, hi, hz0, hz1, hz2⟩ := info_parts intInfo
  have := run_make (P := Tryd.prog) w 76 3 i0 (.int .i64 0) Tryd.underlying76 hi hz0 .i64 .i64 n n (by omega) (by omega) (by rw [hz2]; omega) (by omega)
  rw [this, hz1, Int.toNat_natCast, madeInts]
end Go.Proofs.YtbolgfiafbhicaaDoor
