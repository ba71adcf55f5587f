/- Several of my texts in one: Row, Row2, Own, Rat3. -/
import Derived.Test.YtooghdnlaonkaaaRw01
import Derived.OwnWalk
import Derived.Laws.MakeOwn
import Derived.Test.YtooghdnlaonkaaaRw03
/- A block known whole: a row of n ints, the numbers f 0 .. f (n-1). -/
namespace Go.Proofs.Ytooghdnlaonkaaa
open Go.RowKit

def rowCells (n : Nat) (f : Nat → Int) : Array Value := ((List.range n).map fun i => Value.int .i64 (f i)).toArray
/-- block B is a row of n ints f 0 .. f (n-1), writable -/
def RowAt (w : World) (B T n : Nat) (f : Nat → Int) : Prop := w.heap[B]? = some (.cells (rowCells n f) T (0, 0))

theorem rowCells_size (n : Nat) (f : Nat → Int) : (rowCells n f).size = n := by simp [rowCells]
theorem rowCells_get (n : Nat) (f : Nat → Int) (i : Nat) (h : i < n) : (rowCells n f)[i]? = some (.int .i64 (f i)) := by simp [rowCells, h]
theorem rowCells_congr (n : Nat) (f g : Nat → Int) (h : ∀ i, i < n → f i = g i) : rowCells n f = rowCells n g := by
  unfold rowCells
  congr 1
  apply List.map_congr_left
  intro i hi
  rw [h i (by simpa using hi)]
theorem RowAt.congr {w : World} {B T n : Nat} {f g : Nat → Int} (h : RowAt w B T n f) (e : ∀ i, i < n → f i = g i) : RowAt w B T n g := by
  unfold RowAt at *; rw [h, rowCells_congr n f g e]
theorem RowAt.cell {w : World} {B T n : Nat} {f : Nat → Int} (h : RowAt w B T n f) (i : Nat) (hi : i < n) : w.cell? ⟨B, i, none⟩ = some (.int .i64 (f i)) := by
  unfold World.cell?
  rw [show ((⟨B, i, none⟩ : Addr).block) = B from rfl, h]
  simp [rowCells_get n f i hi]
theorem RowAt.thawed {w : World} {B T n : Nat} {f : Nat → Int} (h : RowAt w B T n f) (i : Nat) : w.frozen? ⟨B, i, none⟩ = false := by
  unfold World.frozen?
  rw [show ((⟨B, i, none⟩ : Addr).block) = B from rfl, h]
  simp
theorem rowCells_set (n : Nat) (f : Nat → Int) (i : Nat) (v : Int) : (rowCells n f).setIfInBounds i (.int .i64 v) = rowCells n (fun j => if j = i then v else f j) := by
  apply Array.ext_getElem?
  intro j
  by_cases hj : j < n
  · rw [rowCells_get n _ j hj, Array.getElem?_setIfInBounds]
    by_cases e : i = j
    · subst e; simp [rowCells_size, hj]
    · rw [if_neg e, rowCells_get n _ j hj, if_neg (fun x => e x.symm)]
  · rw [Array.getElem?_eq_none (by rw [Array.size_setIfInBounds, rowCells_size]; omega), Array.getElem?_eq_none (by rw [rowCells_size]; omega)]
theorem RowAt.set {w : World} {B T n : Nat} {f : Nat → Int} (h : RowAt w B T n f) (i : Nat) (v : Int) : RowAt (w.setCell ⟨B, i, none⟩ (.int .i64 v)) B T n (fun j => if j = i then v else f j) := by
  unfold RowAt at *
  unfold World.setCell
  simp only [Array.getElem?_modify, if_true, h, Option.map_some]
  congr 2
  simp only [Option.isSome_none, Bool.false_eq_true, if_false]
  exact rowCells_set n f i v
theorem RowAt.drew {w : World} {B T n : Nat} {f : Nat → Int} (h : RowAt w B T n f) : RowAt w.drew B T n f := h
theorem RowAt.drewN {w : World} {B T n : Nat} {f : Nat → Int} (h : RowAt w B T n f) (k : Nat) : RowAt (w.drewN k) B T n f := h
theorem RowAt.alloc {w : World} {B T n : Nat} {f : Nat → Int} (h : RowAt w B T n f) (o : Obj) : RowAt (w.alloc o) B T n f := by
  unfold RowAt at *
  have hB : B < w.heap.size := (Array.getElem?_eq_some_iff.1 h).1
  rw [Below.heap_alloc w o B hB, h]
theorem RowAt.new (w : World) (T n : Nat) (f : Nat → Int) : RowAt (w.alloc (.cells (rowCells n f) T)) w.heap.size T n f := by
  show (w.heap.push _)[w.heap.size]? = _
  exact Array.getElem?_push_size
theorem RowAt.new' (w : World) (T n : Nat) (f : Nat → Int) (c : Array Value) (h : c = rowCells n f) : RowAt (w.alloc (.cells c T)) w.heap.size T n f := by
  subst h; exact RowAt.new w T n f
theorem RowAt.zeros (w : World) (T n : Nat) : RowAt (w.alloc (.cells (Array.replicate n (.int .i64 0)) T)) w.heap.size T n (fun _ => 0) := by
  apply RowAt.new'
  unfold rowCells
  apply Array.ext'
  simp [List.map_const']
theorem RowAt.lt {w : World} {B T n : Nat} {f : Nat → Int} (h : RowAt w B T n f) : B < w.heap.size := by
  unfold RowAt at h
  exact (Array.getElem?_eq_some_iff.1 h).1
theorem RowAt.below {w w' : World} {B T n B0 : Nat} {f : Nat → Int} (h : RowAt w B T n f) (b : Below B0 w w') (hB : B < B0) : RowAt w' B T n f := by
  unfold RowAt at *; rw [b.block B hB, h]

theorem intInfo : (Try.prog.info? 3).map (fun i => (i.zero, i.size, i.bytes)) = some (some (.int .i64 0), 1, 8) := by kernel_rfl
theorem madeInts (n : Nat) : madeCells (Value.cells (.int .i64 0)) (n * 1) = rowCells n (fun _ => 0) := by
  rw [Nat.mul_one]
  apply Array.ext
  · rw [size_madeCells, rowCells_size]
  · intro i h1 h2
    have e1 : (madeCells (Value.cells (.int .i64 0)) n)[i] = Value.int .i64 0 := by
      simp [madeCells, Value.cells, Nat.mod_one]
    have e2 : (rowCells n (fun _ => 0))[i] = Value.int .i64 0 := by simp [rowCells]
    rw [e1, e2]
/-- make([]int, n) -/
theorem make_ints (n : Nat) (h : n ≤ 1000000) (w : World) : Sem.run Try.prog (Instr.makeSlice 32 (.int .i64 (n : Int)) (.int .i64 (n : Int))) w = .ok (.slice (some ⟨w.heap.size, 0, none⟩) n n) (w.alloc (.cells (rowCells n (fun _ => 0)) 3)) := by
  obtain ⟨i0, hi, hz0, hz1, hz2⟩ := info_parts intInfo
  have := run_make (P := Try.prog) w 32 3 i0 (.int .i64 0) Try.underlying32 hi hz0 .i64 .i64 n n (by omega) (by omega) (by rw [hz2]; omega) (by omega)
  rw [this, hz1, Int.toNat_natCast, madeInts]
end Go.Proofs.Ytooghdnlaonkaaa
/- More on a block known whole. -/
namespace Go.Proofs.Ytooghdnlaonkaaa
open Go.RowKit
theorem RowAt.other {w : World} {B T n : Nat} {f : Nat → Int} (h : RowAt w B T n f) (a : Addr) (v : Value) (hne : B ≠ a.block) : RowAt (w.setCell a v) B T n f := by
  unfold RowAt at *
  rw [Below.heap_setCell w a v B hne, h]
end Go.Proofs.Ytooghdnlaonkaaa
/- Slices of ints that the call itself made by append. -/
namespace Go.Proofs.Ytooghdnlaonkaaa
open Go.RowKit

/-- v is a slice of the call's own (nil or in a block from base on) that holds the numbers l -/
def Own (w : World) (base : Nat) (v : Value) (l : List Int) : Prop := w.ownsRow base 3 1 v l.length (l.map (Value.int .i64))
theorem Own.nil (w : World) (base : Nat) : Own w base (.slice none 0 0) [] := ⟨rfl, .inl ⟨rfl, rfl⟩⟩
theorem Own.alloc {w : World} {base : Nat} {v : Value} {l : List Int} (h : Own w base v l) (o : Obj) : Own (w.alloc o) base v l := World.ownsRow.alloc h o
theorem Own.drew {w : World} {base : Nat} {v : Value} {l : List Int} (h : Own w base v l) : Own w.drew base v l := h
theorem Own.keep {w w' : World} {base : Nat} {v : Value} {l : List Int} (h : Own w base v l) (b : Below w.heap.size w w') : Own w' base v l := by
  obtain ⟨h1, h2⟩ := h
  refine ⟨h1, ?_⟩
  rcases h2 with h2 | ⟨g, cap, cur, e1, e2, e3, e4⟩
  · exact .inl h2
  · refine .inr ⟨g, cap, cur, e1, e2, ?_, e4⟩
    have : g < w.heap.size := (Array.getElem?_eq_some_iff.1 e3).1
    rw [b.block g this, e3]
/-- the shape of such a slice -/
theorem Own.shape {w : World} {base : Nat} {v : Value} {l : List Int} (h : Own w base v l) :
    (v = .slice none 0 0 ∧ l = []) ∨ ∃ g cap, v = .slice (some ⟨g, 0, none⟩) l.length cap ∧ base ≤ g ∧ g < w.heap.size ∧ (∀ i, i < l.length → w.cell? ⟨g, i, none⟩ = some (.int .i64 (l.getD i 0))) ∧ (∀ i, w.frozen? ⟨g, i, none⟩ = false) := by
  have h' := h
  obtain ⟨_, h2⟩ := h
  rcases h2 with ⟨h2, h3⟩ | ⟨g, cap, cur, e1, e2, e3, _⟩
  · exact .inl ⟨h2, List.eq_nil_of_length_eq_zero h3⟩
  · refine .inr ⟨g, cap, e1, e2, (Array.getElem?_eq_some_iff.1 e3).1, ?_, ?_⟩
    · intro i hi
      subst e1
      have := World.ownsRow.cellAt h' i (by omega)
      rw [this]; simp [hi]
    · intro i
      subst e1
      exact World.ownsRow.frozenAt h' i

theorem wpList_append1 {ops : Array Oper} {rest : List Oper} {o : Oper} {a : Act} {Q : Exit → Act → World → Prop} {w0 : World} (hgd : o.guard = none) (s x : Operand)
    (ho : o.op = .call { callee := .builtin .append, args := #[s, x], argTypes := #[32, 32] })
    (base : Nat) (v : Value) (l : List Int) (y : Int) (hs : a.eval s = v) (hown : Own w0 base v l)
    (hx : a.eval x = .slice (some ⟨w0.heap.size, 0, none⟩) 1 1) (hlen : l.length ≤ 1000000) (hbase : base ≤ w0.heap.size)
    (h : ∀ v' w', Own w' base v' (l ++ [y]) → Below base w0 w' → w0.heap.size < w'.heap.size → wpList Try.prog ops Q rest (a.put o.dst v') w') :
    wpList Try.prog ops Q (o :: rest) a (w0.alloc (.cells #[.int .i64 y] 3)) := by
  obtain ⟨i0, hi, hz0, hz1, hz2⟩ := info_parts intInfo
  refine wpList_append_own _ hgd s x 32 ho base 3 i0 (.int .i64 0) 1 8 Try.underlying32 hi hz0 hz1 hz2 rfl (by decide) v l.length (l.map (Value.int .i64)) hs (World.ownsRow.alloc hown _)
    ⟨w0.heap.size, 0, none⟩ 1 1 [.int .i64 y] hx rfl ?_ ?_ ?_ ?_ ?_ ?_
  · intro j u hj
    match j, hj with
    | 0, hj =>
      simp at hj; subst hj
      exact cell_new w0 _ _ 0
  · intro u hu; simp at hu; subst hu; rfl
  · unfold maxLen; omega
  · omega
  · simp; omega
  · intro v' w' h1 h2 _
    have hsz := h2.size
    refine h v' w' ?_ ?_ ?_
    · unfold Own
      rw [List.length_append, List.map_append]; exact h1
    · refine Below.grown (row := v.ownBlock) ((Below.refl base w0).alloc hbase _) h2 (by simp; omega) ?_
      intro k hk
      exact (World.ownsRow.lt hown k hk).1
    · simp at hsz; omega
end Go.Proofs.Ytooghdnlaonkaaa
/- Contracts of ratio.Div and ratio.Less; ratios that fit. -/
namespace Go.Proofs.Ytooghdnlaonkaaa
open Go.RowKit

/-- what low answers where it fits -/
theorem low_fits {p q X Y : Int} {w : World} {e : Ending} {w' : World} (h : LowSaid p q w e w') (hr : RedIs p q X Y) (hx : Rat1 X Y) :
    e = .returned (.tuple #[.agg #[.int .i64 X, .int .i64 Y], .int .i64 0]) ∧ Below w.heap.size w w' := by
  obtain ⟨P, Q, er, he, hl, hb⟩ := h
  refine ⟨?_, hb⟩
  rcases hl with ⟨h1, _, _, h2, h3⟩ | ⟨_, _, _, h⟩
  · rw [he, h1, h2, h3, hr.1, hr.2]
  · exfalso; apply h; rw [hr.1, hr.2]; exact ⟨hx.2.1, hx.2.2.1, hx.2.2.2.1⟩
theorem mul_fits (P Q R S X Y : Int) (w : World) (h : Rat1 P Q) (h2 : Rat1 R S) (hr : RedIs (P * R) (Q * S) X Y) (hx : Rat1 X Y) :
    Calls Try.prog 131 #[.agg #[.int .i64 P, .int .i64 Q], .agg #[.int .i64 R, .int .i64 S]] w fun e w' => e = .returned (.tuple #[.agg #[.int .i64 X, .int .i64 Y], .int .i64 0]) ∧ Below w.heap.size w w' :=
  (mul_any P Q R S w h h2).mono fun _ _ hl => low_fits hl hr hx

theorem make_fits (p q X Y : Int) (w : World) (hp : -1000000000 ≤ p ∧ p ≤ 1000000000) (hq : 0 < q ∧ q ≤ 1000000000) (hr : RedIs p q X Y) :
    Calls Try.prog 130 #[.int .i64 p, .int .i64 q] w fun e w' => e = .returned (.tuple #[.agg #[.int .i64 X, .int .i64 Y], .int .i64 0]) ∧ Below w.heap.size w w' := by
  have := make_pos p q w hp hq
  rw [hr.1, hr.2] at this
  exact this
/-- block B is a struct of two ints -/
def St (w : World) (B T : Nat) (X Y : Int) : Prop := w.heap[B]? = some (.cells #[.int .i64 X, .int .i64 Y] T)
theorem St.lt {w : World} {B T : Nat} {X Y : Int} (h : St w B T X Y) : B < w.heap.size := by
  unfold St at h; exact (Array.getElem?_eq_some_iff.1 h).1
theorem St.new (w : World) (T : Nat) (X Y : Int) : St (w.alloc (.cells #[.int .i64 X, .int .i64 Y] T)) w.heap.size T X Y := by
  show (w.heap.push _)[w.heap.size]? = _
  exact Array.getElem?_push_size
theorem St.keep {w w' : World} {B T : Nat} {X Y : Int} (h : St w B T X Y) (b : Below w.heap.size w w') : St w' B T X Y := by
  have := h.lt; unfold St at *; rw [b.block B this, h]
theorem St.alloc {w : World} {B T : Nat} {X Y : Int} (h : St w B T X Y) (o : Obj) : St (w.alloc o) B T X Y := h.keep (kin_alloc (Below.refl _ _) o)
theorem St.c0 {w : World} {B T : Nat} {X Y : Int} (h : St w B T X Y) : w.cell? ⟨B, 0, none⟩ = some (.int .i64 X) := by
  unfold St at h; unfold World.cell?
  rw [show ((⟨B, 0, none⟩ : Addr).block) = B from rfl, h]; rfl
theorem St.c1 {w : World} {B T : Nat} {X Y : Int} (h : St w B T X Y) : w.cell? ⟨B, 1, none⟩ = some (.int .i64 Y) := by
  unfold St at h; unfold World.cell?
  rw [show ((⟨B, 1, none⟩ : Addr).block) = B from rfl, h]; rfl
end Go.Proofs.Ytooghdnlaonkaaa
