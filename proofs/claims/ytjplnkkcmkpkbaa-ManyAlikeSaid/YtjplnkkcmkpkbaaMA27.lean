/- Several of my texts in one: Row, Row2, Own, Sl, Own2. -/
import Derived.Test.YtjplnkkcmkpkbaaMA17
import Derived.OwnWalk
import Derived.Laws.MakeOwn
import Derived.Maps.AppendAt
set_option linter.unusedSimpArgs false
set_option linter.unusedVariables false
/- A block known whole: a row of n ints, the numbers f 0 .. f (n-1). -/
namespace Go.Proofs.Ytjplnkkcmkpkbaa
open Go.RowKit

def rowCells (n : Nat) (f : Nat → Int) : Array Value := ((List.range n).map fun i => Value.int .i64 (f i)).toArray
/-- block B is a row of n ints f 0 .. f (n-1), writable -/
def RowAt (w : World) (B T n : Nat) (f : Nat → Int) : Prop := w.heap[B]? = some (.cells (rowCells n f) T (0, 0))

theorem rowCells_size (n : Nat) (f : Nat → Int) : (rowCells n f).size = n := by simp [rowCells]
theorem rowCells_get (n : Nat) (f : Nat → Int) (i : Nat) (h : i < n) : (rowCells n f)[i]? = some (.int .i64 (f i)) := by simp [rowCells, h]
theorem rowCells_congr (n : Nat) (f g : Nat → Int) (h : ∀ i, i < n → f i = g i) : rowCells n f = rowCells n g := by
  unfold rowCells
  congr 1
  apply List.map_congr_left
  intro i hi
  rw [h i (by simpa using hi)]
theorem RowAt.congr {w : World} {B T n : Nat} {f g : Nat → Int} (h : RowAt w B T n f) (e : ∀ i, i < n → f i = g i) : RowAt w B T n g := by
  unfold RowAt at *; rw [h, rowCells_congr n f g e]
theorem RowAt.cell {w : World} {B T n : Nat} {f : Nat → Int} (h : RowAt w B T n f) (i : Nat) (hi : i < n) : w.cell? ⟨B, i, none⟩ = some (.int .i64 (f i)) := by
  unfold World.cell?
  rw [show ((⟨B, i, none⟩ : Addr).block) = B from rfl, h]
  simp [rowCells_get n f i hi]
theorem RowAt.thawed {w : World} {B T n : Nat} {f : Nat → Int} (h : RowAt w B T n f) (i : Nat) : w.frozen? ⟨B, i, none⟩ = false := by
  unfold World.frozen?
  rw [show ((⟨B, i, none⟩ : Addr).block) = B from rfl, h]
  simp
theorem rowCells_set (n : Nat) (f : Nat → Int) (i : Nat) (v : Int) : (rowCells n f).setIfInBounds i (.int .i64 v) = rowCells n (fun j => if j = i then v else f j) := by
  apply Array.ext_getElem?
  intro j
  by_cases hj : j < n
  · rw [rowCells_get n _ j hj, Array.getElem?_setIfInBounds]
    by_cases e : i = j
    · subst e; simp [rowCells_size, hj]
    · rw [if_neg e, rowCells_get n _ j hj, if_neg (fun x => e x.symm)]
  · rw [Array.getElem?_eq_none (by rw [Array.size_setIfInBounds, rowCells_size]; omega), Array.getElem?_eq_none (by rw [rowCells_size]; omega)]
theorem RowAt.set {w : World} {B T n : Nat} {f : Nat → Int} (h : RowAt w B T n f) (i : Nat) (v : Int) : RowAt (w.setCell ⟨B, i, none⟩ (.int .i64 v)) B T n (fun j => if j = i then v else f j) := by
  unfold RowAt at *
  unfold World.setCell
  simp only [Array.getElem?_modify, if_true, h, Option.map_some]
  congr 2
  simp only [Option.isSome_none, Bool.false_eq_true, if_false]
  exact rowCells_set n f i v
theorem RowAt.drew {w : World} {B T n : Nat} {f : Nat → Int} (h : RowAt w B T n f) : RowAt w.drew B T n f := h
theorem RowAt.drewN {w : World} {B T n : Nat} {f : Nat → Int} (h : RowAt w B T n f) (k : Nat) : RowAt (w.drewN k) B T n f := h
theorem RowAt.alloc {w : World} {B T n : Nat} {f : Nat → Int} (h : RowAt w B T n f) (o : Obj) : RowAt (w.alloc o) B T n f := by
  unfold RowAt at *
  have hB : B < w.heap.size := (Array.getElem?_eq_some_iff.1 h).1
  rw [Below.heap_alloc w o B hB, h]
theorem RowAt.new (w : World) (T n : Nat) (f : Nat → Int) : RowAt (w.alloc (.cells (rowCells n f) T)) w.heap.size T n f := by
  show (w.heap.push _)[w.heap.size]? = _
  exact Array.getElem?_push_size
theorem RowAt.new' (w : World) (T n : Nat) (f : Nat → Int) (c : Array Value) (h : c = rowCells n f) : RowAt (w.alloc (.cells c T)) w.heap.size T n f := by
  subst h; exact RowAt.new w T n f
theorem RowAt.zeros (w : World) (T n : Nat) : RowAt (w.alloc (.cells (Array.replicate n (.int .i64 0)) T)) w.heap.size T n (fun _ => 0) := by
  apply RowAt.new'
  unfold rowCells
  apply Array.ext'
  simp [List.map_const']
theorem RowAt.lt {w : World} {B T n : Nat} {f : Nat → Int} (h : RowAt w B T n f) : B < w.heap.size := by
  unfold RowAt at h
  exact (Array.getElem?_eq_some_iff.1 h).1
theorem RowAt.below {w w' : World} {B T n B0 : Nat} {f : Nat → Int} (h : RowAt w B T n f) (b : Below B0 w w') (hB : B < B0) : RowAt w' B T n f := by
  unfold RowAt at *; rw [b.block B hB, h]

theorem intInfo : (Try.prog.info? 3).map (fun i => (i.zero, i.size, i.bytes)) = some (some (.int .i64 0), 1, 8) := by kernel_rfl
theorem madeInts (n : Nat) : madeCells (Value.cells (.int .i64 0)) (n * 1) = rowCells n (fun _ => 0) := by
  rw [Nat.mul_one]
  apply Array.ext
  · rw [size_madeCells, rowCells_size]
  · intro i h1 h2
    have e1 : (madeCells (Value.cells (.int .i64 0)) n)[i] = Value.int .i64 0 := by
      simp [madeCells, Value.cells, Nat.mod_one]
    have e2 : (rowCells n (fun _ => 0))[i] = Value.int .i64 0 := by simp [rowCells]
    rw [e1, e2]
/-- make([]int, n) -/
theorem make_ints (n : Nat) (h : n ≤ 1000000) (w : World) : Sem.run Try.prog (Instr.makeSlice 87 (.int .i64 (n : Int)) (.int .i64 (n : Int))) w = .ok (.slice (some ⟨w.heap.size, 0, none⟩) n n) (w.alloc (.cells (rowCells n (fun _ => 0)) 3)) := by
  obtain ⟨i0, hi, hz0, hz1, hz2⟩ := info_parts intInfo
  have := run_make (P := Try.prog) w 87 3 i0 (.int .i64 0) Try.underlying87 hi hz0 .i64 .i64 n n (by omega) (by omega) (by rw [hz2]; omega) (by omega)
  rw [this, hz1, Int.toNat_natCast, madeInts]
end Go.Proofs.Ytjplnkkcmkpkbaa
/- More on a block known whole. -/
namespace Go.Proofs.Ytjplnkkcmkpkbaa
open Go.RowKit
theorem RowAt.other {w : World} {B T n : Nat} {f : Nat → Int} (h : RowAt w B T n f) (a : Addr) (v : Value) (hne : B ≠ a.block) : RowAt (w.setCell a v) B T n f := by
  unfold RowAt at *
  rw [Below.heap_setCell w a v B hne, h]
end Go.Proofs.Ytjplnkkcmkpkbaa
/- Slices of ints that the call itself made by append. -/
namespace Go.Proofs.Ytjplnkkcmkpkbaa
open Go.RowKit

/-- v is a slice of the call's own (nil or in a block from base on) that holds the numbers l -/
def Own (w : World) (base : Nat) (v : Value) (l : List Int) : Prop := w.ownsRow base 3 1 v l.length (l.map (Value.int .i64))
theorem Own.nil (w : World) (base : Nat) : Own w base (.slice none 0 0) [] := ⟨rfl, .inl ⟨rfl, rfl⟩⟩
theorem Own.alloc {w : World} {base : Nat} {v : Value} {l : List Int} (h : Own w base v l) (o : Obj) : Own (w.alloc o) base v l := World.ownsRow.alloc h o
theorem Own.drew {w : World} {base : Nat} {v : Value} {l : List Int} (h : Own w base v l) : Own w.drew base v l := h
theorem Own.keep {w w' : World} {base : Nat} {v : Value} {l : List Int} (h : Own w base v l) (b : Below w.heap.size w w') : Own w' base v l := by
  obtain ⟨h1, h2⟩ := h
  refine ⟨h1, ?_⟩
  rcases h2 with h2 | ⟨g, cap, cur, e1, e2, e3, e4⟩
  · exact .inl h2
  · refine .inr ⟨g, cap, cur, e1, e2, ?_, e4⟩
    have : g < w.heap.size := (Array.getElem?_eq_some_iff.1 e3).1
    rw [b.block g this, e3]
/-- the shape of such a slice -/
theorem Own.shape {w : World} {base : Nat} {v : Value} {l : List Int} (h : Own w base v l) :
    (v = .slice none 0 0 ∧ l = []) ∨ ∃ g cap, v = .slice (some ⟨g, 0, none⟩) l.length cap ∧ base ≤ g ∧ g < w.heap.size ∧ (∀ i, i < l.length → w.cell? ⟨g, i, none⟩ = some (.int .i64 (l.getD i 0))) ∧ (∀ i, w.frozen? ⟨g, i, none⟩ = false) := by
  have h' := h
  obtain ⟨_, h2⟩ := h
  rcases h2 with ⟨h2, h3⟩ | ⟨g, cap, cur, e1, e2, e3, _⟩
  · exact .inl ⟨h2, List.eq_nil_of_length_eq_zero h3⟩
  · refine .inr ⟨g, cap, e1, e2, (Array.getElem?_eq_some_iff.1 e3).1, ?_, ?_⟩
    · intro i hi
      subst e1
      have := World.ownsRow.cellAt h' i (by omega)
      rw [this]; simp [hi]
    · intro i
      subst e1
      exact World.ownsRow.frozenAt h' i

theorem wpList_append1 {ops : Array Oper} {rest : List Oper} {o : Oper} {a : Act} {Q : Exit → Act → World → Prop} {w0 : World} (hgd : o.guard = none) (s x : Operand)
    (ho : o.op = .call { callee := .builtin .append, args := #[s, x], argTypes := #[87, 87] })
    (base : Nat) (v : Value) (l : List Int) (y : Int) (hs : a.eval s = v) (hown : Own w0 base v l)
    (hx : a.eval x = .slice (some ⟨w0.heap.size, 0, none⟩) 1 1) (hlen : l.length ≤ 1000000) (hbase : base ≤ w0.heap.size)
    (h : ∀ v' w', Own w' base v' (l ++ [y]) → Below base w0 w' → w0.heap.size < w'.heap.size → wpList Try.prog ops Q rest (a.put o.dst v') w') :
    wpList Try.prog ops Q (o :: rest) a (w0.alloc (.cells #[.int .i64 y] 3)) := by
  obtain ⟨i0, hi, hz0, hz1, hz2⟩ := info_parts intInfo
  refine wpList_append_own _ hgd s x 87 ho base 3 i0 (.int .i64 0) 1 8 Try.underlying87 hi hz0 hz1 hz2 rfl (by decide) v l.length (l.map (Value.int .i64)) hs (World.ownsRow.alloc hown _)
    ⟨w0.heap.size, 0, none⟩ 1 1 [.int .i64 y] hx rfl ?_ ?_ ?_ ?_ ?_ ?_
  · intro j u hj
    match j, hj with
    | 0, hj =>
      simp at hj; subst hj
      exact cell_new w0 _ _ 0
  · intro u hu; simp at hu; subst hu; rfl
  · unfold maxLen; omega
  · omega
  · simp; omega
  · intro v' w' h1 h2 _
    have hsz := h2.size
    refine h v' w' ?_ ?_ ?_
    · unfold Own
      rw [List.length_append, List.map_append]; exact h1
    · refine Below.grown (row := v.ownBlock) ((Below.refl base w0).alloc hbase _) h2 (by simp; omega) ?_
      intro k hk
      exact (World.ownsRow.lt hown k hk).1
    · simp at hsz; omega
end Go.Proofs.Ytjplnkkcmkpkbaa
/- Slices of ints that are only read, whatever they lie in. -/
namespace Go.Proofs.Ytjplnkkcmkpkbaa
open Go.RowKit

/-- v is a slice that reads as the numbers l -/
def Sl (w : World) (v : Value) (l : List Int) : Prop :=
  (l = [] ∧ ∃ a cap, v = .slice a 0 cap) ∨
  (0 < l.length ∧ ∃ b off cap, v = .slice (some ⟨b, off, none⟩) l.length cap ∧ b < w.heap.size ∧ ∀ i, i < l.length → w.cell? ⟨b, off + i, none⟩ = some (.int .i64 (l.getD i 0)))
theorem Sl.keep {w w' : World} {v : Value} {l : List Int} (h : Sl w v l) (k : Below w.heap.size w w') : Sl w' v l := by
  rcases h with h | ⟨h0, b, off, cap, e, hb, hc⟩
  · exact .inl h
  · refine .inr ⟨h0, b, off, cap, e, Nat.lt_of_lt_of_le hb k.size, fun i hi => ?_⟩
    rw [← hc i hi]
    exact k.cell (p := ⟨b, off + i, none⟩) hb
theorem Sl.alloc {w : World} {v : Value} {l : List Int} (h : Sl w v l) (o : Obj) : Sl (w.alloc o) v l := h.keep (kin_alloc (Below.refl _ _) o)
theorem Own.sl {w : World} {base : Nat} {v : Value} {l : List Int} (h : Own w base v l) : Sl w v l := by
  rcases h.shape with ⟨h1, h2⟩ | ⟨g, cap, e, _, hg, hc, _⟩
  · exact .inl ⟨h2, none, 0, h1⟩
  · cases l with
    | nil => exact .inl ⟨rfl, some ⟨g, 0, none⟩, cap, e⟩
    | cons a l => exact .inr ⟨by simp, g, 0, cap, e, hg, fun i hi => by rw [Nat.zero_add]; exact hc i hi⟩
/-- what the frame of a law tells of a slice of integers that came in -/
def IsRow (k : IntKind) (w : World) (a : Option Addr) (len cap : Nat) (zs : List Int) : Prop :=
  (a = none ∧ len = 0 ∧ cap = 0 ∧ zs = []) ∨
  ∃ x, a = some x ∧ len ≤ cap ∧ cap ≤ maxLen ∧ zs.length = cap ∧ (∀ i, i < zs.length → w.cell? (x.add i) = some (.int k (zs.getD i 0))) ∧ ∀ n ∈ zs, (Lit.int k n).wf = true
theorem IsRow.sl {w : World} {a : Option Addr} {len cap : Nat} {zs : List Int} (h : IsRow .i64 w a len cap zs) : Sl w (.slice a len cap) (zs.take len) ∧ (zs.take len).length = len ∧ len ≤ maxLen := by
  rcases h with ⟨rfl, rfl, rfl, rfl⟩ | ⟨x, rfl, h1, h2, h3, h4, h5⟩
  · exact ⟨.inl ⟨rfl, none, 0, rfl⟩, rfl, by omega⟩
  · have hl : (zs.take len).length = len := by rw [List.length_take]; omega
    refine ⟨?_, hl, by omega⟩
    by_cases h0 : len = 0
    · subst h0; exact .inl ⟨by simp, some x, cap, rfl⟩
    · have hz := h4 0 (by omega)
      obtain ⟨b, off, spot⟩ := x
      have hs : spot = none := by
        cases spot with
        | none => rfl
        | some s =>
          unfold World.cell? at hz
          simp only [Addr.add] at hz
          split at hz
          · simp at hz
          · cases hz
      subst hs
      refine .inr ⟨by omega, b, off, cap, by rw [hl], ?_, fun i hi => ?_⟩
      · unfold World.cell? at hz
        simp only [Addr.add] at hz
        split at hz
        · next hq => exact (Array.getElem?_eq_some_iff.1 hq).1
        · cases hz
      · have := h4 i (by omega)
        rw [show ((⟨b, off, none⟩ : Addr).add i) = ⟨b, off + i, none⟩ from by simp [Addr.add]] at this
        rw [this]
        congr 2
        rw [List.getD_eq_getElem?_getD, List.getD_eq_getElem?_getD, List.getElem?_take_of_lt (by omega)]
end Go.Proofs.Ytjplnkkcmkpkbaa
/- The append law that says what is kept of another own slice. -/
namespace Go.Proofs.Ytjplnkkcmkpkbaa
open Go.RowKit

/-- two own slices that do not share a block -/
def Apart (v u : Value) : Prop := v.ownBlock = none ∨ v.ownBlock ≠ u.ownBlock
theorem Own.kept {w w' : World} {base : Nat} {v : Value} {l : List Int} {row : Option Nat} (h : Own w base v l) (hg : w.grownBy w' row) (hne : v.ownBlock = none ∨ v.ownBlock ≠ row) : Own w' base v l := World.ownsRow.kept h hg hne
theorem Own.blockLt {w : World} {base : Nat} {v : Value} {l : List Int} (h : Own w base v l) : ∀ k, v.ownBlock = some k → k < w.heap.size := by
  intro k hk
  obtain ⟨_, h2⟩ := h
  rcases h2 with ⟨rfl, _⟩ | ⟨g, cap, cur, rfl, _, e3, _⟩
  · cases hk
  · simp [Value.ownBlock] at hk; subst hk
    exact (Array.getElem?_eq_some_iff.1 e3).1

/-- append one number; what else is kept: every other own slice that is apart from it, and it stays apart -/
theorem wpList_append1_at {ops : Array Oper} {rest : List Oper} {o : Oper} {a : Act} {Q : Exit → Act → World → Prop} {w0 : World} (hgd : o.guard = none) (s x : Operand)
    (ho : o.op = .call { callee := .builtin .append, args := #[s, x], argTypes := #[87, 87] })
    (base : Nat) (v : Value) (l : List Int) (y : Int) (hs : a.eval s = v) (hown : Own w0 base v l)
    (hx : a.eval x = .slice (some ⟨w0.heap.size, 0, none⟩) 1 1) (hlen : l.length ≤ 1000000) (hbase : base ≤ w0.heap.size)
    (h : ∀ v' w', Own w' base v' (l ++ [y]) → Below base w0 w' → w0.heap.size < w'.heap.size →
      (∀ base1 u m, Own w0 base1 u m → Apart u v → Own w' base1 u m ∧ Apart u v' ∧ Apart v' u) → wpList Try.prog ops Q rest (a.put o.dst v') w') :
    wpList Try.prog ops Q (o :: rest) a (w0.alloc (.cells #[.int .i64 y] 3)) := by
  obtain ⟨i0, hi, hz0, hz1, hz2⟩ := info_parts intInfo
  refine wpList_append_own_at _ hgd s x 87 ho base 3 i0 (.int .i64 0) 1 8 Try.underlying87 hi hz0 hz1 hz2 rfl (by decide) v l.length (l.map (Value.int .i64)) hs (World.ownsRow.alloc hown _)
    ⟨w0.heap.size, 0, none⟩ 1 1 [.int .i64 y] hx rfl (cell_one_new _ _ _) ?_ ?_ ?_ ?_ ?_
  · intro u hu; simp at hu; subst hu; rfl
  · unfold maxLen; omega
  · omega
  · simp; omega
  · intro v' w' h1 h2 _ hat
    have hsz := h2.size
    have hsz0 : (w0.alloc (.cells #[.int .i64 y] 3)).heap.size = w0.heap.size + 1 := by simp
    refine h v' w' ?_ ?_ ?_ ?_
    · unfold Own
      rw [List.length_append, List.map_append]; exact h1
    · refine Below.grown (row := v.ownBlock) ((Below.refl base w0).alloc hbase _) h2 (by simp; omega) ?_
      intro k hk
      exact (World.ownsRow.lt hown k hk).1
    · omega
    · intro base1 u m hu hap
      refine ⟨(hu.alloc _).kept h2 hap, ?_, ?_⟩
      · rcases hap with hap | hap
        · exact .inl hap
        · rcases hat with hat | hat
          · exact .inr (by rw [hat]; exact hap)
          · refine .inr fun he => ?_
            have := hu.blockLt _ (he.trans hat)
            omega
      · by_cases hv : v'.ownBlock = none
        · exact .inl hv
        · refine .inr fun he => ?_
          rcases hat with hat | hat
          · rcases hap with hap | hap
            · exact hv (by rw [he, hap])
            · exact hap (by rw [← he, hat])
          · have := hu.blockLt _ (he.symm.trans hat)
            omega
end Go.Proofs.Ytjplnkkcmkpkbaa
