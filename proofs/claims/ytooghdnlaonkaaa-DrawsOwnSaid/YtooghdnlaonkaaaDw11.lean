/- Several of my texts in one: Good, Rf. -/
import Derived.Test.YtooghdnlaonkaaaDw01
import Derived.Test.YtooghdnlaonkaaaDw10
import Derived.Test.YtooghdnlaonkaaaDw04
/- good over literal slices, the block told by its number. -/
namespace Go.Proofs.Ytooghdnlaonkaaa
open Go.RowKit
theorem good1b (w : World) (b : Nat) (T : TypeId) (hb : w.heap.size = b) :
    Calls Try.prog 67 #[.slice (some ⟨b, 0, none⟩) 1 1] (w.alloc (.cells #[.int .i64 0] T)) fun e w' => e = .returned (.bool true) ∧ w.alloc (.cells #[.int .i64 0] T) = w' := by
  subst hb; exact good1 w T
theorem good2b (w : World) (b : Nat) (T : TypeId) (hb : w.heap.size = b) :
    Calls Try.prog 67 #[.slice (some ⟨b, 0, none⟩) 2 2] (w.alloc (.cells #[.int .i64 0, .int .i64 0] T)) fun e w' => e = .returned (.bool true) ∧ w.alloc (.cells #[.int .i64 0, .int .i64 0] T) = w' := by
  subst hb; exact good2 w T
theorem good3b (w : World) (b : Nat) (T : TypeId) (hb : w.heap.size = b) :
    Calls Try.prog 67 #[.slice (some ⟨b, 0, none⟩) 3 3] (w.alloc (.cells #[.int .i64 0, .int .i64 0, .int .i64 0] T)) fun e w' => e = .returned (.bool true) ∧ w.alloc (.cells #[.int .i64 0, .int .i64 0, .int .i64 0] T) = w' := by
  subst hb; exact good3 w T
theorem good4b (w : World) (b : Nat) (T : TypeId) (hb : w.heap.size = b) :
    Calls Try.prog 67 #[.slice (some ⟨b, 0, none⟩) 4 4] (w.alloc (.cells #[.int .i64 0, .int .i64 0, .int .i64 0, .int .i64 0] T)) fun e w' => e = .returned (.bool true) ∧ w.alloc (.cells #[.int .i64 0, .int .i64 0, .int .i64 0, .int .i64 0] T) = w' := by
  subst hb; exact good4 w T
theorem good5b (w : World) (b : Nat) (T : TypeId) (hb : w.heap.size = b) :
    Calls Try.prog 67 #[.slice (some ⟨b, 0, none⟩) 5 5] (w.alloc (.cells #[.int .i64 0, .int .i64 0, .int .i64 0, .int .i64 0, .int .i64 0] T)) fun e w' => e = .returned (.bool true) ∧ w.alloc (.cells #[.int .i64 0, .int .i64 0, .int .i64 0, .int .i64 0, .int .i64 0] T) = w' := by
  subst hb; exact good5 w T
theorem good6b (w : World) (b : Nat) (T : TypeId) (hb : w.heap.size = b) :
    Calls Try.prog 67 #[.slice (some ⟨b, 0, none⟩) 6 6] (w.alloc (.cells #[.int .i64 0, .int .i64 0, .int .i64 0, .int .i64 0, .int .i64 0, .int .i64 0] T)) fun e w' => e = .returned (.bool true) ∧ w.alloc (.cells #[.int .i64 0, .int .i64 0, .int .i64 0, .int .i64 0, .int .i64 0, .int .i64 0] T) = w' := by
  subst hb; exact good6 w T
theorem good7b (w : World) (b : Nat) (T : TypeId) (hb : w.heap.size = b) :
    Calls Try.prog 67 #[.slice (some ⟨b, 0, none⟩) 7 7] (w.alloc (.cells #[.int .i64 0, .int .i64 0, .int .i64 0, .int .i64 0, .int .i64 0, .int .i64 0, .int .i64 0] T)) fun e w' => e = .returned (.bool true) ∧ w.alloc (.cells #[.int .i64 0, .int .i64 0, .int .i64 0, .int .i64 0, .int .i64 0, .int .i64 0, .int .i64 0] T) = w' := by
  subst hb; exact good7 w T
theorem good8b (w : World) (b : Nat) (T : TypeId) (hb : w.heap.size = b) :
    Calls Try.prog 67 #[.slice (some ⟨b, 0, none⟩) 8 8] (w.alloc (.cells #[.int .i64 0, .int .i64 0, .int .i64 0, .int .i64 0, .int .i64 0, .int .i64 0, .int .i64 0, .int .i64 0] T)) fun e w' => e = .returned (.bool true) ∧ w.alloc (.cells #[.int .i64 0, .int .i64 0, .int .i64 0, .int .i64 0, .int .i64 0, .int .i64 0, .int .i64 0, .int .i64 0] T) = w' := by
  subst hb; exact good8 w T
theorem good9b (w : World) (b : Nat) (T : TypeId) (hb : w.heap.size = b) :
    Calls Try.prog 67 #[.slice (some ⟨b, 0, none⟩) 9 9] (w.alloc (.cells #[.int .i64 0, .int .i64 0, .int .i64 0, .int .i64 0, .int .i64 0, .int .i64 0, .int .i64 0, .int .i64 0, .int .i64 0] T)) fun e w' => e = .returned (.bool true) ∧ w.alloc (.cells #[.int .i64 0, .int .i64 0, .int .i64 0, .int .i64 0, .int .i64 0, .int .i64 0, .int .i64 0, .int .i64 0, .int .i64 0] T) = w' := by
  subst hb; exact good9 w T
theorem good10b (w : World) (b : Nat) (T : TypeId) (hb : w.heap.size = b) :
    Calls Try.prog 67 #[.slice (some ⟨b, 0, none⟩) 10 10] (w.alloc (.cells #[.int .i64 0, .int .i64 0, .int .i64 0, .int .i64 0, .int .i64 0, .int .i64 0, .int .i64 0, .int .i64 0, .int .i64 0, .int .i64 0] T)) fun e w' => e = .returned (.bool true) ∧ w.alloc (.cells #[.int .i64 0, .int .i64 0, .int .i64 0, .int .i64 0, .int .i64 0, .int .i64 0, .int .i64 0, .int .i64 0, .int .i64 0, .int .i64 0] T) = w' := by
  subst hb; exact good10 w T
end Go.Proofs.Ytooghdnlaonkaaa
/- Ratios in blocks of their own; good with any errors. -/
namespace Go.Proofs.Ytooghdnlaonkaaa
open Go.RowKit

theorem below_drewN' {w0 w : World} {b : Nat} (h : Below b w0 w) (n : Nat) : Below b w0 (w.drewN n) := ⟨h.os, h.tape, h.output, h.size, h.block⟩
/-- since w0 nothing old has turned, and these blocks hold these ratios -/
structure Rf (w0 w : World) (L : List (Nat × Int × Int)) : Prop where
  bel : Below w0.heap.size w0 w
  st : ∀ e ∈ L, St w e.1 128 e.2.1 e.2.2
theorem Rf.start (w : World) : Rf w w [] := ⟨Below.refl _ _, by simp⟩
theorem Rf.keep {w0 w w' : World} {L : List (Nat × Int × Int)} (h : Rf w0 w L) (b : Below w.heap.size w w') : Rf w0 w' L := ⟨kin_trans h.bel b, fun e he => (h.st e he).keep b⟩
theorem Rf.alloc {w0 w : World} {L : List (Nat × Int × Int)} (h : Rf w0 w L) (o : Obj) : Rf w0 (w.alloc o) L := h.keep (kin_alloc (Below.refl _ _) o)
theorem Rf.push {w0 w : World} {L : List (Nat × Int × Int)} (h : Rf w0 w L) (X Y : Int) : Rf w0 (w.alloc (.cells #[.int .i64 X, .int .i64 Y] 128)) ((w.heap.size, X, Y) :: L) :=
  ⟨(h.alloc _).bel, fun e he => by
    rcases List.mem_cons.1 he with rfl | he
    · exact St.new w 128 X Y
    · exact (h.alloc _).st e he⟩
theorem Rf.get {w0 w : World} {L : List (Nat × Int × Int)} (h : Rf w0 w L) (i : Nat) {B : Nat} {X Y : Int} (he : L[i]? = some (B, X, Y)) :
    w.cell? ⟨B, 0, none⟩ = some (.int .i64 X) ∧ w.cell? ⟨B, 1, none⟩ = some (.int .i64 Y) ∧ B < w.heap.size := by
  have := h.st _ (List.mem_of_getElem? he)
  exact ⟨this.c0, this.c1, this.lt⟩
theorem Rf.old {w0 w : World} {L : List (Nat × Int × Int)} {a : Option Addr} {xs : List Value} (h : Rf w0 w L) (hs : Sa w0 a xs) : Sa w a xs := hs.keep h.bel

theorem two_set0 {w : World} {b : Nat} {u v x : Value} {t : TypeId} (h : w.heap[b]? = some (.cells #[u, v] t)) : (w.setCell ⟨b, 0, none⟩ x).heap[b]? = some (.cells #[x, v] t) := by
  have hlt := (Array.getElem?_eq_some_iff.1 h).1
  have h' : w.heap[b] = .cells #[u, v] t := by simpa [Array.getElem?_eq_getElem hlt] using h
  show (w.heap.modify b _)[b]? = _
  rw [Array.getElem?_eq_getElem (by simpa using hlt), Array.getElem_modify_self, h']
  rfl
theorem two_set1 {w : World} {b : Nat} {u v x : Value} {t : TypeId} (h : w.heap[b]? = some (.cells #[u, v] t)) : (w.setCell ⟨b, 1, none⟩ x).heap[b]? = some (.cells #[u, x] t) := by
  have hlt := (Array.getElem?_eq_some_iff.1 h).1
  have h' : w.heap[b] = .cells #[u, v] t := by simpa [Array.getElem?_eq_getElem hlt] using h
  show (w.heap.modify b _)[b]? = _
  rw [Array.getElem?_eq_getElem (by simpa using hlt), Array.getElem_modify_self, h']
  rfl
theorem St.put {w : World} {B : Nat} {X Y : Int} (h : St w B 128 X Y) (X' Y' : Int) : St ((w.setCell ⟨B, 0, none⟩ (.int .i64 X')).setCell ⟨B, 1, none⟩ (.int .i64 Y')) B 128 X' Y' :=
  two_set1 (two_set0 h)
theorem Rf.put {w0 w : World} {B : Nat} {X Y : Int} {L : List (Nat × Int × Int)} (h : Rf w0 w ((B, X, Y) :: L)) (X' Y' : Int) (hB : w0.heap.size ≤ B) (hL : ∀ e ∈ L, e.1 ≠ B) :
    Rf w0 ((w.setCell ⟨B, 0, none⟩ (.int .i64 X')).setCell ⟨B, 1, none⟩ (.int .i64 Y')) ((B, X', Y') :: L) :=
  ⟨(h.bel.setCell hB _).setCell hB _, fun e he => by
    rcases List.mem_cons.1 he with rfl | he
    · exact (h.st (B, X, Y) List.mem_cons_self).put X' Y'
    · have h1 := h.st e (by simp [he])
      have h2 := hL e he
      unfold St at *
      rw [Below.heap_setCell _ _ _ _ h2, Below.heap_setCell _ _ _ _ h2]; exact h1⟩
theorem Rf.frz {w0 w : World} {L : List (Nat × Int × Int)} (h : Rf w0 w L) (i : Nat) {B : Nat} {X Y : Int} (he : L[i]? = some (B, X, Y)) : w.frozen? ⟨B, 0, none⟩ = false ∧ w.frozen? ⟨B, 1, none⟩ = false := by
  have := h.st _ (List.mem_of_getElem? he)
  unfold St at this
  constructor <;> simp [World.frozen?, this]
/-- good, whatever the errors -/
theorem good_list (vs : List Int) (w : World) (b : Nat) (T : TypeId) (hb : w.heap.size = b) (cs : Array Value) (hcs : cs.toList = ints vs) (n : Nat) (hn : vs.length = n) (hl : n ≤ 1000) :
    Calls Try.prog 67 #[.slice (some ⟨b, 0, none⟩) n n] (w.alloc (.cells cs T)) fun e w' => e = .returned (.bool (vs.all (· == 0))) ∧ w.alloc (.cells cs T) = w' := by
  subst hb
  refine (good_said (fun i => nth vs i) n w.heap.size 0 n _ (by omega) (fun i hi => ?_)).mono fun e w' ⟨r, h1, h2, h3⟩ => ⟨?_, h3⟩
  · rw [cell_new]
    have := ints_get vs i (by omega)
    rw [← hcs] at this
    simpa using this
  · rw [h1]
    congr 2
    have hb : (vs.all (· == 0)) = true ↔ ∀ i, i < n → nth vs i = 0 := by
      rw [List.all_eq_true]
      constructor
      · intro h i hi
        have := h _ (nth_mem vs i (by omega))
        simpa using this
      · intro h x hx
        obtain ⟨i, hi, e⟩ := List.getElem_of_mem hx
        have := h i (by omega)
        unfold nth at this
        simp [hi] at this
        rw [← e]; simpa using this
    cases hr : r
    · cases hv : vs.all (· == 0)
      · rfl
      · have := h2.2 (hb.1 hv); rw [hr] at this; cases this
    · exact (hb.2 (h2.1 hr)).symm
end Go.Proofs.Ytooghdnlaonkaaa
