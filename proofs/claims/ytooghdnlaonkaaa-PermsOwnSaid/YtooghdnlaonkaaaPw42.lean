/- Several of my texts in one: SrtN. -/
import Derived.Test.YtooghdnlaonkaaaPw41
import Derived.Test.YtooghdnlaonkaaaShelf
import Derived.Lib.RowBridge
/- slices.Sort of ints, by the shelf's contract. -/
namespace Go.Proofs.Ytooghdnlaonkaaa
open Go.RowKit

theorem Fr.setCellsAt {w0 : World} {L : List Ent} {T : TypeId} {g n cap : Nat} : ∀ (vs pre : List Value) (w : World) (post : List Value), Fr w0 w (⟨T, .slice (some ⟨g, 0, .none⟩) n cap, pre ++ post⟩ :: L) → vs.length = post.length →
    Fr w0 (w.setCells g pre.length vs) (⟨T, .slice (some ⟨g, 0, .none⟩) n cap, pre ++ vs⟩ :: L)
  | [], pre, w, post, h, hl => by
    rw [List.eq_nil_of_length_eq_zero hl.symm] at h; exact h
  | v :: vs, pre, w, [], h, hl => by simp at hl
  | v :: vs, pre, w, p :: post, h, hl => by
    have h1 := h.set pre.length v
    rw [List.set_append_right _ _ (Nat.le_refl _), Nat.sub_self, List.set_cons_zero, show pre ++ v :: post = (pre ++ [v]) ++ post from by simp] at h1
    have h2 := Fr.setCellsAt vs (pre ++ [v]) _ post h1 (by simpa using hl)
    rw [List.length_append, List.length_singleton] at h2
    rw [World.setCells, show pre ++ v :: vs = (pre ++ [v]) ++ vs from by simp]
    exact h2
theorem below_grow (w : World) (os : Array Obj) : Below w.heap.size w (Sort.grow w os) := ⟨rfl, rfl, rfl, by simp [Sort.grow], fun k hk => by simp [Sort.grow, Array.getElem?_append_left hk]⟩
def srtI (l : List Int) : List Int := l.mergeSort fun x y => decide (x ≤ y)
theorem srtI_perm (l : List Int) : (srtI l).Perm l := List.mergeSort_perm l _
theorem srtI_len (l : List Int) : (srtI l).length = l.length := List.length_mergeSort l
theorem srtI_rise (l : List Int) : ∀ i j, i < j → j < (srtI l).length → nth (srtI l) i ≤ nth (srtI l) j := fun i j hij hj => by
  have := List.pairwise_mergeSort (le := fun x y : Int => decide (x ≤ y)) (fun a b c h1 h2 => by simp at *; omega) (fun a b => by simp; omega) l
  rw [List.pairwise_iff_getElem] at this
  have h2 := this i j (by unfold srtI at hj; omega) hj hij
  have e1 : nth (srtI l) i = (srtI l)[i]'(by omega) := by simp [nth, show i < (srtI l).length by omega]
  have e2 : nth (srtI l) j = (srtI l)[j] := by simp [nth, hj]
  rw [e1, e2]
  exact of_decide_eq_true h2
end Go.Proofs.Ytooghdnlaonkaaa
