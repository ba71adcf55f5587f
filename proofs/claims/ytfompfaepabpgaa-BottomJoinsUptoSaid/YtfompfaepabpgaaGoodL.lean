/- good, whatever the errors. -/
import Derived.Test.YtfompfaepabpgaaArr
namespace Go.Proofs.Ytfompfaepabpgaa
open Go.RowKit

/-- good, whatever the errors -/
theorem good_list (vs : List Int) (w : World) (b : Nat) (T : TypeId) (hb : w.heap.size = b) (cs : Array Value) (hcs : cs.toList = ints vs) (n : Nat) (hn : vs.length = n) (hl : n ≤ 1000) :
    Calls Try.prog 18 #[.slice (some ⟨b, 0, none⟩) n n] (w.alloc (.cells cs T)) fun e w' => e = .returned (.bool (vs.all (· == 0))) ∧ w.alloc (.cells cs T) = w' := by
  subst hb
  refine (good_said (fun i => nth vs i) n w.heap.size 0 n _ (by omega) (fun i hi => ?_)).mono fun e w' ⟨r, h1, h2, h3⟩ => ⟨?_, h3⟩
  · rw [cell_new]
    have := ints_get vs i (by omega)
    rw [← hcs] at this
    simpa using this
  · rw [h1]
    congr 2
    have hb : (vs.all (· == 0)) = true ↔ ∀ i, i < n → nth vs i = 0 := by
      rw [List.all_eq_true]
      constructor
      · intro h i hi
        have := h _ (nth_mem vs i (by omega))
        simpa using this
      · intro h x hx
        obtain ⟨i, hi, e⟩ := List.getElem_of_mem hx
        have := h i (by omega)
        unfold nth at this
        simp [hi] at this
        rw [← e]; simpa using this
    cases hr : r
    · cases hv : vs.all (· == 0)
      · rfl
      · have := h2.2 (hb.1 hv); rw [hr] at this; cases this
    · exact (hb.2 (h2.1 hr)).symm

end Go.Proofs.Ytfompfaepabpgaa
