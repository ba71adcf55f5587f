/- slices.Grow of nil and slices.Concat of two slices, for bytes and for ints. -/
import Derived.Test.YtnjnndodfdghbaaArr4
import Derived.Lib.AppendZerosOnto
namespace Go.Proofs.Ytnjnndodfdghbaa
open Go.RowKit

theorem Fr.room {w0 w : World} {L : List Ent} (h : Fr w0 w L) (T : TypeId) (cs : Array Value) (G : Nat) (hG : cs.size = G) (hm : G ≤ maxLen) :
    Fr w0 (w.drew.alloc (.cells cs T)) (⟨T, .slice (some ⟨w.heap.size, 0, .none⟩) 0 G, []⟩ :: L) := by
  have ha := h.drew.alloc (.cells cs T)
  have hb := h.bel.size
  refine ⟨ha.bel, ⟨fun e he => ?_, List.pairwise_cons.2 ⟨fun b hb => .inr ?_, h.os.far⟩⟩⟩
  · rcases List.mem_cons.1 he with rfl | he
    · refine ⟨by simp, .inr ⟨w.heap.size, G, cs, rfl, hb, ?_, by simp, hm, by simpa using hG, by simp⟩⟩
      show (w.drew.heap.push _)[w.heap.size]? = _
      exact Array.getElem?_push_size
    · exact ha.os.own e he
  · intro e
    have := (Ent.own.lt (h.os.own b hb) _ e.symm).2
    simp only at this
    omega
theorem u8Info : (Try.prog.info? 5).map (fun i => (i.zero, i.size, i.bytes)) = some (some (.int .u8 0), 1, 1) := by kernel_rfl


end Go.Proofs.Ytnjnndodfdghbaa
