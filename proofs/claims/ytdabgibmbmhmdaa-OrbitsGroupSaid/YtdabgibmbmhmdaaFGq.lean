/- A map of the call's own beside slices: what a call leaves alone. -/
import Derived.Test.YtdabgibmbmhmdaaFG
import Derived.Maps.OwnOps
import Derived.Maps.Views
namespace Go.Proofs.Ytdabgibmbmhmdaa
open Go.RowKit Go.Maps

def eMapQ (b : Nat) (xs : List Value) : Big := ⟨3, 0, 0, .map (some b), xs⟩
def noMapQ (e : Big) : Bool := match e.v with | .map _ => false | _ => true
theorem Fg.newMapQ {w0 w : World} {B : List Big} (h : Fg w0 w B) {N : Nat} (hN : w.heap.size = N) : Fg w0 (w.alloc (.map #[] 0)) (eMapQ N (mapV #[] 0) :: B) := by
  subst hN
  have ha := h.alloc (.map #[] 0)
  refine ⟨ha.bel, fun e he => ?_, List.pairwise_cons.2 ⟨fun b hb => .inl rfl, h.far⟩⟩
  rcases List.mem_cons.1 he with rfl | he
  · exact ⟨h.bel.size, #[], 0, (MapKept.heap_alloc w _).1, rfl⟩
  · exact ha.own e he
theorem Fg.mapAtQ {w0 w : World} {B : List Big} (h : Fg w0 w B) {b : Nat} {xs : List Value} (he : eMapQ b xs ∈ B) : ∃ es clock, w.heap[b]? = some (.map es clock) ∧ xs = mapV es clock ∧ w0.heap.size ≤ b := by
  obtain ⟨h1, es, clock, h2, h3⟩ : w0.heap.size ≤ b ∧ ∃ es clock, w.heap[b]? = some (.map es clock) ∧ xs = mapV es clock := h.own _ he
  exact ⟨es, clock, h2, h3, h1⟩
theorem Fg.setMapQ {w0 w w' : World} {B : List Big} {b : Nat} {xs : List Value} (h : Fg w0 w (eMapQ b xs :: B)) (hB : B.all noMapQ = true) (hg : w.grownBy w' (some b)) (hw : ∃ es clock, w'.heap[b]? = some (.map es clock)) : ∃ ys, Fg w0 w' (eMapQ b ys :: B) := by
  obtain ⟨es, clock, h2, -, h1⟩ := h.mapAtQ List.mem_cons_self
  obtain ⟨es', clock', h3⟩ := hw
  refine ⟨mapV es' clock', ⟨Below.grown (row := some b) h.bel hg h.bel.size (fun k hk => by cases hk; exact h1), fun e he => ?_, List.pairwise_cons.2 ⟨fun b hb => .inl rfl, (List.pairwise_cons.1 h.far).2⟩⟩⟩
  rcases List.mem_cons.1 he with rfl | he
  · exact ⟨h1, es', clock', h3, rfl⟩
  · have hn := List.all_eq_true.1 hB e he
    have ho := h.own e (List.mem_cons_of_mem _ he)
    unfold noMapQ at hn
    unfold Big.own at ho
    split at ho
    · rename_i b' hb'
      rw [hb'] at hn; cases hn
    · refine Big.ofRow (World.ownsRow.kept ho hg ?_)
      by_cases hv : e.v.ownBlock = none
      · exact .inl hv
      · refine .inr fun e2 => ?_
        exact ownsRow_notMap ho b e2 es clock h2
theorem map_keptQ {w0 w w' : World} {B C : List Big} {b : Nat} {xs : List Value} (h : Fg w0 w B) (h' : Fg w0 w' C) (he : eMapQ b xs ∈ B) (he' : eMapQ b xs ∈ C) : w'.heap[b]? = w.heap[b]? := by
  obtain ⟨es, c, h1, h2, -⟩ := h.mapAtQ he
  obtain ⟨es', c', h3, h4, -⟩ := h'.mapAtQ he'
  obtain ⟨rfl, rfl⟩ := mapV_inj (h2.symm.trans h4)
  rw [h1, h3]
/-- slices of one cell an element, told apart from the rest -/
theorem Fg.toFr {w0 w : World} {B : List Big} (h : Fg w0 w B) (L : List Ent) (hL : L.map Ent.big = B) (hn : B.all noMapQ = true) : Fr w0 w L := by
  subst hL
  refine ⟨h.bel, ⟨fun e he => ?_, (List.pairwise_map.1 h.far).imp fun h => h⟩⟩
  have ho := h.own e.big (List.mem_map_of_mem he)
  have hv := List.all_eq_true.1 hn e.big (List.mem_map_of_mem he)
  unfold Big.own at ho
  unfold noMapQ at hv
  split at ho
  · rename_i b hb
    rw [hb] at hv; cases hv
  · exact ho
end Go.Proofs.Ytdabgibmbmhmdaa
