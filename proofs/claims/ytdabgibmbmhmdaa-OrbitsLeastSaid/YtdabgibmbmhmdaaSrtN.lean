/- slices.Sort of ints, by the shelf's contract. -/
import Derived.Test.YtdabgibmbmhmdaaSlFn2
import Derived.Test.YtdabgibmbmhmdaaShelf
import Derived.Lib.RowBridge
namespace Go.Proofs.Ytdabgibmbmhmdaa
open Go.RowKit

theorem Fr.setCellsAt {w0 : World} {L : List Ent} {T : TypeId} {g n cap : Nat} : ∀ (vs pre : List Value) (w : World) (post : List Value), Fr w0 w (⟨T, .slice (some ⟨g, 0, .none⟩) n cap, pre ++ post⟩ :: L) → vs.length = post.length →
    Fr w0 (w.setCells g pre.length vs) (⟨T, .slice (some ⟨g, 0, .none⟩) n cap, pre ++ vs⟩ :: L)
  | [], pre, w, post, h, hl => by
    rw [List.eq_nil_of_length_eq_zero hl.symm] at h; exact h
  | v :: vs, pre, w, [], h, hl => by simp at hl
  | v :: vs, pre, w, p :: post, h, hl => by
    have h1 := h.set pre.length v
    rw [List.set_append_right _ _ (Nat.le_refl _), Nat.sub_self, List.set_cons_zero, show pre ++ v :: post = (pre ++ [v]) ++ post from by simp] at h1
    have h2 := Fr.setCellsAt vs (pre ++ [v]) _ post h1 (by simpa using hl)
    rw [List.length_append, List.length_singleton] at h2
    rw [World.setCells, show pre ++ v :: vs = (pre ++ [v]) ++ vs from by simp]
    exact h2
theorem below_grow (w : World) (os : Array Obj) : Below w.heap.size w (Sort.grow w os) := ⟨rfl, rfl, rfl, by simp [Sort.grow], fun k hk => by simp [Sort.grow, Array.getElem?_append_left hk]⟩
def srtI (l : List Int) : List Int := l.mergeSort fun x y => decide (x ≤ y)
theorem srtI_perm (l : List Int) : (srtI l).Perm l := List.mergeSort_perm l _
theorem srtI_len (l : List Int) : (srtI l).length = l.length := List.length_mergeSort l
theorem srtI_rise (l : List Int) : ∀ i j, i < j → j < (srtI l).length → nth (srtI l) i ≤ nth (srtI l) j := fun i j hij hj => by
  have := List.pairwise_mergeSort (le := fun x y : Int => decide (x ≤ y)) (fun a b c h1 h2 => by simp at *; omega) (fun a b => by simp; omega) l
  rw [List.pairwise_iff_getElem] at this
  have h2 := this i j (by unfold srtI at hj; omega) hj hij
  have e1 : nth (srtI l) i = (srtI l)[i]'(by omega) := by simp [nth, show i < (srtI l).length by omega]
  have e2 : nth (srtI l) j = (srtI l)[j] := by simp [nth, hj]
  rw [e1, e2]
  exact of_decide_eq_true h2
theorem slSortN {w0 : World} {L : List Ent} (l : List Int) (n cap g : Nat) (w : World) (hF : Fr w0 w (⟨3, .slice (some ⟨g, 0, none⟩) n cap, ints l⟩ :: L)) (hlt : g < w.heap.size) (hn : n ≤ 1000) :
    Calls Try.prog 50 #[.slice (some ⟨g, 0, none⟩) n cap] w fun e w' => e = .returned (.tuple #[]) ∧ Fr w0 w' (⟨3, .slice (some ⟨g, 0, none⟩) n cap, ints (srtI l)⟩ :: L) := by
  have hlen := hF.len
  rw [ints_len] at hlen
  have hcell : ∀ j, j < l.length → w.cell? ⟨g, 0 + j, none⟩ = some (.int .i64 (l.getD j 0)) := fun j hj => by
    obtain ⟨g', e, _, c, _⟩ := hF.openI j hj
    cases e
    rw [Nat.zero_add]; exact c
  have hfz : ∀ j, j < n → w.frozen? ⟨g, 0 + j, none⟩ = false := fun j hj => by
    obtain ⟨g', e, _, _, z⟩ := hF.openI j (by omega)
    cases e
    rw [Nat.zero_add]; exact z
  have hH := Lib.holds_of_ints (w := w) (b := g) (off := 0) (n := n) (zs := l) (by omega) hcell hfz
  rw [List.take_of_length_le (by omega)] at hH
  subst hlen
  refine (Try.slices_Sort_int g 0 cap l w hH hlt (by omega)).mono ?_
  rintro e w' ⟨rfl, q, os, rfl⟩
  refine ⟨rfl, ?_⟩
  rw [Lib.putRow_eq_setCells (Value.int .i64) w g 0 l.toArray (l.mergeSort fun x y => decide (x ≤ y)) q hH (by simp [List.length_mergeSort])]
  have h2 := Fr.setCellsAt ((srtI l).map (Value.int .i64)) [] (w.drewN q) (ints l) (by simpa using hF.drewN q) (by simp [ints_len, srtI_len])
  rw [List.nil_append] at h2
  exact h2.keep (below_grow _ _)

/-- any slice of the call's own -/
theorem slSortAll {w0 : World} {L : List Ent} (l : List Int) (n cap : Nat) (ad : Option Addr) (w : World) (hF : Fr w0 w (⟨3, .slice ad n cap, ints l⟩ :: L)) (hn : n ≤ 1000) :
    Calls Try.prog 50 #[.slice ad n cap] w fun e w' => e = .returned (.tuple #[]) ∧ Fr w0 w' (⟨3, .slice ad n cap, ints (srtI l)⟩ :: L) := by
  have hlen := hF.len
  rw [ints_len] at hlen
  cases ad with
  | none =>
    obtain ⟨rfl, rfl⟩ := hF.none rfl
    obtain rfl := List.eq_nil_of_length_eq_zero hlen.symm
    exact (Try.slices_Sort_int_none none 0 w).mono fun e w' ⟨h1, h2⟩ => ⟨h1, by subst h2; rw [show srtI [] = [] from by simp [srtI]]; exact hF⟩
  | some ad =>
    have hO := hF.os.own _ List.mem_cons_self
    rcases hO.elim with ⟨_, ⟨h, _⟩ | ⟨g, cur, h, _⟩⟩
    · cases h
    · cases h
      exact slSortN l n cap g w hF (hO.lt g rfl).2 hn
end Go.Proofs.Ytdabgibmbmhmdaa
