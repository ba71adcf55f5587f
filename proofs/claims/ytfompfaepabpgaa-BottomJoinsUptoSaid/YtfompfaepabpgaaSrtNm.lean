/- slices.SortFunc puts names in order (bottom.ahead), by the shelf's contract. -/
import Derived.Test.YtfompfaepabpgaaBotL
import Derived.Test.YtfompfaepabpgaaShelf
import Derived.Shelf.SlSortCmp.NoneTotal
namespace Go.Proofs.Ytfompfaepabpgaa
open Go.RowKit Go.Sort Go.Shelf

theorem below_growS (w : World) (os : Array Obj) : Below w.heap.size w (Sort.grow w os) := ⟨rfl, rfl, rfl, by simp [Sort.grow], fun k hk => by simp [Sort.grow, Array.getElem?_append_left hk]⟩
abbrev Nm := {s : ByteArray // s.size ≤ 12}
instance : Inhabited Nm := ⟨⟨⟨#[]⟩, by decide⟩⟩
def nmE (x : Nm) : Value := .string x.1
def nmC (x y : Nm) : Int := ahS x.1 y.1
theorem nmLt (x y : Nm) : ltOf nmC x y = true ↔ ltS x.1 y.1 := by
  unfold ltOf nmC
  rw [decide_eq_true_iff]
  exact ahS_lt _ _
theorem nmLt_no (x y : Nm) : ltOf nmC x y = false ↔ ¬ ltS x.1 y.1 := by rw [← Bool.not_eq_true, nmLt]
theorem nmSWO : SWO (ltOf nmC) :=
  ⟨fun x => (nmLt_no x x).2 (ltS_irr _), fun x y z h1 h2 => (nmLt x z).2 (ltS_tr _ _ _ ((nmLt x y).1 h1) ((nmLt y z).1 h2)), fun x y z h1 h2 => by
    have h1 := (nmLt_no x y).1 h1
    have h2 := (nmLt_no y z).1 h2
    refine (nmLt_no x z).2 fun h => ?_
    by_cases e : y.1 = z.1
    · rw [← e] at h; exact h1 h
    · exact h1 (ltS_tr _ _ _ h (ltS_tot _ _ h2 e))⟩
theorem nmTot : ∀ x y, ltOf nmC x y = false → ltOf nmC y x = false → x = y := fun x y h1 h2 => by
  have h1 := (nmLt_no x y).1 h1
  have h2 := (nmLt_no y x).1 h2
  refine Subtype.ext (Decidable.byContradiction fun e => h2 (ltS_tot _ _ h1 e))
theorem nmE_map (L : List Nm) : L.map nmE = strV (L.map (·.1)) := by simp [strV, nmE]
theorem nmSort (L : List Nm) : (L.mergeSort fun x y => !(ltOf nmC) y x).map (·.1) = srtS (L.map (·.1)) := by
  unfold srtS
  exact List.map_mergeSort fun a _ b _ => rfl
theorem nmOf (l : List ByteArray) (h : ∀ x ∈ l, x.size ≤ 12) : ∃ L : List Nm, L.map (·.1) = l := by
  induction l with
  | nil => exact ⟨[], rfl⟩
  | cons x l ih =>
    obtain ⟨L, hL⟩ := ih fun y hy => h y (List.mem_cons_of_mem _ hy)
    exact ⟨⟨x, h x List.mem_cons_self⟩ :: L, by simp [hL]⟩
theorem sortsNames : SortsNames := by
  intro w0 L l n cap ad w hF hn hb
  have hlen := hF.len
  rw [strV_len] at hlen
  cases ad with
  | none =>
    obtain ⟨rfl, rfl⟩ := hF.none rfl
    obtain rfl := List.eq_nil_of_length_eq_zero hlen.symm
    exact (Try.slices_SortFunc_none_f83 (α := Nm) none 0 _ w).mono fun e w' ⟨h1, h2⟩ => ⟨h1, by subst h2; rw [show srtS [] = [] from by simp [srtS]]; exact hF⟩
  | some ad =>
    have hO := hF.os.own _ List.mem_cons_self
    rcases hO.elim with ⟨_, ⟨h, _⟩ | ⟨gb, cur, h, _⟩⟩
    · cases h
    · cases h
      have hlt := (hO.lt gb rfl).2
      obtain ⟨M, hM⟩ := nmOf l hb
      have hcell : ∀ j, (hj : j < l.length) → w.cell? ⟨gb, 0 + j, none⟩ = some (.string l[j]) ∧ w.frozen? ⟨gb, 0 + j, none⟩ = false := fun j hj => by
        obtain ⟨g', e, _, _, c, z⟩ := hF.open (by rw [strV_len]; omega)
        cases e
        rw [Nat.zero_add]
        refine ⟨?_, z j⟩
        rw [c j (by rw [strV_len]; omega)]
        unfold strV
        rw [List.getElem?_map, List.getElem?_eq_getElem (by omega)]; rfl
      have hH : Holds nmE w gb 0 M.toArray := by
        intro j hj
        have hj' : j < l.length := by rw [← hM]; simpa using hj
        obtain ⟨c, z⟩ := hcell j hj'
        refine ⟨?_, z⟩
        rw [c]
        have hjM : j < M.length := by simpa using hj
        have e1 : l[j] = (M[j]).1 := by subst hM; simp
        have e2 : M.toArray[j]! = M[j] := by simp [hjM]
        rw [e1, e2]; rfl
      have hsz : M.toArray.size = n := by rw [hlen, ← hM]; simp
      have key := Try.slices_SortFunc_total_f83 nmE (fun x => rfl) nmC nmSWO 60 #[] gb 0 cap M.toArray w (enters_of Try.func60 (by kernel_rfl) rfl)
        (fun m os dk _ x y => botAheadG x.1 y.1 _ (by have := x.2; unfold maxLen; omega) (by have := y.2; unfold maxLen; omega)) hH hlt (by rw [hsz]; omega) nmTot
      rw [hsz] at key
      refine key.mono ?_
      rintro e w' ⟨rfl, q, os, rfl⟩
      refine ⟨rfl, ?_⟩
      unfold sortWorld
      rw [Lib.putRow_eq_setCells nmE w gb 0 M.toArray _ q hH (by simp [List.length_mergeSort])]
      rw [show M.toArray.toList = M from rfl, nmE_map, nmSort, hM]
      have h2 := Fr.setCellsAtS (strV (srtS l)) [] (w.drewN q) (strV l) (by simpa using hF.drewN q) (by simp [strV_len, srtS_len])
      rw [List.nil_append] at h2
      exact h2.keep (below_growS _ _)
end Go.Proofs.Ytfompfaepabpgaa
