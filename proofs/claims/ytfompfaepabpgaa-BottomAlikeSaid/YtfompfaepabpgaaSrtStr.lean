/- slices.Sort and slices.Compact of a call's own names, by the shelf's contracts: which names stay, each once. -/
import Derived.Test.YtfompfaepabpgaaSrtNm
namespace Go.Proofs.Ytfompfaepabpgaa
open Go.RowKit Go.Sort Go.Shelf

theorem bs_tr (a b c : List UInt8) (h1 : a ≤ b) (h2 : b ≤ c) : a ≤ c := List.le_trans h1 h2
theorem bs_lt_tr (a b c : List UInt8) (h1 : a < b) (h2 : b < c) : a < c := List.lt_trans h1 h2
theorem bs_or (a b : List UInt8) (h : a ≤ b) : a < b ∨ a = b := by
  by_cases e : a < b
  · exact .inl e
  · exact .inr (List.le_antisymm h (List.not_lt.1 e))
theorem bs_sort (l : List (List UInt8)) : (l.mergeSort fun x y => decide (x ≤ y)).Pairwise (fun a b => a < b ∨ a = b) := by
  have := List.pairwise_mergeSort (le := fun x y : List UInt8 => decide (x ≤ y)) (fun a b c h1 h2 => decide_eq_true (bs_tr a b c (of_decide_eq_true h1) (of_decide_eq_true h2))) (fun a b => by rcases List.le_total a b with h | h <;> simp [h]) l
  exact this.imp fun {a b} h => bs_or a b (of_decide_eq_true h)
/-- in order of their letters -/
def srtB (l : List ByteArray) : List ByteArray := ofLets ((lets l).mergeSort fun x y => decide (x ≤ y))
theorem srtB_len (l : List ByteArray) : (srtB l).length = l.length := by unfold srtB ofLets lets; rw [List.length_map, List.length_mergeSort, List.length_map]
theorem lets_ofLets (l : List (List UInt8)) : lets (ofLets l) = l := by
  unfold lets ofLets
  rw [List.map_map]
  conv => rhs; rw [← List.map_id l]
  exact List.map_congr_left fun s _ => rfl
theorem lets_mem {l : List ByteArray} {x : List UInt8} : x ∈ lets l ↔ (⟨x.toArray⟩ : ByteArray) ∈ l := by
  unfold lets
  rw [List.mem_map]
  constructor
  · rintro ⟨s, hs, rfl⟩; exact hs
  · intro h; exact ⟨_, h, rfl⟩
/-- each name once -/
def unqS (l : List ByteArray) : List ByteArray := cmpS (srtB l)
theorem unqS_in (l : List ByteArray) : (unqS l).Nodup ∧ ∀ e, e ∈ unqS l ↔ e ∈ l := by
  have hs : (lets (srtB l)).Pairwise (fun a b => a < b ∨ a = b) := by
    unfold srtB
    rw [lets_ofLets]
    exact bs_sort _
  obtain ⟨h1, h2⟩ := compact_in (lt := fun x y : List UInt8 => x < y) bs_lt_tr (lets (srtB l)) hs
  have hm : ∀ e, e ∈ unqS l ↔ e ∈ l := fun e => by
    unfold unqS cmpS
    have e1 : e ∈ ofLets (Lib.compact (lets (srtB l))) ↔ e.data.toList ∈ Lib.compact (lets (srtB l)) := by
      unfold ofLets
      rw [List.mem_map]
      constructor
      · rintro ⟨x, hx, rfl⟩; exact hx
      · intro h; exact ⟨_, h, rfl⟩
    rw [e1, h2]
    unfold srtB
    rw [lets_ofLets, List.mem_mergeSort, lets_mem]
  refine ⟨?_, hm⟩
  unfold unqS cmpS ofLets
  refine List.pairwise_map.2 (h1.imp fun {a b} hab e => ?_)
  have : a = b := by
    have := congrArg (fun s : ByteArray => s.data.toList) e
    simpa using this
  subst this
  exact List.lt_irrefl _ hab
/-- the sketch's names, and these -/
theorem unqS_len (l : List ByteArray) : (unqS l).length = (setS l).length := by
  obtain ⟨h1, h2⟩ := unqS_in l
  obtain ⟨h3, h4⟩ := setS_in l
  have h5 : (setS l).Nodup := h3.imp fun {a b} h e => by subst e; exact ltS_irr _ h
  exact ((List.perm_ext_iff_of_nodup h1 h5).2 fun e => (h2 e).trans (h4 e).symm).length_eq
theorem slSortStr {w0 : World} {L : List Ent} (l : List ByteArray) (n cap : Nat) (ad : Option Addr) (w : World) (hF : Fr w0 w (⟨9, .slice ad n cap, strV l⟩ :: L)) (hn : n ≤ 4611686018427387903) :
    Calls Try.prog 31 #[.slice ad n cap] w fun e w' => e = .returned (.tuple #[]) ∧ Fr w0 w' (⟨9, .slice ad n cap, strV (srtB l)⟩ :: L) := by
  have hlen := hF.len
  rw [strV_len] at hlen
  cases ad with
  | none =>
    obtain ⟨rfl, rfl⟩ := hF.none rfl
    obtain rfl := List.eq_nil_of_length_eq_zero hlen.symm
    exact (Try.slices_Sort_string_none none 0 w).mono fun e w' ⟨h1, h2⟩ => ⟨h1, by subst h2; rw [show srtB [] = [] from by simp [srtB, lets, ofLets]]; exact hF⟩
  | some ad =>
    have hO := hF.os.own _ List.mem_cons_self
    rcases hO.elim with ⟨_, ⟨h, _⟩ | ⟨gb, cur, h, _⟩⟩
    · cases h
    · cases h
      have hlt := (hO.lt gb rfl).2
      have hcell : ∀ j, (hj : j < l.length) → w.cell? ⟨gb, 0 + j, none⟩ = some (.string l[j]) ∧ w.frozen? ⟨gb, 0 + j, none⟩ = false := fun j hj => by
        obtain ⟨g', e, _, _, c, z⟩ := hF.open (by rw [strV_len]; omega)
        cases e
        rw [Nat.zero_add]
        refine ⟨?_, z j⟩
        rw [c j (by rw [strV_len]; omega)]
        unfold strV
        rw [List.getElem?_map, List.getElem?_eq_getElem (by omega)]; rfl
      have hll : (lets l).length = l.length := by simp [lets]
      have hH : Holds encStr w gb 0 (lets l).toArray := by
        intro j hj
        have hj' : j < l.length := by rw [← hll]; simpa using hj
        obtain ⟨c, z⟩ := hcell j hj'
        refine ⟨?_, z⟩
        rw [c]
        have e2 : (lets l).toArray[j]! = l[j].data.toList := by simp [lets, hj']
        rw [e2]
      have key := Try.slices_Sort_string gb 0 cap (lets l) w hH hlt (by omega)
      rw [hll, ← hlen] at key
      refine key.mono ?_
      rintro e w' ⟨rfl, q, os, rfl⟩
      refine ⟨rfl, ?_⟩
      rw [Lib.putRow_eq_setCells encStr w gb 0 (lets l).toArray _ q hH (by simp [List.length_mergeSort])]
      have em : ((lets l).mergeSort fun x y => decide (x ≤ y)).map encStr = strV (srtB l) := by
        unfold srtB strV ofLets
        rw [List.map_map]
        exact List.map_congr_left fun s _ => rfl
      rw [em]
      have h2 := Fr.setCellsAtS (strV (srtB l)) [] (w.drewN q) (strV l) (by simpa using hF.drewN q) (by simp [strV_len, srtB_len])
      rw [List.nil_append] at h2
      exact h2.keep (below_growS _ _)
end Go.Proofs.Ytfompfaepabpgaa
