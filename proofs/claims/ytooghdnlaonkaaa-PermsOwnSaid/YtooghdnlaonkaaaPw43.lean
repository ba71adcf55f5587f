/- Several of my texts in one: SrtD. -/
import Derived.Test.YtooghdnlaonkaaaPw42
import Derived.Test.YtooghdnlaonkaaaPw39
import Derived.Shelf.SlSortCmp.NoneTotal
/- slices.SortFunc of small numbers with 'b - a', at any length, by the shelf's contract. -/
namespace Go.Proofs.Ytooghdnlaonkaaa
open Go.RowKit Go.Sort Go.Shelf

abbrev SmF := Fin 100000
def smE (x : SmF) : Value := .int .i64 (x.val : Int)
def smC (x y : SmF) : Int := (y.val : Int) - (x.val : Int)
theorem smLt (x y : SmF) : ltOf smC x y = decide (y.val < x.val) := by
  unfold ltOf smC
  exact decide_eq_decide.2 (by omega)
theorem smSWO : SWO (ltOf smC) :=
  ⟨fun x => by rw [smLt]; exact decide_eq_false (by omega), fun x y z h1 h2 => by
    rw [smLt] at *
    have := of_decide_eq_true h1; have := of_decide_eq_true h2
    exact decide_eq_true (by omega), fun x y z h1 h2 => by
    rw [smLt] at *
    have := of_decide_eq_false h1; have := of_decide_eq_false h2
    exact decide_eq_false (by omega)⟩
theorem smTot : ∀ x y, ltOf smC x y = false → ltOf smC y x = false → x = y := fun x y h1 h2 => by
  rw [smLt] at *
  have := of_decide_eq_false h1; have := of_decide_eq_false h2
  exact Fin.ext (by omega)
theorem smE_map (L : List SmF) : L.map smE = ints (L.map fun x => (x.val : Int)) := by simp [ints, smE, Function.comp_def]
theorem smSort (L : List SmF) : (L.mergeSort fun x y => !(ltOf smC) y x).map (fun x => (x.val : Int)) = desc (L.map fun x => (x.val : Int)) := by
  unfold desc
  refine List.map_mergeSort fun a _ b _ => ?_
  rw [smLt]
  by_cases h : (b.val : Int) ≤ (a.val : Int)
  · rw [decide_eq_true h, decide_eq_false (by omega)]; rfl
  · rw [decide_eq_false h, decide_eq_true (by omega)]; rfl
theorem smOf (l : List Int) (h : ∀ x ∈ l, 0 ≤ x ∧ x < 100000) : ∃ L : List SmF, L.map (fun x => (x.val : Int)) = l := by
  induction l with
  | nil => exact ⟨[], rfl⟩
  | cons x l ih =>
    obtain ⟨L, hL⟩ := ih fun y hy => h y (List.mem_cons_of_mem _ hy)
    have hx := h x List.mem_cons_self
    exact ⟨⟨x.toNat, by omega⟩ :: L, by simp [hL]; omega⟩
theorem sortsDown (g : Nat) (hg : ∀ args w, (callFunc g args).run Try.prog w = .ok (.enter g args) w)
    (hc : ∀ (x y : SmF) (W : World), Calls Try.prog g #[smE x, smE y] W fun e w' => e = .returned (.int .i64 (smC x y)) ∧ W = w') : SortsDown g := by
  intro w0 L l n cap ad w hF hn hb
  have hlen := hF.len
  rw [ints_len] at hlen
  cases ad with
  | none =>
    obtain ⟨rfl, rfl⟩ := hF.none rfl
    obtain rfl := List.eq_nil_of_length_eq_zero hlen.symm
    exact (Try.slices_SortFunc_none_f98 (α := SmF) none 0 _ w).mono fun e w' ⟨h1, h2⟩ => ⟨h1, by subst h2; rw [show desc [] = [] from by simp [desc]]; exact hF⟩
  | some ad =>
    have hO := hF.os.own _ List.mem_cons_self
    rcases hO.elim with ⟨_, ⟨h, _⟩ | ⟨gb, cur, h, _⟩⟩
    · cases h
    · cases h
      have hlt := (hO.lt gb rfl).2
      obtain ⟨M, hM⟩ := smOf l hb
      have hcell : ∀ j, j < l.length → w.cell? ⟨gb, 0 + j, none⟩ = some (.int .i64 (nth l j)) ∧ w.frozen? ⟨gb, 0 + j, none⟩ = false := fun j hj => by
        obtain ⟨g', e, _, c, z⟩ := hF.openI j hj
        cases e
        rw [Nat.zero_add]; exact ⟨c, z⟩
      have hH : Holds smE w gb 0 M.toArray := by
        intro j hj
        have hj' : j < l.length := by rw [← hM]; simpa using hj
        obtain ⟨c, z⟩ := hcell j hj'
        refine ⟨?_, z⟩
        rw [c]
        have hjM : j < M.length := by simpa using hj
        have e1 : nth l j = ((M[j]).val : Int) := by subst hM; simp [nth, hjM]
        have e2 : M.toArray[j]! = M[j] := by simp [hjM]
        rw [e1, e2]; rfl
      have hsz : M.toArray.size = n := by rw [hlen, ← hM]; simp
      have key := Try.slices_SortFunc_total_f98 smE (fun x => rfl) smC smSWO g #[] gb 0 cap M.toArray w hg
        (CmpReads.lays fun m os dk _ x y => (hc x y _).mono fun e w' ⟨h1, h2⟩ => ⟨h1, 0, h2.symm⟩) hH hlt (by rw [hsz]; omega) smTot
      rw [hsz] at key
      refine key.mono ?_
      rintro e w' ⟨rfl, q, os, rfl⟩
      refine ⟨rfl, ?_⟩
      unfold sortWorld
      rw [Lib.putRow_eq_setCells smE w gb 0 M.toArray _ q hH (by simp [List.length_mergeSort])]
      rw [show M.toArray.toList = M from rfl, smE_map, smSort, hM]
      have h2 := Fr.setCellsAt (ints (desc l)) [] (w.drewN q) (ints l) (by simpa using hF.drewN q) (by simp [ints_len, desc_len])
      rw [List.nil_append] at h2
      exact h2.keep (below_grow _ _)
theorem oddCmp (x y : SmF) (W : World) : Calls Try.prog 111 #[smE x, smE y] W fun e w' => e = .returned (.int .i64 (smC x y)) ∧ W = w' := by
  obtain ⟨x, hx⟩ := x
  obtain ⟨y, hy⟩ := y
  unfold smE smC
  simp only
  go_enter Try.func111, Try.ntmps111
  go_wp2
  go_ret
  exact ⟨rfl, rfl⟩
theorem unlikeCmp (x y : SmF) (W : World) : Calls Try.prog 112 #[smE x, smE y] W fun e w' => e = .returned (.int .i64 (smC x y)) ∧ W = w' := by
  obtain ⟨x, hx⟩ := x
  obtain ⟨y, hy⟩ := y
  unfold smE smC
  simp only
  go_enter Try.func112, Try.ntmps112
  go_wp2
  go_ret
  exact ⟨rfl, rfl⟩
theorem sortOdd : SortsDown 111 := sortsDown _ (enters_of Try.func111 (by kernel_rfl) rfl) oddCmp
theorem sortUnlike : SortsDown 112 := sortsDown _ (enters_of Try.func112 (by kernel_rfl) rfl) unlikeCmp
end Go.Proofs.Ytooghdnlaonkaaa
