/- Several of my texts in one: OrbS. -/
import Derived.Test.YtooghdnlaonkaaaRw20
import Derived.Test.YtooghdnlaonkaaaRw15
import Derived.Test.YtooghdnlaonkaaaShelf
import Derived.Lib.RowBridge
import Derived.Shelf.SlSortCmp.NoneTotal
/- slices.SortFunc with slices.Compare puts a call's own rows in order. -/
namespace Go.Proofs.Ytooghdnlaonkaaa
open Go.RowKit Go.Sort Go.Shelf

theorem Fr.setCellsAtR {w0 : World} {L : List Ent} {T : TypeId} {g n cap : Nat} : ∀ (vs pre : List Value) (w : World) (post : List Value), Fr w0 w (⟨T, .slice (some ⟨g, 0, .none⟩) n cap, pre ++ post⟩ :: L) → vs.length = post.length →
    Fr w0 (w.setCells g pre.length vs) (⟨T, .slice (some ⟨g, 0, .none⟩) n cap, pre ++ vs⟩ :: L)
  | [], pre, w, post, h, hl => by
    rw [List.eq_nil_of_length_eq_zero hl.symm] at h; exact h
  | v :: vs, pre, w, [], h, hl => by simp at hl
  | v :: vs, pre, w, p :: post, h, hl => by
    have h1 := h.set pre.length v
    rw [List.set_append_right _ _ (Nat.le_refl _), Nat.sub_self, List.set_cons_zero, show pre ++ v :: post = (pre ++ [v]) ++ post from by simp] at h1
    have h2 := Fr.setCellsAtR vs (pre ++ [v]) _ post h1 (by simpa using hl)
    rw [List.length_append, List.length_singleton] at h2
    rw [World.setCells, show pre ++ v :: vs = (pre ++ [v]) ++ vs from by simp]
    exact h2
theorem below_growR (w : World) (os : Array Obj) : Below w.heap.size w (Sort.grow w os) := ⟨rfl, rfl, rfl, by simp [Sort.grow], fun k hk => by simp [Sort.grow, Array.getElem?_append_left hk]⟩
theorem nodup_of_map {α β : Type} {f : α → β} {l : List α} (h : (l.map f).Nodup) : l.Nodup := (List.pairwise_map.1 h).imp fun {_ _} hne e => hne (congrArg f e)
section
variable {R : List Rw}
def rwE (x : {p : Rw // p ∈ R}) : Value := rv x.1
def rwC (x y : {p : Rw // p ∈ R}) : Int := lexC x.1.2.2 y.1.2.2
theorem rwLt (x y : {p : Rw // p ∈ R}) : ltOf rwC x y = decide (lexC x.1.2.2 y.1.2.2 < 0) := rfl
variable {n : Nat} (hp : ∀ p ∈ R, p.2.2.length = n)
include hp
theorem rwSWO : SWO (ltOf (rwC (R := R))) :=
  ⟨fun x => by rw [rwLt, lexC_self]; rfl, fun x y z h1 h2 => by
    rw [rwLt] at *
    have h1 := of_decide_eq_true h1
    have h2 := of_decide_eq_true h2
    exact decide_eq_true (lexC_tr _ _ _ (by rw [hp _ x.2, hp _ y.2]) (by rw [hp _ y.2, hp _ z.2]) (by omega) h2), fun x y z h1 h2 => by
    rw [rwLt] at *
    have h1 := of_decide_eq_false h1
    have h2 := of_decide_eq_false h2
    have e1 := lexC_neg x.1.2.2 y.1.2.2
    have e2 := lexC_neg y.1.2.2 z.1.2.2
    have e3 := lexC_neg x.1.2.2 z.1.2.2
    have := lexC_tr' (l := z.1.2.2) (m := y.1.2.2) (r := x.1.2.2) (by rw [hp _ z.2, hp _ y.2]) (by rw [hp _ y.2, hp _ x.2]) (by omega) (by omega)
    exact decide_eq_false (by omega)⟩
theorem rwTot (hnd : (lsR R).Nodup) : ∀ x y : {p : Rw // p ∈ R}, ltOf rwC x y = false → ltOf rwC y x = false → x = y := fun x y h1 h2 => by
  rw [rwLt] at *
  have h1 := of_decide_eq_false h1
  have h2 := of_decide_eq_false h2
  have e1 := lexC_neg x.1.2.2 y.1.2.2
  have h3 := lexC_zero x.1.2.2 y.1.2.2 (by rw [hp _ x.2, hp _ y.2]) (by omega)
  obtain ⟨i, hi, ei⟩ := List.getElem_of_mem x.2
  obtain ⟨j, hj, ej⟩ := List.getElem_of_mem y.2
  have h4 : (lsR R)[i]'(by rw [lsR_len]; exact hi) = (lsR R)[j]'(by rw [lsR_len]; exact hj) := by rw [lsR_get R i hi, lsR_get R j hj, ei, ej, h3]
  have h5 : i = j := by
    have hpw := List.pairwise_iff_getElem.1 hnd
    rcases Nat.lt_trichotomy i j with h | h | h
    · exact absurd h4 (hpw i j (by rw [lsR_len]; exact hi) (by rw [lsR_len]; exact hj) h)
    · exact h
    · exact absurd h4.symm (hpw j i (by rw [lsR_len]; exact hj) (by rw [lsR_len]; exact hi) h)
  subst h5
  exact Subtype.ext (ei.symm.trans ej)
end
set_option maxHeartbeats 1000000 in
theorem sortRows {w0 w : World} (n : Nat) (R : List Rw) (r : Nat) (ad : Option Addr) (cap : Nat) (hF : Fr w0 w (outE ad r cap R :: R.map re)) (h0 : 0 < r) (hr : r ≤ 1000) (hn : n ≤ 1000) (hp : ∀ p ∈ R, p.2.2.length = n) (hnd : (lsR R).Nodup) :
    Calls Try.prog 84 #[.slice ad r cap, .func (.func 85) #[] #[]] w
      fun e w' => e = .returned (.tuple #[]) ∧ ∃ R' : List Rw, R'.Perm R ∧ Fr w0 w' (outE ad r cap R' :: R'.map re) ∧ (lsR R').Pairwise (fun a b => lexC a b < 0) := by
  have hlen : r = R.length := by have := hF.len; rwa [List.length_map] at this
  have hO := hF.os.own _ List.mem_cons_self
  rcases hO.elim with ⟨_, ⟨_, _, h⟩ | ⟨gb, cur, h, _⟩⟩
  · have := congrArg List.length h
    rw [List.length_map, List.length_nil] at this; omega
  · subst h
    have hlt := (hO.lt gb rfl).2
    obtain ⟨p0, hp0⟩ : ∃ p, p ∈ R := ⟨_, List.getElem_mem (n := 0) (by omega)⟩
    haveI : Inhabited {p : Rw // p ∈ R} := ⟨⟨p0, hp0⟩⟩
    have hM : R.attach.map (·.1) = R := List.attach_map_subtype_val R
    have hMl : R.attach.length = r := by simp [hlen]
    have hEnc : ∀ l : List {p : Rw // p ∈ R}, l.map rwE = (l.map (·.1)).map rv := fun l => by rw [List.map_map]; rfl
    have hH : Holds rwE w gb 0 R.attach.toArray := by
      intro j hj
      have hj' : j < R.length := by simpa using hj
      obtain ⟨g', e, _, _, c, z⟩ := hF.open (by rw [List.length_map]; omega)
      cases e
      rw [Nat.zero_add]
      refine ⟨?_, z j⟩
      rw [c j (by rw [List.length_map]; exact hj'), List.getElem?_map, List.getElem?_eq_getElem hj']
      have e2 : R.attach.toArray[j]! = R.attach[j]'(by simpa using hj) := by simp [hj']
      rw [e2]
      simp [rwE]
    have hsz : R.attach.toArray.size = r := by simp [hlen]
    have hSW : ∀ (q : Nat) (os : Array Obj) (l : List {p : Rw // p ∈ R}), l.length = r → Fr w0 (sortWorld rwE w gb 0 q l.toArray os) (⟨32, .slice (some ⟨gb, 0, none⟩) r cap, (l.map (·.1)).map rv⟩ :: R.map re) := fun q os l hl => by
      unfold sortWorld
      rw [Lib.putRow_eq_setCells rwE w gb 0 R.attach.toArray l q hH (by rw [hl, hsz]), hEnc]
      have h2 := Fr.setCellsAtR ((l.map (·.1)).map rv) [] (w.drewN q) (R.map rv) (by simpa using hF.drewN q) (by simp [hl, hlen])
      rw [List.nil_append] at h2
      exact h2.keep (below_growR _ _)
    have key := Try.slices_SortFunc_total_f84 rwE (fun x => rfl) rwC (rwSWO hp) 85 #[] gb 0 cap R.attach.toArray w (enters_of Try.func85 (by kernel_rfl) rfl)
      (fun m os dk hs x y => by
        have hf := hSW m os dk.toList (by rw [Array.length_toList, hs, hsz])
        have sx := hf.mem (List.mem_cons_of_mem _ (List.mem_map_of_mem (f := re) x.2))
        have sy := hf.mem (List.mem_cons_of_mem _ (List.mem_map_of_mem (f := re) y.2))
        have hc := slCompare x.1.2.2 y.1.2.2 (rwE x) (rwE y) _ (Sa.sl (cap := x.1.2.1) sx) (Sa.sl (cap := y.1.2.1) sy) (by rw [hp _ x.2, hp _ y.2]) (by rw [hp _ x.2]; omega)
        refine hc.mono ?_
        rintro e w' ⟨h1, rfl⟩
        exact ⟨h1, 0, #[], by rw [grow_empty]; rfl⟩) hH hlt (by rw [hsz]; omega) (rwTot hp hnd)
    rw [hsz] at key
    refine key.mono ?_
    rintro e w' ⟨rfl, q, os, rfl⟩
    have hperm : (R.attach.toArray.toList.mergeSort fun x y => !(ltOf rwC) y x).Perm R.attach := List.mergeSort_perm _ _
    refine ⟨rfl, (R.attach.toArray.toList.mergeSort fun x y => !(ltOf rwC) y x).map (·.1), ?_, ?_, ?_⟩
    · have := hperm.map (·.1)
      rwa [hM] at this
    · have hf := hSW q os (R.attach.toArray.toList.mergeSort fun x y => !(ltOf rwC) y x) (by rw [hperm.length_eq, hMl])
      refine hf.perm (List.Perm.cons _ (List.Perm.map _ ?_))
      have := hperm.map (·.1)
      rw [hM] at this
      exact this.symm
    · have hs := List.pairwise_mergeSort (le := fun x y : {p : Rw // p ∈ R} => !(ltOf rwC) y x) (fun a b c h1 h2 => ?_) (fun a b => ?_) R.attach
      · have hnd2 : (R.attach.mergeSort fun x y => !(ltOf rwC) y x).Nodup := by
          have hpp : (R.attach.mergeSort fun x y => !(ltOf rwC) y x).Perm R.attach := List.mergeSort_perm _ _
          refine hpp.nodup_iff.2 ?_
          have : (R.attach.map (·.1)).Nodup := by
            rw [hM]
            exact nodup_of_map (f := fun p : Rw => p.2.2) hnd
          exact nodup_of_map this
        unfold lsR
        rw [List.map_map]
        refine List.pairwise_map.2 ?_
        refine (List.pairwise_and_iff.2 ⟨hs, hnd2⟩).imp ?_
        rintro x y ⟨h1, h2⟩
        have h3 : ltOf rwC y x = false := by simpa using h1
        cases h4 : ltOf rwC x y
        · exact absurd (rwTot hp hnd x y h4 h3) h2
        · rw [rwLt] at h4
          exact of_decide_eq_true h4
      · have h1 : ltOf rwC b a = false := by simpa using h1
        have h2 : ltOf rwC c b = false := by simpa using h2
        rw [(rwSWO hp).ntrans c b a h2 h1]; rfl
      · cases h1 : ltOf rwC b a
        · rfl
        · have : ltOf rwC a b = false := by
            cases h2 : ltOf rwC a b
            · rfl
            · have := (rwSWO hp).trans a b a h2 h1
              rw [(rwSWO hp).irrefl] at this; cases this
          rw [this]; rfl
end Go.Proofs.Ytooghdnlaonkaaa
