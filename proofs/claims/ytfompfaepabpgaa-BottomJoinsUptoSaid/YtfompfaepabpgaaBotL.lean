/- bottom.least: the sketch of names. -/
import Derived.Test.YtfompfaepabpgaaBotS
import Derived.Test.YtfompfaepabpgaaOwnC
import Derived.Test.YtfompfaepabpgaaBot1G
namespace Go.Proofs.Ytfompfaepabpgaa
open Go.RowKit

/-- slices.SortFunc with bottom.ahead puts a call's own names in order -/
def SortsNames : Prop := ∀ (w0 : World) (L : List Ent) (l : List ByteArray) (n cap : Nat) (ad : Option Addr) (w : World), Fr w0 w (⟨9, .slice ad n cap, strV l⟩ :: L) → n ≤ 4611686018427387903 → (∀ x ∈ l, x.size ≤ 12) →
  Calls Try.prog 83 #[.slice ad n cap, .func (.func 60) #[] #[]] w fun e w' => e = .returned (.tuple #[]) ∧ Fr w0 w' (⟨9, .slice ad n cap, strV (srtS l)⟩ :: L)
/-- a sample that a call hands back -/
def SmRet (most : Int) (l : List ByteArray) (w : World) (e : Ending) (w' : World) : Prop := ∃ ad cp, e = .returned (.agg #[.int .i64 most, .slice ad l.length cp]) ∧ Fr w w' [⟨9, .slice ad l.length cp, strV l⟩]
theorem strV_take (l : List ByteArray) (k : Nat) : (strV l).take k = strV (l.take k) := by simp [strV]
theorem srtS_len (l : List ByteArray) : (srtS l).length = l.length := List.length_mergeSort l
set_option maxRecDepth 100000 in
set_option maxHeartbeats 4000000 in
theorem botLst (hsort : SortsNames) (k : Nat) (l : List ByteArray) (n : Nat) (a : Option Addr) (cap : Nat) (w : World) (h : Sa w a (strV l)) (hn : l.length = n) (hnil : a = none → n = 0 ∧ cap = 0) (hl : n * 16 ≤ 140737488355328) (hz : ∀ x ∈ l, x.size ≤ 12) :
    Calls Try.prog 58 #[.int .i64 k, .slice a n cap] w (SmRet k (skS k l) w) := by
  obtain ⟨N, hN⟩ : ∃ N, w.heap.size = N := ⟨_, rfl⟩
  have HF0 := Lib.hid ((Fr.start w).new 48 #[.int .i64 0, .slice none 0 0] [.int .i64 0, .slice none 0 0] rfl 2 rfl (by omega))
  rw [hN] at HF0
  have HC := Lib.hid (clnSt l n a cap _ (HF0.out.old h) hn hnil hl)
  have HSort := Lib.hid hsort
  have HN := Lib.hid hn; have HZ := Lib.hid hz
  clear h hn hnil hz hsort
  go_enter Try.func58, Try.ntmps58
  go_wp2_with fail
  refine HC.out.mono ?_; rintro e w1 ⟨ad, cp, rfl, hf1⟩
  have HF1 := Lib.hid (HF0.out.call hf1)
  clear hf1
  go_wp2_with fail
  refine (HSort.out w _ l n cp ad w1 HF1.out (by omega) HZ.out).mono ?_; rintro e w2 ⟨rfl, hf2⟩
  have HF2 := Lib.hid hf2
  clear hf2
  go_wp2_with fail
  refine (slCompS (srtS l) n cp ad w2 HF2.out (by omega)).mono ?_; rintro e w3 ⟨rfl, r, hr1, hr2, hr3, hf3⟩
  obtain ⟨c, hc⟩ : ∃ c, (cmpS (srtS l)).length = c := ⟨_, rfl⟩
  rw [hc] at hr2 hr3 ⊢
  have HR1 := Lib.hid hr1; have HR2 := Lib.hid hr2; have HF3 := Lib.hid hf3; have HCl := Lib.hid hc
  have hcap : n ≤ cp := hf3.cap
  clear hr1 hr2 hf3 hc
  go_wp2_with fail
  have HF4 : Hid (Fr w w3 (⟨9, .slice ad (skS k l).length cp, strV (skS k l)⟩ :: [⟨48, .slice (some ⟨N, 0, none⟩) 2 2, [.int .i64 0, .slice none 0 0]⟩])) := by
    refine Lib.hid ?_
    have h1 := HF3.out.cut (skS k l).length (by rw [strV_len, HR1.out]; unfold skS; rw [List.length_take]; have := HCl.out; unfold setS; omega)
    rw [strV_take] at h1
    have e : r.take (skS k l).length = skS k l := by
      have e1 : (skS k l).length = min k c := by unfold skS; rw [List.length_take]; unfold setS; rw [HCl.out]
      rw [e1, show r.take (min k c) = (r.take c).take k from by rw [List.take_take], HR2.out]; rfl
    rw [e] at h1
    exact h1
  have hm : (min (c : Int) (k : Int)).toNat = (skS k l).length := by
    unfold skS; rw [List.length_take]; unfold setS; rw [HCl.out]; omega
  rw [hm]
  have hle : (skS k l).length ≤ n := by omega
  have h4 := HF4.out.get 0 rfl
  have hnone := fun e => HF4.out.none (ad := ad) e
  refine (clnSt (skS k l) (skS k l).length ad cp w3 h4 rfl hnone (by omega)).mono ?_; rintro e w4 ⟨ad5, cp5, rfl, hf5⟩
  have h5 := HF4.out.call hf5
  have h6 := Fr.perm h5 (.trans (.swap _ _ _) (.trans (List.Perm.cons _ (.swap _ _ _)) (.swap _ _ _)))
  obtain ⟨g, e, -, hgw, t1, t2⟩ := h6.open (by simp)
  cases e
  have c0 := t1 0 (by simp)
  have c1 := t1 1 (by simp)
  simp only [List.getElem?_cons_zero, List.getElem?_cons_succ] at c0 c1
  have f0 := t2 0
  have f1 := t2 1
  have HF6 := Lib.hid h6
  clear t1 t2 h5 h6 hf5 h4 hnone hm
  obtain ⟨m, hmm⟩ : ∃ m, (skS k l).length = m := ⟨_, rfl⟩
  rw [hmm] at HF6 hle ⊢
  go_wp2_with fail
  have h7 := (HF6.out.set 0 (.int .i64 (k : Int))).set 1 (.slice ad5 m cp5)
  obtain ⟨g, e, -, -, t1, -⟩ := h7.open (by simp)
  cases e
  have d0 := t1 0 (by simp)
  have d1 := t1 1 (by simp)
  simp only [List.set_cons_zero, List.set_cons_succ, List.getElem?_cons_zero, List.getElem?_cons_succ] at d0 d1
  have HF7 := Lib.hid (h7.sub (M := [⟨9, .slice ad5 m cp5, strV (skS k l)⟩]) (List.Sublist.cons _ (List.Sublist.cons _ (List.Sublist.refl _))))
  have HM := Lib.hid hmm
  clear c0 c1 f0 f1 t1 h7 hmm
  (try simp only [Exit.inBlock, Exit.then])
  refine bodyPost_ret (v := .agg #[.int .i64 k, .slice ad5 m cp5]) ?_ ?_ ?_
  · simp [results, Try.results58, go_sem, d0, d1]
  · rfl
  · exact ⟨ad5, cp5, by rw [HM.out], by rw [HM.out]; exact HF7.out⟩
end Go.Proofs.Ytfompfaepabpgaa
