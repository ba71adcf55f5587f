/- Several of my texts in one: BotL, BotOf. -/
import Derived.Test.YtooghdnlaonkaaaDw21
import Derived.Test.YtooghdnlaonkaaaDw23
/- bottom.least: the sketch of names. -/
namespace Go.Proofs.Ytooghdnlaonkaaa
open Go.RowKit

/-- slices.SortFunc with bottom.ahead puts a call's own names in order -/
def SortsNames : Prop := ∀ (w0 : World) (L : List Ent) (l : List ByteArray) (n cap : Nat) (ad : Option Addr) (w : World), Fr w0 w (⟨9, .slice ad n cap, strV l⟩ :: L) → n ≤ 4611686018427387903 → (∀ x ∈ l, x.size ≤ 12) →
  Calls Try.prog 133 #[.slice ad n cap, .func (.func 129) #[] #[]] w fun e w' => e = .returned (.tuple #[]) ∧ Fr w0 w' (⟨9, .slice ad n cap, strV (srtS l)⟩ :: L)
/-- a sample that a call hands back -/
def SmRet (most : Int) (l : List ByteArray) (w : World) (e : Ending) (w' : World) : Prop := ∃ ad cp, e = .returned (.agg #[.int .i64 most, .slice ad l.length cp]) ∧ Fr w w' [⟨9, .slice ad l.length cp, strV l⟩]
theorem strV_take (l : List ByteArray) (k : Nat) : (strV l).take k = strV (l.take k) := by simp [strV]
theorem srtS_len (l : List ByteArray) : (srtS l).length = l.length := List.length_mergeSort l
set_option maxRecDepth 100000 in
set_option maxHeartbeats 4000000 in
theorem botLst (hsort : SortsNames) (k : Nat) (l : List ByteArray) (n : Nat) (a : Option Addr) (cap : Nat) (w : World) (h : Sa w a (strV l)) (hn : l.length = n) (hnil : a = none → n = 0 ∧ cap = 0) (hl : n * 16 ≤ 140737488355328) (hz : ∀ x ∈ l, x.size ≤ 12) :
    Calls Try.prog 91 #[.int .i64 k, .slice a n cap] w (SmRet k (skS k l) w) := by
  obtain ⟨N, hN⟩ : ∃ N, w.heap.size = N := ⟨_, rfl⟩
  have HF0 := Lib.hid ((Fr.start w).new 71 #[.int .i64 0, .slice none 0 0] [.int .i64 0, .slice none 0 0] rfl 2 rfl (by omega))
  rw [hN] at HF0
  have HC := Lib.hid (clnSt l n a cap _ (HF0.out.old h) hn hnil hl)
  have HSort := Lib.hid hsort
  have HN := Lib.hid hn; have HZ := Lib.hid hz
  clear h hn hnil hz hsort
  go_enter Try.func91, Try.ntmps91
  go_wp2_with fail
  refine HC.out.mono ?_; rintro e w1 ⟨ad, cp, rfl, hf1⟩
  have HF1 := Lib.hid (HF0.out.call hf1)
  clear hf1
  go_wp2_with fail
  refine (HSort.out w _ l n cp ad w1 HF1.out (by omega) HZ.out).mono ?_; rintro e w2 ⟨rfl, hf2⟩
  have HF2 := Lib.hid hf2
  clear hf2
  go_wp2_with fail
  refine (slCompS (srtS l) n cp ad w2 HF2.out (by omega)).mono ?_; rintro e w3 ⟨rfl, r, hr1, hr2, hr3, hf3⟩
  obtain ⟨c, hc⟩ : ∃ c, (cmpS (srtS l)).length = c := ⟨_, rfl⟩
  rw [hc] at hr2 hr3 ⊢
  have HR1 := Lib.hid hr1; have HR2 := Lib.hid hr2; have HF3 := Lib.hid hf3; have HCl := Lib.hid hc
  have hcap : n ≤ cp := hf3.cap
  clear hr1 hr2 hf3 hc
  go_wp2_with fail
  have HF4 : Hid (Fr w w3 (⟨9, .slice ad (skS k l).length cp, strV (skS k l)⟩ :: [⟨71, .slice (some ⟨N, 0, none⟩) 2 2, [.int .i64 0, .slice none 0 0]⟩])) := by
    refine Lib.hid ?_
    have h1 := HF3.out.cut (skS k l).length (by rw [strV_len, HR1.out]; unfold skS; rw [List.length_take]; have := HCl.out; unfold setS; omega)
    rw [strV_take] at h1
    have e : r.take (skS k l).length = skS k l := by
      have e1 : (skS k l).length = min k c := by unfold skS; rw [List.length_take]; unfold setS; rw [HCl.out]
      rw [e1, show r.take (min k c) = (r.take c).take k from by rw [List.take_take], HR2.out]; rfl
    rw [e] at h1
    exact h1
  have hm : (min (c : Int) (k : Int)).toNat = (skS k l).length := by
    unfold skS; rw [List.length_take]; unfold setS; rw [HCl.out]; omega
  rw [hm]
  have hle : (skS k l).length ≤ n := by omega
  have h4 := HF4.out.get 0 rfl
  have hnone := fun e => HF4.out.none (ad := ad) e
  refine (clnSt (skS k l) (skS k l).length ad cp w3 h4 rfl hnone (by omega)).mono ?_; rintro e w4 ⟨ad5, cp5, rfl, hf5⟩
  have h5 := HF4.out.call hf5
  have h6 := Fr.perm h5 (.trans (.swap _ _ _) (.trans (List.Perm.cons _ (.swap _ _ _)) (.swap _ _ _)))
  obtain ⟨g, e, -, hgw, t1, t2⟩ := h6.open (by simp)
  cases e
  have c0 := t1 0 (by simp)
  have c1 := t1 1 (by simp)
  simp only [List.getElem?_cons_zero, List.getElem?_cons_succ] at c0 c1
  have f0 := t2 0
  have f1 := t2 1
  have HF6 := Lib.hid h6
  clear t1 t2 h5 h6 hf5 h4 hnone hm
  obtain ⟨m, hmm⟩ : ∃ m, (skS k l).length = m := ⟨_, rfl⟩
  rw [hmm] at HF6 hle ⊢
  go_wp2_with fail
  have h7 := (HF6.out.set 0 (.int .i64 (k : Int))).set 1 (.slice ad5 m cp5)
  obtain ⟨g, e, -, -, t1, -⟩ := h7.open (by simp)
  cases e
  have d0 := t1 0 (by simp)
  have d1 := t1 1 (by simp)
  simp only [List.set_cons_zero, List.set_cons_succ, List.getElem?_cons_zero, List.getElem?_cons_succ] at d0 d1
  have HF7 := Lib.hid (h7.sub (M := [⟨9, .slice ad5 m cp5, strV (skS k l)⟩]) (List.Sublist.cons _ (List.Sublist.cons _ (List.Sublist.refl _))))
  have HM := Lib.hid hmm
  clear c0 c1 f0 f1 t1 h7 hmm
  (try simp only [Exit.inBlock, Exit.then])
  refine bodyPost_ret (v := .agg #[.int .i64 k, .slice ad5 m cp5]) ?_ ?_ ?_
  · simp [results, Try.results91, go_sem, d0, d1]
  · rfl
  · exact ⟨ad5, cp5, by rw [HM.out], by rw [HM.out]; exact HF7.out⟩
end Go.Proofs.Ytooghdnlaonkaaa
/- bottom.Of. -/
namespace Go.Proofs.Ytooghdnlaonkaaa
open Go.RowKit

/-- a result of a sample and an error: refused -/
def SmNo (w : World) (e : Ending) (w' : World) : Prop := ∃ er : Int, (1 ≤ er ∧ er ≤ 3) ∧ e = .returned (.tuple #[.agg #[.int .i64 0, .slice none 0 0], .int .i64 er]) ∧ Fr w w' []
/-- .. and taken -/
def SmYes (most : Int) (l : List ByteArray) (w : World) (e : Ending) (w' : World) : Prop := ∃ ad cp, e = .returned (.tuple #[.agg #[.int .i64 most, .slice ad l.length cp], .int .i64 0]) ∧ Fr w w' [⟨9, .slice ad l.length cp, strV l⟩]
set_option maxRecDepth 100000 in
set_option maxHeartbeats 4000000 in
theorem botOfNo (most : Int) (n : Nat) (a : Option Addr) (cap : Nat) (w : World) (hm : most < 1 ∨ 30 < most) :
    Calls Try.prog 42 #[.int .i64 most, .slice a n cap] w (SmNo w) := by
  obtain ⟨N, hN⟩ : ∃ N, w.heap.size = N := ⟨_, rfl⟩
  have HF0 := Lib.hid ((Fr.start w).new 71 #[.int .i64 0, .slice none 0 0] [.int .i64 0, .slice none 0 0] rfl 2 rfl (by omega))
  rw [hN] at HF0
  obtain ⟨g, e, -, -, t1, t2⟩ := HF0.out.open (by simp)
  cases e
  have c0 := t1 0 (by simp)
  have c1 := t1 1 (by simp)
  simp only [List.getElem?_cons_zero, List.getElem?_cons_succ] at c0 c1
  have f0 := t2 0
  have f1 := t2 1
  have HF7 := Lib.hid HF0.out.below
  clear t1 t2
  rcases Int.lt_or_le most 1 with b | b
  · have g1 : decide (most < 1) = true := decide_eq_true b
    go_enter Try.func42, Try.ntmps42
    go_wp2_with fail
    (try simp only [Exit.inBlock, Exit.then])
    refine bodyPost_ret (v := .tuple #[.agg #[.int .i64 0, .slice none 0 0], .int .i64 1]) ?_ ?_ ?_
    · simp [results, Try.results42, go_sem, c0, c1]
    · rfl
    · exact ⟨1, by decide, rfl, HF7.out⟩
  · have g1 : decide (most < 1) = false := decide_eq_false (by omega)
    have g2 : decide (30 < most) = true := decide_eq_true (by omega)
    go_enter Try.func42, Try.ntmps42
    go_wp2_with fail
    (try simp only [Exit.inBlock, Exit.then])
    refine bodyPost_ret (v := .tuple #[.agg #[.int .i64 0, .slice none 0 0], .int .i64 1]) ?_ ?_ ?_
    · simp [results, Try.results42, go_sem, c0, c1]
    · rfl
    · exact ⟨1, by decide, rfl, HF7.out⟩
/-- what Of answers for a number that may be -/
def OfPost (k : Nat) (l : List ByteArray) (w : World) (e : Ending) (w' : World) : Prop := ((∀ x ∈ l, x.size ≤ 12) ∧ SmYes k (skS k l) w e w') ∨ ((∃ x ∈ l, 12 < x.size) ∧ SmNo w e w')
set_option maxRecDepth 100000 in
set_option maxHeartbeats 4000000 in
theorem botOf (hsort : SortsNames) (k : Nat) (l : List ByteArray) (n : Nat) (a : Option Addr) (cap : Nat) (w : World) (h : Sa w a (strV l)) (hn : l.length = n) (hnil : a = none → n = 0 ∧ cap = 0) (hl : n * 16 ≤ 140737488355328) (h1 : 1 ≤ k) (h2 : k ≤ 30) :
    Calls Try.prog 42 #[.int .i64 k, .slice a n cap] w (OfPost k l w) := by
  obtain ⟨N, hN⟩ : ∃ N, w.heap.size = N := ⟨_, rfl⟩
  have HF0 := Lib.hid ((Fr.start w).new 71 #[.int .i64 0, .slice none 0 0] [.int .i64 0, .slice none 0 0] rfl 2 rfl (by omega))
  rw [hN] at HF0
  have HS := Lib.hid h; have HN := Lib.hid hn; have HSort := Lib.hid hsort; have HNil := Lib.hid hnil
  have g1 : decide ((k : Int) < 1) = false := decide_eq_false (by omega)
  have g2 : decide ((30 : Int) < (k : Int)) = false := decide_eq_false (by omega)
  have hl' : n ≤ 9223372036854775807 := by omega
  have HL := Lib.hid hl
  clear h hn hsort hnil hl
  go_enter Try.func42, Try.ntmps42
  go_wp2_with fail
  clear g1 g2
  go_loopw [17] (fun q wr => ∃ (j : Nat), j ≤ n ∧ q = .int .i64 j ∧ Hid (∀ i x, i < j → l[i]? = some x → x.size ≤ 12) ∧ Hid (Fr w wr [⟨71, .slice (some ⟨N, 0, none⟩) 2 2, [.int .i64 0, .slice none 0 0]⟩])) (fun q _ => n - (intOf q).toNat)
  case atStart => exact ⟨0, by omega, rfl, Lib.hid (fun i x hi => absurd hi (by omega)), HF0⟩
  case round =>
    obtain ⟨j, hj, rfl, HK, HF⟩ := hrel
    by_cases hlt : j < n
    · obtain ⟨x, hx⟩ : ∃ x, l[j]? = some x := ⟨_, List.getElem?_eq_getElem (by rw [HN.out]; exact hlt)⟩
      obtain ⟨b, off, rfl, -, x1⟩ := (HF.out.old HS.out).strA j x hx
      have d1 : (0 : Int) ≤ (j : Int) := by omega
      have d2 : (j : Int) < (n : Int) := by omega
      by_cases s1 : 12 < x.size
      · have HX := Lib.hid (List.mem_of_getElem? hx)
        have g4 : decide ((12 : Int) < (x.size : Int)) = true := decide_eq_true (by omega)
        have h7 := (HF.out.set 0 (.int .i64 0)).set 1 (.slice none 0 0)
        obtain ⟨g, e, -, -, t1, -⟩ := h7.open (by simp)
        cases e
        have e0 := t1 0 (by simp)
        have e1 := t1 1 (by simp)
        simp only [List.set_cons_zero, List.set_cons_succ, List.getElem?_cons_zero, List.getElem?_cons_succ] at e0 e1
        obtain ⟨g, e, -, -, t1, t2⟩ := HF.out.open (by simp)
        cases e
        have c0 := t1 0 (by simp)
        have c1 := t1 1 (by simp)
        simp only [List.getElem?_cons_zero, List.getElem?_cons_succ] at c0 c1
        have f0 := t2 0
        have f1 := t2 1
        have HF7 := Lib.hid h7.below
        clear t1 t2 h7 hx
        go_wp2_with fail
        (try simp only [Exit.inBlock, Exit.then])
        refine bodyPost_ret (v := .tuple #[.agg #[.int .i64 0, .slice none 0 0], .int .i64 2]) ?_ ?_ ?_
        · simp [results, Try.results42, go_sem, e0, e1]
        · rfl
        · exact .inr ⟨⟨x, HX.out, s1⟩, 2, by decide, rfl, HF7.out⟩
      · have g4 : decide ((12 : Int) < (x.size : Int)) = false := decide_eq_false (by omega)
        have HX := Lib.hid hx
        clear hx
        go_wp2_with fail
        refine ⟨⟨j + 1, by omega, by simp, Lib.hid (fun i y hi hy => ?_), HF⟩, by simp only [intOf]; omega⟩
        by_cases e : i = j
        · subst e
          rw [HX.out] at hy
          cases hy; omega
        · exact HK.out i y (by omega) hy
    · obtain rfl : j = n := by omega
      have hz : ∀ x ∈ l, x.size ≤ 12 := fun x hx => by
        obtain ⟨i, hi, hix⟩ := List.getElem_of_mem hx
        exact HK.out i x (by rw [HN.out] at hi; exact hi) (by rw [List.getElem?_eq_getElem hi, hix])
      have HZ := Lib.hid hz
      clear hz
      go_wp2_with fail
      refine (botLst HSort.out k l j a cap wr (HF.out.old HS.out) HN.out HNil.out HL.out HZ.out).mono ?_; rintro e w1 ⟨ad, cp, rfl, hf1⟩
      have h6 := (HF.out.call hf1).swap
      obtain ⟨g, e, -, -, t1, t2⟩ := h6.open (by simp)
      cases e
      have c0 := t1 0 (by simp)
      have c1 := t1 1 (by simp)
      simp only [List.getElem?_cons_zero, List.getElem?_cons_succ] at c0 c1
      have f0 := t2 0
      have f1 := t2 1
      obtain ⟨m, hmm⟩ : ∃ m, (skS k l).length = m := ⟨_, rfl⟩
      rw [hmm] at h6 ⊢
      have h7 := (h6.set 0 (.int .i64 (k : Int))).set 1 (.slice ad m cp)
      obtain ⟨g, e, -, -, t1, -⟩ := h7.open (by simp)
      cases e
      have e0 := t1 0 (by simp)
      have e1 := t1 1 (by simp)
      simp only [List.set_cons_zero, List.set_cons_succ, List.getElem?_cons_zero, List.getElem?_cons_succ] at e0 e1
      have HF7 := Lib.hid h7.tail
      have HM := Lib.hid hmm
      clear t1 t2 h6 h7 hmm hf1
      go_wp2_with fail
      (try simp only [Exit.inBlock, Exit.then])
      refine bodyPost_ret (v := .tuple #[.agg #[.int .i64 k, .slice ad m cp], .int .i64 0]) ?_ ?_ ?_
      · simp [results, Try.results42, go_sem, e0, e1]
      · rfl
      · exact .inl ⟨HZ.out, ad, cp, by rw [HM.out], by rw [HM.out]; exact HF7.out⟩
end Go.Proofs.Ytooghdnlaonkaaa
