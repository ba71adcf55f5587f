/- bottom.Alike of samples that may be. -/
import Derived.Test.YtfompfaepabpgaaBotJ
import Derived.Test.YtfompfaepabpgaaSlCoS
import Derived.Deep.QuietTactic
namespace Go.Proofs.Ytfompfaepabpgaa
open Go.RowKit

/-- is it among them? -/
def memB (x : ByteArray) (l : List ByteArray) : Bool := l.any fun y => decide (x = y)
theorem memB_iff {x : ByteArray} {l : List ByteArray} : memB x l = true ↔ x ∈ l := by
  unfold memB
  rw [List.any_eq_true]
  constructor
  · rintro ⟨y, hy, h⟩
    rw [of_decide_eq_true h]; exact hy
  · intro h
    exact ⟨x, h, decide_eq_true rfl⟩
/-- how many of them both have -/
def cntB (l l' : List ByteArray) (r : List ByteArray) : Nat := (r.filter fun x => memB x l && memB x l').length
theorem cntB_le (l l' r : List ByteArray) : cntB l l' r ≤ r.length := List.length_filter_le _ _
theorem cntB_snoc (l l' r : List ByteArray) (j : Nat) (x : ByteArray) (h : r[j]? = some x) : cntB l l' (r.take (j + 1)) = cntB l l' (r.take j) + if (memB x l && memB x l') = true then 1 else 0 := by
  unfold cntB
  rw [List.take_add_one, h, List.filter_append, List.length_append]
  congr 1
  cases hb : (memB x l && memB x l') <;> simp [hb]
set_option maxRecDepth 100000 in
set_option maxHeartbeats 8000000 in
theorem botAlike (hsort : SortsNames) (k : Nat) (l l' : List ByteArray) (n m : Nat) (a b : Option Addr) (ca cb : Nat) (w : World) (h : Sa w a (strV l)) (h' : Sa w b (strV l')) (hn : l.length = n) (hm : l'.length = m)
    (na : a = none → n = 0 ∧ ca = 0) (nb : b = none → m = 0 ∧ cb = 0) (ho : SmOk k l) (ho' : SmOk k l') :
    Calls Try.prog 30 #[.agg #[.int .i64 k, .slice a n ca], .agg #[.int .i64 k, .slice b m cb]] w
      fun e w' => e = .returned (.tuple #[.int .i64 (cntB l l' (skS k (l ++ l')) : Nat), .int .i64 ((skS k (l ++ l')).length : Nat), .int .i64 0]) ∧ Fr w w' [] := by
  obtain ⟨N, hN⟩ : ∃ N, w.heap.size = N := ⟨_, rfl⟩
  have h1 := (Fr.start w).new 48 #[.int .i64 k, .slice a n ca] [.int .i64 k, .slice a n ca] rfl 2 rfl (by omega)
  have h2 := h1.new 48 #[.int .i64 k, .slice b m cb] [.int .i64 k, .slice b m cb] rfl 2 rfl (by omega)
  have e1 : (w.alloc (.cells #[.int .i64 k, .slice a n ca] 48)).heap.size = N + 1 := by
    show (w.heap.push _).size = _
    rw [Array.size_push, hN]
  rw [hN, e1] at h2
  have HF0 := Lib.hid h2
  have HA := Lib.hid h; have HB := Lib.hid h'; have HN := Lib.hid hn; have HM := Lib.hid hm; have HO := Lib.hid ho; have HO' := Lib.hid ho'
  have hn30 : n ≤ 30 := by have := smOk_len ho; omega
  have hm30 : m ≤ 30 := by have := smOk_len ho'; omega
  have hq30 : (skS k (l ++ l')).length ≤ 30 := by
    have := ho.m2
    unfold skS; rw [List.length_take]; omega
  have hj := botJoin hsort k l l' n m a b ca cb _ (h2.old h) (h2.old h') hn hm na nb ho ho'
  obtain ⟨R, hR⟩ : ∃ R, skS k (l ++ l') = R := ⟨_, rfl⟩
  rw [hR] at hj hq30 ⊢
  have HJ := Lib.hid hj
  clear hj hR h1 h2 e1 h h' hn hm hsort na nb ho ho'
  go_enter Try.func30, Try.ntmps30
  go_wp2_with fail
  refine HJ.out.mono ?_; rintro e w1 ⟨ad, cp, rfl, hf1⟩
  obtain ⟨P, hP⟩ : ∃ P, w1.heap.size = P := ⟨_, rfl⟩
  obtain ⟨q, hq⟩ : ∃ q, R.length = q := ⟨_, rfl⟩
  rw [hq] at hf1 hq30 ⊢
  have hf2 := (HF0.out.call hf1).new 48 #[.int .i64 k, .slice ad q cp] [.int .i64 k, .slice ad q cp] rfl 2 rfl (by omega)
  rw [hP] at hf2
  have HF2 := Lib.hid hf2
  have HQ := Lib.hid hq
  obtain ⟨-, c0, c1⟩ := smCells (hf2.get 0 rfl)
  clear hf1 hf2 hq
  go_wp2_with fail
  clear c0 c1 HJ HF0
  go_loopw [9, 24] (fun c i wr => ∃ j : Nat, j ≤ q ∧ i = .int .i64 j ∧ c = .int .i64 (cntB l l' (R.take j) : Nat) ∧ Hid (Fr w wr [⟨48, .slice (some ⟨P, 0, none⟩) 2 2, [.int .i64 k, .slice ad q cp]⟩, ⟨9, .slice ad q cp, strV R⟩, ⟨48, .slice (some ⟨N + 1, 0, none⟩) 2 2, [.int .i64 k, .slice b m cb]⟩, ⟨48, .slice (some ⟨N, 0, none⟩) 2 2, [.int .i64 k, .slice a n ca]⟩])) (fun _ i _ => q - (intOf i).toNat)
  case atStart => exact ⟨0, by omega, rfl, rfl, HF2⟩
  case round =>
    obtain ⟨j, hj, rfl, rfl, HF⟩ := hrel
    by_cases hlt : j < q
    · obtain ⟨x, hx⟩ : ∃ x, R[j]? = some x := ⟨_, List.getElem?_eq_getElem (by rw [HQ.out]; exact hlt)⟩
      obtain ⟨bb, off, rfl, -, x1⟩ := (HF.out.get 1 rfl).strA j x hx
      have hsn := cntB_snoc l l' R j x hx
      have hcl := cntB_le l l' (R.take j)
      rw [List.length_take] at hcl
      obtain ⟨-, a0, a1⟩ := smCells (HF.out.get 3 rfl)
      have HC1 := Lib.hid (slCoS l n a ca x wr (HF.out.old HA.out) HN.out (by unfold maxLen; omega))
      have d1 : (0 : Int) ≤ (j : Int) := by omega
      have d2 : (j : Int) < (q : Int) := by omega
      obtain ⟨c, hc⟩ : ∃ c, cntB l l' (R.take j) = c := ⟨_, rfl⟩
      rw [hc] at hsn hcl ⊢
      have HSn := Lib.hid hsn
      clear hsn hc hx
      go_wp2_with fail
      refine HC1.out.mono ?_; rintro e w2 ⟨b1, rfl, hb1, hf2⟩
      have HF3 := Lib.hid (HF.out.keep hf2.bel)
      obtain ⟨-, b0', b1'⟩ := smCells (HF3.out.get 2 rfl)
      have HC2 := Lib.hid (slCoS l' m b cb x w2 (HF3.out.old HB.out) HM.out (by unfold maxLen; omega))
      have HB1 := Lib.hid hb1
      clear HC1 hf2 hb1
      cases b1
      · go_wp2_with fail
        refine ⟨⟨j + 1, by omega, by simp, ?_, HF3⟩, by simp only [intOf]; omega⟩
        rw [HSn.out, if_neg (fun h => by have := HB1.out.2 (memB_iff.1 (Bool.and_eq_true_iff.1 h).1); cases this)]; rfl
      · go_wp2_with fail
        refine HC2.out.mono ?_; rintro e w3 ⟨b2, rfl, hb2, hf3⟩
        have HF4 := Lib.hid (HF3.out.keep hf3.bel)
        have HB2 := Lib.hid hb2
        clear hf3 hb2
        cases b2
        · go_wp2_with fail
          refine ⟨⟨j + 1, by omega, by simp, ?_, HF4⟩, by simp only [intOf]; omega⟩
          rw [HSn.out, if_neg (fun h => by have := HB2.out.2 (memB_iff.1 (Bool.and_eq_true_iff.1 h).2); cases this)]; rfl
        · go_wp2_with fail
          refine ⟨⟨j + 1, by omega, by simp, ?_, HF4⟩, by simp only [intOf]; omega⟩
          rw [HSn.out, if_pos (Bool.and_eq_true_iff.2 ⟨memB_iff.2 (HB1.out.1 (by trivial)), memB_iff.2 (HB2.out.1 (by trivial))⟩)]; simp
    · obtain rfl : j = q := by omega
      obtain ⟨-, a0, a1⟩ := smCells (HF.out.get 0 rfl)
      have hR : R.take j = R := List.take_of_length_le (by rw [HQ.out]; omega)
      rw [hR]
      go_wp2_with fail
      go_quiet (fail)
      go_wp2_with fail
      (try simp only [Exit.inBlock, Exit.then])
      refine bodyPost_ret (v := .tuple #[.int .i64 (cntB l l' R : Nat), .int .i64 (j : Nat), .int .i64 0]) ?_ ?_ ?_
      · simp [results, Try.results30, go_sem]
      · rfl
      · exact ⟨by rw [HQ.out], (HF.out.drewN _).below⟩
end Go.Proofs.Ytfompfaepabpgaa
