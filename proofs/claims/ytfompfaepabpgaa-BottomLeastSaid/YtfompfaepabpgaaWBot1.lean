/- The walk of BottomLeast. -/
import Derived.Test.YtfompfaepabpgaaBotK
import Derived.Test.YtfompfaepabpgaaSlCoS
import Derived.Test.YtfompfaepabpgaaStrsF
namespace Go.Proofs.Ytfompfaepabpgaa
open Go.RowKit

set_option maxHeartbeats 400000 in
theorem restBig (k n : Int) (w : World) (h : 1 ≤ n) (h2 : n ≤ 4000000000000000000) :
    Calls Try.prog 59 #[.int .i64 k, .int .i64 n] w fun e w' => e = .returned (.int .i64 (k % n)) ∧ w = w' := by
  have he := emod_of_tmod k n h
  have h1 : -n < k.tmod n := by
    rcases Int.le_total 0 k with hk | hk
    · have := Int.tmod_nonneg n hk; omega
    · have := Int.lt_tmod_of_pos k (by omega : 0 < n); omega
  have h3 : k.tmod n < n := Int.tmod_lt_of_pos k (by omega)
  have hne : (n == 0) = false := by simp; omega
  by_cases hlt : k.tmod n < 0
  · rw [if_pos hlt] at he
    have HE := Lib.hid he; clear he
    go_enter Try.func59, Try.ntmps59
    go_wp2_with fail
    go_ret
    exact ⟨ret_int HE.out.symm, rfl⟩
  · rw [if_neg hlt] at he
    have HE := Lib.hid he; clear he
    go_enter Try.func59, Try.ntmps59
    go_wp2_with fail
    go_ret
    exact ⟨ret_int HE.out.symm, rfl⟩
theorem withinBig (k n : Int) (w : World) (h : 1 ≤ n) (h2 : n ≤ 4000000000000000000) :
    Calls Try.prog 24 #[.int .i64 k, .int .i64 n] w fun e w' => e = .returned (.int .i64 (k % n)) ∧ w = w' := by
  have h4 := Int.emod_nonneg k (b := n) (by omega)
  have h5 := Int.emod_lt_of_pos k (b := n) (by omega)
  go_enter Try.func24, Try.ntmps24
  go_wp2_with (go_at_call 59; refine (restBig _ _ _ h h2).mono ?_; rintro e w' ⟨rfl, rfl⟩)
  go_ret
  exact ⟨rfl, rfl⟩
/-- a name that is counted and left out: the sketch is full, and all of it stands ahead -/
theorem left_out {k : Nat} {z : List ByteArray} {s : ByteArray} (hs : s ∈ z) (hno : s ∉ skS k z) : (skS k z).length = k ∧ ∀ t ∈ skS k z, ltS t s := by
  obtain ⟨h1, h2⟩ := setS_in z
  have hs' := (h2 s).2 hs
  unfold skS at hno ⊢
  have hsp : setS z = (setS z).take k ++ (setS z).drop k := (List.take_append_drop k _).symm
  rw [hsp] at hs' h1
  have hd : s ∈ (setS z).drop k := by
    rcases List.mem_append.1 hs' with h | h
    · exact absurd h hno
    · exact h
  refine ⟨?_, fun t ht => (List.pairwise_append.1 h1).2.2 t ht s hd⟩
  have hl := List.length_pos_of_mem hd
  rw [List.length_drop] at hl
  rw [List.length_take]; omega
set_option maxRecDepth 100000 in
set_option maxHeartbeats 8000000 in
theorem bottomLeast_no (hsort : SortsNames) (k : Int) (a : Option Addr) (n cap : Nat) (j : Int) (w : World) (ho : ∀ w', Below w.heap.size w w' → Calls Try.prog 23 #[.int .i64 k, .slice a n cap] w' (SmNo w')) :
    Calls Try.prog 7 #[.int .i64 k, .slice a n cap, .int .i64 j] w (RetB true w) := by
  have HB := Lib.hid (bottomsOk hsort w)
  have HO := Lib.hid ho
  clear ho
  go_enter Try.func7, Try.ntmps7
  go_wp2_with fail
  refine HB.out.mono ?_; rintro e w1 ⟨rfl, hf1⟩
  have HF1 := Lib.hid hf1
  go_wp2_with fail
  refine (HO.out w1 HF1.out.bel).mono ?_; rintro e w2 ⟨er, ⟨he1, he2⟩, rfl, hf2⟩
  obtain ⟨P, hP⟩ : ∃ P, w2.heap.size = P := ⟨_, rfl⟩
  have h2 := (HF1.out.call hf2).new 48 #[.int .i64 0, .slice none 0 0] [.int .i64 0, .slice none 0 0] rfl 2 rfl (by omega)
  rw [hP] at h2
  have HF2 := Lib.hid h2
  obtain ⟨-, c0, c1⟩ := smCells (h2.get 0 rfl)
  clear hf1 hf2 h2
  have g1 : (er != (0 : Int)) = true := by simp; omega
  go_wp2_with fail
  go_ret
  exact ⟨rfl, HF2.out.below⟩
set_option maxRecDepth 100000 in
set_option maxHeartbeats 8000000 in
theorem bottomLeast_yes (hsort : SortsNames) (k : Nat) (l : List ByteArray) (n : Nat) (a : Option Addr) (cap : Nat) (j : Int) (w : World) (h : Sa w a (strV l)) (hn : l.length = n) (hnil : a = none → n = 0 ∧ cap = 0) (hl : n * 16 ≤ 140737488355328) (h1 : 1 ≤ k) (h2 : k ≤ 30) (hz : ∀ x ∈ l, x.size ≤ 12) (h0 : 0 < n) :
    Calls Try.prog 7 #[.int .i64 k, .slice a n cap, .int .i64 j] w (RetB true w) := by
  have HB := Lib.hid (bottomsOk hsort w)
  have HO := Lib.hid (fun w' (b : Below w.heap.size w w') => botOf hsort k l n a cap w' (h.keep b) hn hnil hl h1 h2)
  have HN := Lib.hid hn; have HZ := Lib.hid hz; have HA := Lib.hid h
  obtain ⟨i, hi⟩ : ∃ i : Nat, j % (n : Int) = i := ⟨(j % (n : Int)).toNat, by have := Int.emod_nonneg j (b := n) (by omega); omega⟩
  have hin : i < n := by have := Int.emod_lt_of_pos j (b := (n : Int)) (by omega); omega
  have HW := fun w' => Lib.hid (withinBig j n w' (by omega) (by omega))
  rw [hi] at HW
  have HOK := Lib.hid (sk_ok k l h1 h2 hz)
  have HSub : Hid (∀ x ∈ skS k l, x ∈ l) := Lib.hid fun x hx => ((setS_in l).2 x).1 (List.mem_of_mem_take hx)
  have HLeft := Lib.hid (fun s (hs : s ∈ l) => left_out (k := k) hs)
  have hl' : n ≤ 8796093022208 := by omega
  clear h hn hnil hl hz hi hsort
  go_enter Try.func7, Try.ntmps7
  go_wp2_with fail
  refine HB.out.mono ?_; rintro e w1 ⟨rfl, hf1⟩
  have HF1 := Lib.hid hf1
  clear HB hf1
  go_wp2_with fail
  refine (HO.out w1 HF1.out.bel).mono ?_; rintro e w2 hp
  clear HO
  rcases hp with ⟨-, ad, cp, rfl, hf2⟩ | ⟨⟨x, hx, hz⟩, -⟩
  · obtain ⟨R, hR⟩ : ∃ R, skS k l = R := ⟨_, rfl⟩
    rw [hR] at hf2 HOK HSub HLeft ⊢
    obtain ⟨m, hm⟩ : ∃ m, R.length = m := ⟨_, rfl⟩
    rw [hm] at hf2 HLeft ⊢
    have hm30 : m ≤ 30 := by have := smOk_len HOK.out; omega
    obtain ⟨P, hP⟩ : ∃ P, w2.heap.size = P := ⟨_, rfl⟩
    have h3 := (HF1.out.call hf2).new 48 #[.int .i64 k, .slice ad m cp] [.int .i64 k, .slice ad m cp] rfl 2 rfl (by omega)
    rw [hP] at h3
    have HF2 := Lib.hid h3
    have HM := Lib.hid hm
    have g1 : ((n : Int) == (0 : Int)) = false := by simp; omega
    clear hf2 h3 hm hR HF1
    obtain ⟨s, hs⟩ : ∃ s, l[i]? = some s := ⟨_, List.getElem?_eq_getElem (by rw [HN.out]; exact hin)⟩
    have HSL := Lib.hid (List.mem_of_getElem? hs)
    have HSI := Lib.hid hs
    clear hs
    obtain ⟨b0, off, rfl, -, x1⟩ := (HF2.out.old HA.out).strA i s HSI.out
    obtain ⟨-, c0, c1⟩ := smCells (HF2.out.get 0 rfl)
    go_wp2_with fail
    refine (HW _).out.mono ?_; rintro e w' ⟨rfl, rfl⟩
    have d1 : (0 : Int) ≤ (i : Int) := by omega
    have d2 : (i : Int) < (n : Int) := by omega
    go_wp2_with fail
    refine (slCoS R m ad cp s _ (HF2.out.get 1 rfl) HM.out (by unfold maxLen; omega)).mono ?_; rintro e w3 ⟨bb, rfl, hbb, hf3⟩
    have HF3 := Lib.hid (HF2.out.keep hf3.bel)
    have HBB := Lib.hid hbb
    obtain ⟨-, e0, e1⟩ := smCells (HF3.out.get 0 rfl)
    clear hf3 hbb c0 c1 x1 HF2 HW d1 d2
    go_wp2_with fail
    clear e0 e1
    go_loopw [46] (fun i wr => ∃ q : Nat, q ≤ m ∧ i = .int .i64 q ∧ Hid (Fr w wr [⟨48, .slice (some ⟨P, 0, none⟩) 2 2, [.int .i64 k, .slice ad m cp]⟩, ⟨9, .slice ad m cp, strV R⟩])) (fun i _ => m - (intOf i).toNat)
    case atStart => exact ⟨0, by omega, rfl, HF3⟩
    case round =>
      obtain ⟨q, hq, rfl, HF⟩ := hrel
      by_cases hlt : q < m
      · obtain ⟨t, ht⟩ : ∃ t, R[q]? = some t := ⟨_, List.getElem?_eq_getElem (by rw [HM.out]; exact hlt)⟩
        have HTR := Lib.hid (List.mem_of_getElem? ht)
        have HTI := Lib.hid ht
        clear ht
        obtain ⟨bq, oq, rfl, -, y1⟩ := (HF.out.get 1 rfl).strA q t HTI.out
        have d1 : (0 : Int) ≤ (q : Int) := by omega
        have d2 : (q : Int) < (m : Int) := by omega
        go_wp2_with fail
        refine (slCoS l n _ cap t wr (HF.out.old HA.out) HN.out (by unfold maxLen; omega)).mono ?_; rintro e w4 ⟨b2, rfl, hb2, hf4⟩
        obtain rfl : b2 = true := hb2.2 (HSub.out t HTR.out)
        have HF4 := Lib.hid (HF.out.keep hf4.bel)
        clear hf4 hb2 y1
        cases bb
        · have hlo := HLeft.out s HSL.out (fun h => by have := HBB.out.2 h; cases this)
          have hlt2 := hlo.2 t HTR.out
          have HM1 := Lib.hid (fun w => botMark s w (by have := HZ.out s HSL.out; unfold maxLen; omega))
          have HM2 := Lib.hid (fun w => botMark t w (by have := HZ.out t (HSub.out t HTR.out); unfold maxLen; omega))
          obtain ⟨ms, hms⟩ : ∃ ms, markS s = ms := ⟨_, rfl⟩
          obtain ⟨mt, hmt⟩ : ∃ mt, markS t = mt := ⟨_, rfl⟩
          rw [hms] at HM1
          rw [hmt] at HM2
          have f1 : decide (ms < mt) = false := decide_eq_false (fun h => by
            rcases hlt2 with h2 | ⟨h2, -⟩ <;> omega)
          have hcs : (ms == mt) = false ∨ ((ms == mt) = true ∧ Op.bytesLess s.toList t.toList = false) := by
            rcases hlt2 with h2 | ⟨h2, h3⟩
            · left; rw [beq_eq_false_iff_ne]; omega
            · right
              refine ⟨by rw [beq_iff_eq]; omega, ?_⟩
              cases hb : Op.bytesLess s.toList t.toList with
              | false => rfl
              | true => have := bl_tr _ _ _ h3 hb; rw [bl_irr] at this; cases this
          clear hlo hlt2 hms hmt
          rcases hcs with f2 | ⟨f2, f3⟩
          · go_wp2_with fail
            refine (HM1.out _).mono ?_; rintro e w5 ⟨rfl, hf5⟩
            have HF5 := Lib.hid (HF4.out.keep hf5.bel)
            clear hf5
            go_wp2_with fail
            refine (HM2.out _).mono ?_; rintro e w6 ⟨rfl, hf6⟩
            have HF6 := Lib.hid (HF5.out.keep hf6.bel)
            clear hf6
            go_wp2_with fail
            refine (HM1.out _).mono ?_; rintro e w7 ⟨rfl, hf7⟩
            have HF7 := Lib.hid (HF6.out.keep hf7.bel)
            clear hf7
            go_wp2_with fail
            refine (HM2.out _).mono ?_; rintro e w8 ⟨rfl, hf8⟩
            have HF8 := Lib.hid (HF7.out.keep hf8.bel)
            clear hf8
            go_wp2_with fail
            exact ⟨⟨q + 1, by omega, by simp, HF8⟩, by simp only [intOf]; omega⟩
          · go_wp2_with fail
            refine (HM1.out _).mono ?_; rintro e w5 ⟨rfl, hf5⟩
            have HF5 := Lib.hid (HF4.out.keep hf5.bel)
            clear hf5
            go_wp2_with fail
            refine (HM2.out _).mono ?_; rintro e w6 ⟨rfl, hf6⟩
            have HF6 := Lib.hid (HF5.out.keep hf6.bel)
            clear hf6
            go_wp2_with fail
            refine (HM1.out _).mono ?_; rintro e w7 ⟨rfl, hf7⟩
            have HF7 := Lib.hid (HF6.out.keep hf7.bel)
            clear hf7
            go_wp2_with fail
            refine (HM2.out _).mono ?_; rintro e w8 ⟨rfl, hf8⟩
            have HF8 := Lib.hid (HF7.out.keep hf8.bel)
            clear hf8
            go_wp2_with fail
            exact ⟨⟨q + 1, by omega, by simp, HF8⟩, by simp only [intOf]; omega⟩
        · go_wp2_with fail
          exact ⟨⟨q + 1, by omega, by simp, HF4⟩, by simp only [intOf]; omega⟩
      · obtain rfl : q = m := by omega
        have HCk := Lib.hid (botChk k R q ad cp wr (HF.out.get 1 rfl) HM.out (by unfold maxLen; omega))
        rw [chkB_ok.2 HOK.out] at HCk
        obtain ⟨-, e0, e1⟩ := smCells (HF.out.get 0 rfl)
        go_wp2_with fail
        refine HCk.out.mono ?_; rintro e w5 ⟨rfl, hf5⟩
        have HF5 := Lib.hid (HF.out.keep hf5.bel)
        obtain ⟨-, e0', e1'⟩ := smCells (HF5.out.get 0 rfl)
        cases bb
        · have hlo := (HLeft.out s HSL.out (fun h => by have := HBB.out.2 h; cases this)).1
          have g2 : ((q : Int) == (k : Int)) = true := by rw [beq_iff_eq]; omega
          go_wp2_with fail
          go_ret
          exact ⟨rfl, HF5.out.below⟩
        · go_wp2_with fail
          go_ret
          exact ⟨rfl, HF5.out.below⟩
  · exact absurd (HZ.out x hx) (by omega)
theorem skS_nil (k : Nat) : skS k [] = [] := by
  have h : setS [] = [] := List.eq_nil_iff_forall_not_mem.2 fun x hx => by
    have := ((setS_in []).2 x).1 hx
    cases this
  unfold skS
  rw [h, List.take_nil]
set_option maxRecDepth 100000 in
set_option maxHeartbeats 8000000 in
theorem bottomLeast_zero (hsort : SortsNames) (k : Nat) (a : Option Addr) (cap : Nat) (j : Int) (w : World) (hnil : a = none → 0 = 0 ∧ cap = 0) (h1 : 1 ≤ k) (h2 : k ≤ 30) :
    Calls Try.prog 7 #[.int .i64 k, .slice a 0 cap, .int .i64 j] w (RetB true w) := by
  have HB := Lib.hid (bottomsOk hsort w)
  have HO := Lib.hid (fun w' => botOf hsort k [] 0 a cap w' (Sa.nil _ _) rfl hnil (by omega) h1 h2)
  clear hsort hnil
  go_enter Try.func7, Try.ntmps7
  go_wp2_with fail
  refine HB.out.mono ?_; rintro e w1 ⟨rfl, hf1⟩
  have HF1 := Lib.hid hf1
  clear HB hf1
  go_wp2_with fail
  refine (HO.out w1).mono ?_; rintro e w2 hp
  clear HO
  rcases hp with ⟨-, ad, cp, rfl, hf2⟩ | ⟨⟨x, hx, hz⟩, -⟩
  · rw [skS_nil] at hf2 ⊢
    obtain ⟨P, hP⟩ : ∃ P, w2.heap.size = P := ⟨_, rfl⟩
    have h3 := (HF1.out.call hf2).new 48 #[.int .i64 k, .slice ad 0 cp] [.int .i64 k, .slice ad 0 cp] rfl 2 rfl (by omega)
    rw [hP] at h3
    have HF2 := Lib.hid h3
    obtain ⟨-, c0, c1⟩ := smCells (h3.get 0 rfl)
    clear hf2 h3 HF1
    rw [show ([] : List ByteArray).length = 0 from rfl]
    go_wp2_with fail
    go_ret
    exact ⟨rfl, HF2.out.below⟩
  · cases hx
end Go.Proofs.Ytfompfaepabpgaa
