/- The walk of the law LotteryEven. -/
import Derived.Test.YtnjabochagahjaaLot3
namespace Go.Proofs.Ytnjabochagahjaa
open Go.RowKit

set_option maxRecDepth 100000 in
set_option maxHeartbeats 4000000 in
theorem lotteryEven_any (l : List Int) (n : Nat) (a : Option Addr) (cap : Nat) (w : World) (h : Sa w a (ints l)) (hn : l.length = n) (hc : n ≤ cap) (hm : n ≤ maxLen) :
    Calls Try.prog 6 #[.slice a n cap] w fun e w' => e = .returned (.bool true) ∧ Below w.heap.size w w' := by
  have HN := Lib.hid hn; have HS := Lib.hid h; have HM := Lib.hid hm
  clear hn h hm
  go_enter Try.func6, Try.ntmps6
  go_wp2_with fail
  refine (lotteries_any _).mono ?_; rintro e w1 ⟨rfl, hb⟩
  have F1 := (Fr.start w).keep hb
  clear hb
  go_wp2_with fail
  refine (tickets_any l n _ _ _ (F1.old HS.out) HN.out hc HM.out).mono ?_; rintro e w2 ⟨ad2, m, cp2, rfl, hm, hc2, hf⟩
  have F2 := F1.call hf
  have HML := Lib.hid hm
  have ok := tkL_ok l
  have t20 : ∀ j, j < (tkL l).length → nth (tkL l) j ≤ 20 := fun j hj => (tkL_20 l j hj).2
  have sb := isum_160 (tkL l) ok t20
  have OK := Lib.hid ok
  clear F1 hf hm ok t20
  generalize tkL l = tk at *
  have m8 : m ≤ 8 := by have := OK.out.1; rw [HML.out] at this; exact this
  go_wp2_with fail
  refine (lotAll tk m _ _ _ (F2.get 0 rfl) HML.out OK.out).mono ?_; rintro e w' ⟨rfl, rfl⟩
  obtain ⟨S, hS⟩ : ∃ S : Nat, isum tk = S := ⟨(isum tk).toNat, by omega⟩
  rw [hS] at sb ⊢
  have HSS := Lib.hid hS
  obtain ⟨sb1, sb2⟩ := sb
  clear hS
  rcases Nat.eq_zero_or_pos S with h0 | h0
  · subst h0
    go_wp2_with fail
    refine (lotWinner0 tk m _ _ 0 _ (F2.get 0 rfl) HML.out OK.out HSS.out).mono ?_; rintro e w' ⟨rfl, rfl⟩
    go_wp2_with fail
    go_ret
    exact ⟨rfl, F2.bel⟩
  · have q0 : ((S : Int) == 0) = false := by rw [beq_eq_false_iff_ne]; omega
    go_wp2_with fail
    clear q0
    go_loopw [8, 9, 36] (fun o la i wr => ∃ (k : Nat) (ad : Option Addr) (cp : Nat) (lv : Int), k ≤ S ∧ i = .int .i64 k ∧ o = .slice ad k cp ∧ la = .int .i64 lv ∧ Hid (∀ y : Int, (k : Int) ≤ y → lv ≤ winL tk y) ∧ Fr w wr [⟨3, .slice ad k cp, ints (rng k)⟩, ⟨3, .slice ad2 m cp2, ints tk⟩]) (fun _ _ i _ => S - (intOf i).toNat)
    case atStart => exact ⟨0, none, 0, -1, by omega, rfl, rfl, rfl, Lib.hid (fun y _ => by omega), F2.nilSlice _⟩
    case round =>
      obtain ⟨k, ad, cp, lv, hk, rfl, rfl, rfl, HLV, hfr⟩ := hrel
      clear F2
      by_cases hlt : k < S
      · have hsn := HLV.out k (Int.le_refl _)
        have hmo : ∀ y : Int, ((k + 1 : Nat) : Int) ≤ y → ((winL tk k : Nat) : Int) ≤ winL tk y := fun y hy => by
          have := winL_mono tk k y (by omega); omega
        have HMO := Lib.hid hmo
        obtain ⟨W, hW⟩ : ∃ W, winL tk k = W := ⟨_, rfl⟩
        rw [hW] at hsn
        have HW := Lib.hid hW
        have HF := Lib.hid hfr
        have P2 := Lib.hid (show (k : Int) < isum tk from by rw [HSS.out]; omega)
        clear hW hmo HLV hfr
        have d0 : decide ((W : Int) < lv) = false := decide_eq_false (by omega)
        go_wp2_with fail
        refine (lotWinner tk m _ _ k _ (HF.out.get 1 rfl) HML.out OK.out (by omega) P2.out).mono ?_; rintro e w' ⟨rfl, rfl⟩
        rw [HW.out]
        go_wp2_with (with_reducible refine at_slot 56 ?_; go_must (refine wpList_pushInt rfl _ _ rfl ad k cp _ (k : Int) _ rfl HF.out rfl ?_ ?_); rotate_left; intro ad' cp' w3 hf2 hlt2)
        · rw [← rng_succ] at hf2
          exact ⟨⟨k + 1, ad', cp', W, by omega, by simp, rfl, rfl, Lib.hid (by have := HMO.out; rw [HW.out] at this; exact this), hf2⟩, by simp only [intOf]; omega⟩
        · omega
      · obtain rfl : k = S := by omega
        have hmin := run_min2 #[3, 3] 3 k 200 k (by omega) (by omega) (.inl rfl)
        have hcap := hfr.cap
        have b1 : (k : Int) ≤ (cp : Int) := by omega
        go_wp2_with fail
        clear hmin
        have hlots : ∀ j, j < k → 0 ≤ nth (rng k) j ∧ nth (rng k) j < isum tk := fun j hj => by rw [rng_nth _ _ hj, HSS.out]; omega
        refine (lotRun tk (rng k) m k _ _ _ _ _ (hfr.get 1 rfl) (hfr.get 0 rfl) HML.out (rng_len k) OK.out hlots (by omega)).mono ?_; rintro e w3 ⟨ad5, cp5, rfl, hc5, hf⟩
        have F3 := hfr.call hf
        have e1 : runL tk (rng k) = tk := by
          have := runL_rng tk OK.out
          rwa [HSS.out, Int.toNat_natCast] at this
        rw [e1] at F3
        clear hf hfr e1 hlots
        have q2 : decide ((200 : Int) < (k : Int)) = false := decide_eq_false (by omega)
        go_wp2_with fail
        refine (slEqual tk tk m m _ _ _ _ _ (F3.get 0 rfl) (F3.get 2 rfl) HML.out HML.out (by omega) (by omega)).mono ?_; rintro e w7 ⟨rfl, hf⟩
        have F9 := F3.keep hf.bel
        rw [decide_eq_true (rfl : tk = tk)]
        go_wp2_with fail
        go_ret
        exact ⟨rfl, F9.bel⟩
end Go.Proofs.Ytnjabochagahjaa
