/- The walk of the law ShuffleBack. -/
import Derived.Test.YtnjnndodfdghbaaShuf
import Derived.Test.YtnjnndodfdghbaaGood
namespace Go.Proofs.Ytnjnndodfdghbaa
open Go.RowKit

set_option maxRecDepth 100000 in
set_option maxHeartbeats 2000000 in
theorem lotsOf_any (l : List Int) (n : Nat) (a : Option Addr) (cap : Nat) (t : Nat) (w : World) (h : Sa w a (ints l)) (hn : l.length = n) (hc : n ≤ cap) (hm : n ≤ maxLen) (ht : t ≤ 1000) :
    Calls Try.prog 31 #[.slice a n cap, .int .i64 t] w (MadeP (lotsL l t) w) := by
  unfold maxLen at hm
  obtain ⟨m, m1, m2, m3⟩ : ∃ m : Nat, m ≤ n ∧ (m : Int) ≤ (t : Int) ∧ (m = n ∨ (m : Int) = (t : Int)) := ⟨min n t, by omega, by omega, by omega⟩
  have HMIN := Lib.hid (run_min2 #[3, 3] 3 n t m m1 m2 m3)
  have HN := Lib.hid hn; have HS := Lib.hid h
  have HM : Hid (min t l.length = m) := Lib.hid (by omega)
  have mt : m ≤ 1000 := by omega
  clear hn h m3
  have b1 : (m : Int) ≤ (cap : Int) := by omega
  go_enter Try.func31, Try.ntmps31
  have hmin := HMIN.out
  go_wp2_with fail
  clear hmin
  go_loopw [5, 15] (fun o i wr => ∃ (k : Nat) (ad : Option Addr) (cp : Nat), k ≤ m ∧ i = .int .i64 k ∧ o = .slice ad k cp ∧ Fr w wr [⟨3, .slice ad k cp, ints ((lotsL l t).take k)⟩]) (fun _ i _ => m - (intOf i).toNat)
  case atStart => exact ⟨0, none, 0, by omega, rfl, rfl, (Fr.start w).nilSlice _⟩
  case round =>
    obtain ⟨k, ad, cp, hk, rfl, rfl, hfr⟩ := hrel
    by_cases hlt : k < m
    · obtain ⟨b, off, rfl, hb, hc⟩ := (hfr.old HS.out).int k (by rw [HN.out]; omega)
      have hs := Lib.hid (lotsL_take l t k (by rw [HM.out]; exact hlt))
      obtain ⟨x, hx⟩ : ∃ x, nth l k = x := ⟨_, rfl⟩
      rw [hx] at hc
      have HX := Lib.hid hx
      have HF := Lib.hid hfr
      clear hx hfr
      have d1 : (0 : Int) ≤ (k : Int) := by omega
      have d2 : (k : Int) < (m : Int) := by omega
      have e1 := Int.emod_nonneg x (b := (k : Int) + 1) (by omega)
      have e2 := Int.emod_lt_of_pos x (b := (k : Int) + 1) (by omega)
      go_wp2_with (first
        | (go_at_call 24; refine (within_any _ _ _ (by omega) (by omega)).mono ?_; rintro e w' ⟨rfl, rfl⟩)
        | (with_reducible refine at_slot 26 ?_; go_must (refine wpList_pushInt rfl _ _ rfl ad k cp _ (x % ((k : Int) + 1)) _ rfl HF.out rfl ?_ ?_); rotate_left; intro ad' cp' w2 hf2 hlt2))
      · rw [show (lotsL l t).take k ++ [x % ((k : Int) + 1)] = (lotsL l t).take (k + 1) from by rw [← HX.out]; exact hs.out] at hf2
        exact ⟨⟨k + 1, ad', cp', by omega, by simp, rfl, hf2⟩, by simp only [intOf]; omega⟩
      · omega
    · obtain rfl : k = m := by omega
      have hl : (lotsL l t).length = k := by rw [lotsL_len, HM.out]
      rw [List.take_of_length_le (by omega)] at hfr
      go_wp2_with fail
      go_ret
      exact ⟨ad, k, cp, rfl, hl, hfr.cap, hfr⟩

set_option maxRecDepth 100000 in
theorem deals_any (w : World) : Calls Try.prog 30 #[] w fun e w' => e = .returned (.bool true) ∧ Below w.heap.size w w' := by
  have HP := Lib.hid (show LotOk [0, 0, 1] from by unfold LotOk; decide)
  have e1 : dealL [0, 0, 1] = [1, 2, 0] := by decide
  have E1 := Lib.hid e1; clear e1
  go_enter Try.func30, Try.ntmps30
  go_wp2_with fail
  have F1 := (Fr.start w).lit [0, 0, 1] #[.int .i64 0, .int .i64 0, .int .i64 1] rfl 3 rfl (by omega) 3
  refine (shDeal [0, 0, 1] 3 _ _ _ (F1.get 0 rfl) rfl HP.out (by omega)).mono ?_; rintro e w1 ⟨ad, cp, rfl, hcp, hf⟩
  rw [E1.out] at hf
  have F2 := F1.below.call hf
  clear F1 hf hcp
  go_wp2_with fail
  have F3 := F2.lit [1, 2, 0] #[.int .i64 1, .int .i64 2, .int .i64 0] rfl 3 rfl (by omega) 3
  refine (slEqual [1, 2, 0] [1, 2, 0] 3 3 _ _ _ _ _ (F3.get 1 rfl) (F3.get 0 rfl) rfl rfl (by omega) (by omega)).mono ?_; rintro e w2 ⟨rfl, hf⟩
  have F4 := F3.keep hf.bel
  rw [decide_eq_true (rfl : ([1, 2, 0] : List Int) = [1, 2, 0])]
  go_wp2_with fail
  go_ret
  exact ⟨rfl, F4.bel⟩

set_option maxRecDepth 100000 in
set_option maxHeartbeats 8000000 in
theorem shuffleBack_any (x y : List Int) (nx ny : Nat) (a b : Option Addr) (ca cb : Nat) (w : World) (h : Sa w a (ints x)) (hn : x.length = nx) (hc : nx ≤ ca) (hm : nx ≤ maxLen)
    (h' : Sa w b (ints y)) (hn' : y.length = ny) (hc' : ny ≤ cb) (hm' : ny ≤ maxLen) :
    Calls Try.prog 8 #[.slice a nx ca, .slice b ny cb] w fun e w' => e = .returned (.bool true) ∧ Below w.heap.size w w' := by
  have HN := Lib.hid hn; have HS := Lib.hid h; have HM := Lib.hid hm; have HN' := Lib.hid hn'; have HS' := Lib.hid h'; have HM' := Lib.hid hm'
  clear hn h hm hn' h' hm'
  go_enter Try.func8, Try.ntmps8
  go_wp2_with fail
  refine (deals_any _).mono ?_; rintro e w1 ⟨rfl, hb⟩
  have F1 := (Fr.start w).keep hb
  clear hb
  go_wp2_with fail
  refine (lotsOf_any x nx _ _ 10 _ (F1.old HS.out) HN.out hc HM.out (by omega)).mono ?_; rintro e w2 ⟨ad2, m, cp2, rfl, hm2, hc2, hf⟩
  have F2 := F1.call hf
  clear F1 hf
  have m10 : m ≤ 10 := by rw [← hm2, lotsL_len]; omega
  have LO := Lib.hid (lotsL_ok x 10)
  have HM2 := Lib.hid hm2
  clear hm2
  generalize lotsL x 10 = A at *
  obtain ⟨dl, dp⟩ := dealL_ok A LO.out
  rw [HM2.out] at dl
  have ld := lots_deal A LO.out A.length (Nat.le_refl _)
  rw [List.take_length, HM2.out] at ld
  have hdA : dealK A m = dealL A := by rw [dealL, HM2.out]
  rw [hdA] at ld
  have DL := Lib.hid dl; have DP := Lib.hid dp; have LD := Lib.hid ld
  clear dl dp ld hdA
  go_wp2_with fail
  refine (shDeal A m _ _ _ (F2.get 0 rfl) HM2.out LO.out m10).mono ?_; rintro e w3 ⟨ad3, cp3, rfl, hc3, hf⟩
  have F3 := F2.call hf
  clear F2 hf
  go_wp2_with fail
  refine (shLots (dealL A) m _ _ _ (F3.get 0 rfl) DL.out DP.out m10).mono ?_; rintro e w4 ⟨ad4, cp4, rfl, hc4, hf⟩
  rw [LD.out] at hf
  have F4 := F3.call hf
  clear F3 hf
  go_wp2_with fail
  refine (permOf_any y ny _ _ 10 _ (F4.old HS'.out) HN'.out hc' HM'.out (by omega)).mono ?_; rintro e w5 ⟨ad5, k, cp5, rfl, hk5, hc5, hf⟩
  have F5 := F4.call hf
  clear F4 hf
  obtain ⟨lB, pB⟩ := permL_ok y 10
  have k10 : k ≤ 10 := by rw [← hk5, lB]; omega
  have HK5 := Lib.hid hk5; have PB := Lib.hid pB
  clear lB pB hk5
  generalize permL y 10 = Q at *
  have C1 : Hid ((lotsD k Q).length = k) := Lib.hid (lotsD_len k Q)
  have C2 := Lib.hid (lotsD_ok k Q HK5.out PB.out)
  have C3 : Hid (dealL (lotsD k Q) = Q) := Lib.hid (by rw [dealL, lotsD_len]; exact deal_lots k Q HK5.out PB.out)
  go_wp2_with fail
  refine (shLots Q k _ _ _ (F5.get 0 rfl) HK5.out PB.out k10).mono ?_; rintro e w6 ⟨ad6, cp6, rfl, hc6, hf⟩
  have F6 := F5.call hf
  clear F5 hf
  go_wp2_with fail
  refine (shDeal (lotsD k Q) k _ _ _ (F6.get 0 rfl) C1.out C2.out k10).mono ?_; rintro e w7 ⟨ad7, cp7, rfl, hc7, hf⟩
  rw [C3.out] at hf
  have F7 := F6.call hf
  clear F6 hf
  go_wp2_with fail
  refine (good4b _ w7.heap.size _ rfl).mono ?_; rintro e w' ⟨rfl, rfl⟩
  have F8 := F7.alloc (.cells #[.int .i64 0, .int .i64 0, .int .i64 0, .int .i64 0] 23)
  clear F7
  go_wp2_with fail
  refine (slEqual A A m m _ _ _ _ _ (F8.get 5 rfl) (F8.get 3 rfl) HM2.out HM2.out (by omega) (by omega)).mono ?_; rintro e w8 ⟨rfl, hf⟩
  have F9 := F8.keep hf.bel
  rw [decide_eq_true (rfl : A = A)]
  clear F8 hf
  go_wp2_with fail
  refine (slEqual Q Q k k _ _ _ _ _ (F9.get 2 rfl) (F9.get 0 rfl) HK5.out HK5.out (by omega) (by omega)).mono ?_; rintro e w9 ⟨rfl, hf⟩
  have F10 := F9.keep hf.bel
  rw [decide_eq_true (rfl : Q = Q)]
  go_wp2_with fail
  go_ret
  exact ⟨rfl, F10.bel⟩
end Go.Proofs.Ytnjnndodfdghbaa
