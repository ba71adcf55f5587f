/- The walk of the law RankCode. -/
import Derived.Test.YtnjnndodfdghbaaRank
import Derived.Test.YtnjnndodfdghbaaSlEq2
import Derived.Test.YtnjnndodfdghbaaGood
namespace Go.Proofs.Ytnjnndodfdghbaa
open Go.RowKit

theorem isumR_take (c : List Int) (k : Nat) (h : k < c.length) : isumR (c.take (k + 1)) = isumR (c.take k) + nth c k := by rw [take_nth c k h, isumR_snoc]

set_option maxRecDepth 100000 in
set_option maxHeartbeats 8000000 in
theorem rankCode_any (x y : List Int) (nx ny : Nat) (a b : Option Addr) (ca cb : Nat) (w : World) (h : Sa w a (ints x)) (hn : x.length = nx) (hc : nx ≤ ca) (hm : nx ≤ maxLen)
    (h' : Sa w b (ints y)) (hn' : y.length = ny) (hc' : ny ≤ cb) (hm' : ny ≤ maxLen) :
    Calls Try.prog 3 #[.slice a nx ca, .slice b ny cb] w fun e w' => e = .returned (.bool true) ∧ Below w.heap.size w w' := by
  have HN := Lib.hid hn; have HS := Lib.hid h; have HM := Lib.hid hm; have HN' := Lib.hid hn'; have HS' := Lib.hid h'; have HM' := Lib.hid hm'
  have HP := Lib.hid (show IsP [2, 0, 1] from isP_lit _ (by decide) (by decide))
  have e1 : codeL [2, 0, 1] = [2, 0, 0] := by decide
  have E1 := Lib.hid e1
  unfold maxLen at hm hm'
  obtain ⟨m, m1, m2, m3, m4⟩ : ∃ m : Nat, m ≤ nx ∧ m ≤ ny ∧ (m : Int) ≤ 10 ∧ (m = nx ∨ m = ny ∨ (m : Int) = 10) := ⟨min (min nx ny) 10, by omega, by omega, by omega, by omega⟩
  have HMIN := Lib.hid (run_min3 #[3, 3, 3] 3 nx ny 10 m m1 m2 m3 m4)
  clear hn h hn' h' e1 m4 hm hm'
  go_enter Try.func3, Try.ntmps3
  go_wp2_with fail
  have F1 := (Fr.start w).lit [2, 0, 1] #[.int .i64 2, .int .i64 0, .int .i64 1] rfl 3 rfl (by omega) 3
  refine (rankCode [2, 0, 1] 3 _ _ _ (F1.get 0 rfl) rfl HP.out (by omega) (by omega)).mono ?_; rintro e w1 ⟨ad, cp, rfl, hcp, hf⟩
  rw [E1.out] at hf
  have F2 := F1.below.call hf
  clear F1 hf hcp
  go_wp2_with fail
  have F3 := F2.lit [2, 0, 0] #[.int .i64 2, .int .i64 0, .int .i64 0] rfl 3 rfl (by omega) 3
  refine (slEqual [2, 0, 0] [2, 0, 0] 3 3 _ _ _ _ _ (F3.get 1 rfl) (F3.get 0 rfl) rfl rfl (by omega) (by omega)).mono ?_; rintro e w2 ⟨rfl, hf⟩
  have F4 := F3.below.keep hf.bel
  rw [decide_eq_true (rfl : ([2, 0, 0] : List Int) = [2, 0, 0])]
  clear F2 F3 hf
  have hmin := HMIN.out
  go_wp2_with fail
  clear hmin
  refine (permOf_any x nx _ _ m _ (F4.old HS.out) HN.out hc HM.out (by omega)).mono ?_; rintro e w3 ⟨ad3, n3, cp3, rfl, hn3, hc3, hf⟩
  have F5 := F4.call hf
  clear F4 hf
  go_wp2_with fail
  refine (permOf_any y ny _ _ m _ (F5.old HS'.out) HN'.out hc' HM'.out (by omega)).mono ?_; rintro e w4 ⟨ad4, n4, cp4, rfl, hn4, hc4, hf⟩
  have F6 := F5.call hf
  clear F5 hf
  obtain ⟨lA, pA⟩ := permL_ok x m
  obtain ⟨lB, pB⟩ := permL_ok y m
  rw [HN.out, Nat.min_eq_left m1] at lA
  rw [HN'.out, Nat.min_eq_left m2] at lB
  obtain rfl : n3 = m := by rw [← hn3, lA]
  obtain rfl : n4 = n3 := by rw [← hn4, lB]
  have PA := Lib.hid pA; have PB := Lib.hid pB; have LA := Lib.hid lA; have LB := Lib.hid lB
  clear pA pB lA lB hn3 hn4
  generalize permL x n4 = A at *
  generalize permL y n4 = B at *
  go_wp2_with fail
  refine (rankCode A n4 _ _ _ (F6.get 1 rfl) LA.out PA.out (by omega) hc3).mono ?_; rintro e w5 ⟨ad5, cp5, rfl, hc5, hf⟩
  have F7 := F6.call hf
  clear F6 hf
  go_wp2_with fail
  refine (rankCode B n4 _ _ _ (F7.get 1 rfl) LB.out PB.out (by omega) hc4).mono ?_; rintro e w6 ⟨ad6, cp6, rfl, hc6, hf⟩
  have F8 := F7.call hf
  clear F7 hf
  go_wp2_with fail
  refine (crossed A n4 _ _ _ (F8.get 3 rfl) LA.out PA.out (by omega) hc3).mono ?_; rintro e w7 ⟨rfl, hb⟩
  have F9 := F8.keep hb
  clear F8 hb
  have hcr := crossK_code A
  rw [LA.out] at hcr
  have hk100 : crossK A n4 ≤ 100 := Nat.le_trans (crossK_le A n4) (Nat.mul_le_mul (show n4 ≤ 10 by omega) (show n4 ≤ 10 by omega))
  obtain ⟨K, hK⟩ : ∃ K, crossK A n4 = K := ⟨_, rfl⟩
  rw [hK] at hcr hk100 ⊢
  have HCR := Lib.hid hcr
  have CL : Hid ((codeL A).length = n4) := Lib.hid (by rw [codeL_len, LA.out])
  have CB := Lib.hid (codeL_bd A)
  clear hK hcr
  go_wp2_with fail
  refine (good3b _ w7.heap.size _ rfl).mono ?_; rintro e w' ⟨rfl, rfl⟩
  have F10 := F9.alloc (.cells #[.int .i64 0, .int .i64 0, .int .i64 0] 23)
  clear F9
  have q0 : ((n4 : Int) != (n4 : Int)) = false := by simp
  go_wp2_with fail
  clear q0
  go_loop [14, 71] (fun k i => ∃ j : Nat, j ≤ n4 ∧ i = .int .i64 j ∧ ∃ z : Int, k = .int .i64 z ∧ -1000 ≤ z - j * (-10) ∧ -(10 * (j : Int)) ≤ z ∧ z ≤ 100 ∧ Hid (z = (K : Int) - isumR ((codeL A).take j))) (fun _ i => n4 - (intOf i).toNat)
  case atStart => exact ⟨0, by omega, rfl, K, rfl, by omega, by omega, by omega, Lib.hid (by rw [List.take_zero]; simp [isumR])⟩
  case round =>
    obtain ⟨j, hj, rfl, z, rfl, z0, z1, z2, HZ⟩ := hrel
    by_cases hlt : j < n4
    · obtain ⟨b', off, rfl, hb, hcell⟩ := (F10.get 1 rfl).int j (by rw [CL.out]; exact hlt)
      have hcb := CB.out j (by rw [LA.out]; exact hlt)
      rw [LA.out] at hcb
      have hst := isumR_take (codeL A) j (by rw [CL.out]; exact hlt)
      obtain ⟨v, hv⟩ : ∃ v, nth (codeL A) j = v := ⟨_, rfl⟩
      rw [hv] at hcell hcb hst
      obtain ⟨c1, c2⟩ := hcb
      have HZ2 : Hid (z - v = (K : Int) - isumR ((codeL A).take (j + 1))) := Lib.hid (by rw [hst, HZ.out]; omega)
      clear hv hst HZ
      have d1 : (0 : Int) ≤ (j : Int) := by omega
      have d2 : (j : Int) < (n4 : Int) := by omega
      have d3 : decide (v < 0) = false := decide_eq_false (by omega)
      have d4 : decide ((n4 : Int) - (j : Int) ≤ v) = false := decide_eq_false (by omega)
      go_wp2_with fail
      exact ⟨⟨j + 1, by omega, by simp, z - v, rfl, by omega, by omega, by omega, HZ2⟩, by simp only [intOf]; omega⟩
    · obtain rfl : j = n4 := by omega
      have hz := HZ.out
      rw [List.take_of_length_le (by rw [CL.out]; omega), HCR.out] at hz
      have hz0 : z = 0 := by omega
      subst hz0
      clear hz HZ
      go_wp2_with fail
      refine (slEqual A B j j _ _ _ _ _ (F10.get 3 rfl) (F10.get 2 rfl) LA.out LB.out (by omega) (by omega)).mono ?_; rintro e w8 ⟨rfl, hf⟩
      have F11 := F10.keep hf.bel
      clear F10 hf
      have hab : (decide (A = B) == decide (codeL A = codeL B)) = true := by
        rw [beq_iff_eq, decide_eq_decide]
        exact ⟨fun h => by rw [h], fun h => code_inj PA.out PB.out (by rw [LA.out, LB.out]) h⟩
      obtain ⟨d1, hd1⟩ : ∃ d, decide (A = B) = d := ⟨_, rfl⟩
      obtain ⟨d2, hd2⟩ : ∃ d, decide (codeL A = codeL B) = d := ⟨_, rfl⟩
      rw [hd1, hd2] at hab
      have HD2 := Lib.hid hd2
      rw [hd1]
      clear hd1 hd2
      go_wp2_with fail
      refine (slEqual (codeL A) (codeL B) j j _ _ _ _ _ (F11.get 1 rfl) (F11.get 0 rfl) CL.out (by rw [codeL_len, LB.out]) (by omega) (by omega)).mono ?_; rintro e w9 ⟨rfl, hf⟩
      have F12 := F11.keep hf.bel
      rw [HD2.out]
      go_wp2_with fail
      go_ret
      exact ⟨by simp, F12.bel⟩
end Go.Proofs.Ytnjnndodfdghbaa
