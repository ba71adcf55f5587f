/- The walks of the laws RankTurned and RankBack. -/
import Derived.Test.YtnjnndodfdghbaaAt
namespace Go.Proofs.Ytnjnndodfdghbaa
open Go.RowKit

set_option maxRecDepth 100000 in
set_option maxHeartbeats 1000000 in
theorem ranks_any (w : World) : Calls Try.prog 20 #[] w fun e w' => e = .returned (.bool true) ∧ Below w.heap.size w w' := by
  have HP := Lib.hid (show IsP [1, 2, 0] from isP_lit _ (by decide) (by decide))
  have e1 : atS 3 (upTo 3) 3 = [1, 2, 0] := by decide
  have e2 : ofC (codeL [1, 2, 0]) = 3 := by decide
  have E1 := Lib.hid e1; have E2 := Lib.hid e2; clear e1 e2
  go_enter Try.func20, Try.ntmps20
  go_wp2_with fail
  refine (rankAt 3 3 _ (by omega) (by decide)).mono ?_; rintro e w1 ⟨ad, cp, rfl, hcp, hf⟩
  rw [E1.out] at hf
  have F2 := (Fr.start w).call hf
  clear hf hcp
  go_wp2_with fail
  have F3 := F2.lit [1, 2, 0] #[.int .i64 1, .int .i64 2, .int .i64 0] rfl 3 rfl (by omega) 3
  refine (rankOf [1, 2, 0] 3 _ _ _ (F3.get 0 rfl) rfl HP.out (by omega) (by omega)).mono ?_; rintro e w2 ⟨rfl, hb⟩
  rw [E2.out]
  have F4 := F3.keep hb
  clear F2 F3 hb
  go_wp2_with fail
  refine (good2b _ w2.heap.size _ rfl).mono ?_; rintro e w' ⟨rfl, rfl⟩
  have F5 := F4.alloc (.cells #[.int .i64 0, .int .i64 0] 23)
  clear F4
  go_wp2_with fail
  have F6 := F5.lit' [1, 2, 0] #[.int .i64 1, .int .i64 2, .int .i64 0] rfl 3 rfl (by omega) 3 (w2.heap.size + 1) (by simp)
  refine (slEqual [1, 2, 0] [1, 2, 0] 3 3 _ _ _ _ _ (F6.get 2 rfl) (F6.get 0 rfl) rfl rfl (by omega) (by omega)).mono ?_; rintro e w3 ⟨rfl, hf⟩
  have F7 := F6.keep hf.bel
  rw [decide_eq_true (rfl : ([1, 2, 0] : List Int) = [1, 2, 0])]
  go_wp2_with fail
  go_ret
  exact ⟨rfl, F7.bel⟩

theorem turn_isP {p : List Int} (h : IsP p) (n : Nat) (hn : p.length = n) : IsP (p.map (fun v => ((n : Int) - 1) - v)) := by
  refine ⟨fun i hi => ?_, fun i j hi hj e => ?_⟩
  · rw [List.length_map] at hi ⊢
    rw [nth_map _ _ i hi]
    have := h.bd i hi; omega
  · rw [List.length_map] at hi hj
    rw [nth_map _ _ i hi, nth_map _ _ j hj] at e
    exact h.inj i j hi hj (by omega)

set_option maxRecDepth 100000 in
set_option maxHeartbeats 4000000 in
theorem rankTurned_any (x : List Int) (nx : Nat) (a : Option Addr) (ca : Nat) (w : World) (h : Sa w a (ints x)) (hn : x.length = nx) (hc : nx ≤ ca) (hm : nx ≤ maxLen) :
    Calls Try.prog 5 #[.slice a nx ca] w fun e w' => e = .returned (.bool true) ∧ Below w.heap.size w w' := by
  have HN := Lib.hid hn; have HS := Lib.hid h; have HM := Lib.hid hm
  clear hn h hm
  go_enter Try.func5, Try.ntmps5
  go_wp2_with fail
  refine (ranks_any _).mono ?_; rintro e w1 ⟨rfl, hb⟩
  have F1 := (Fr.start w).keep hb
  clear hb
  go_wp2_with fail
  refine (permOf_any x nx _ _ 10 _ (F1.old HS.out) HN.out hc HM.out (by omega)).mono ?_; rintro e w2 ⟨ad2, n, cp2, rfl, hn2, hc2, hf⟩
  have F2 := F1.call hf
  clear F1 hf
  obtain ⟨lA, pA⟩ := permL_ok x 10
  have n10 : n ≤ 10 := by rw [← hn2, lA]; omega
  have LA := Lib.hid hn2; have PA := Lib.hid pA
  clear lA pA hn2
  generalize permL x 10 = A at *
  go_wp2_with fail
  go_loopw [4, 19] (fun o i wr => ∃ (k : Nat) (ad : Option Addr) (cp : Nat), k ≤ n ∧ i = .int .i64 k ∧ o = .slice ad k cp ∧ Fr w wr [⟨3, .slice ad k cp, ints ((A.take k).map (fun v => ((n : Int) - 1) - v))⟩, ⟨3, .slice ad2 n cp2, ints A⟩]) (fun _ i _ => n - (intOf i).toNat)
  case atStart => exact ⟨0, none, 0, by omega, rfl, rfl, (F2.sub (by simp)).nilSlice _⟩
  case round =>
    obtain ⟨k, ad, cp, hk, rfl, rfl, hfr⟩ := hrel
    clear F2
    by_cases hlt : k < n
    · obtain ⟨b, off, rfl, hb, hcell⟩ := (hfr.get 1 rfl).int k (by rw [LA.out]; exact hlt)
      have hbd := PA.out.bd k (by rw [LA.out]; exact hlt)
      rw [LA.out] at hbd
      have hs := Lib.hid (take_nth A k (by rw [LA.out]; exact hlt))
      obtain ⟨v, hv⟩ : ∃ v, nth A k = v := ⟨_, rfl⟩
      rw [hv] at hcell hbd
      obtain ⟨v1, v2⟩ := hbd
      have HV := Lib.hid hv
      have HF := Lib.hid hfr
      clear hv hfr
      have d1 : (0 : Int) ≤ (k : Int) := by omega
      have d2 : (k : Int) < (n : Int) := by omega
      go_wp2_with (with_reducible refine at_slot 30 ?_; go_must (refine wpList_pushInt rfl _ _ rfl ad k cp _ (((n : Int) - 1) - v) _ rfl HF.out rfl ?_ ?_); rotate_left; intro ad' cp' w3 hf2 hlt2)
      · rw [show (A.take k).map (fun v => ((n : Int) - 1) - v) ++ [((n : Int) - 1) - v] = (A.take (k + 1)).map (fun v => ((n : Int) - 1) - v) from by rw [hs.out, HV.out, List.map_append]; rfl] at hf2
        exact ⟨⟨k + 1, ad', cp', by omega, by simp, rfl, hf2⟩, by simp only [intOf]; omega⟩
      · omega
    · obtain rfl : k = n := by omega
      rw [List.take_of_length_le (by rw [LA.out]; omega)] at hfr
      have ct := code_turn ((k : Int) - 1) A PA.out.inj
      rw [LA.out] at ct
      have b1 := ofC_bd (codeL A) (codeL_ok A)
      rw [codeL_len, LA.out] at b1
      have f10 := facN_10 k n10
      have PB := Lib.hid (turn_isP PA.out k LA.out)
      have LB : Hid ((A.map (fun v => ((k : Int) - 1) - v)).length = k) := Lib.hid (by rw [List.length_map, LA.out])
      obtain ⟨I, hI⟩ : ∃ I, ofC (codeL A) = I := ⟨_, rfl⟩
      obtain ⟨J, hJ⟩ : ∃ J, ofC (codeL (A.map (fun v => ((k : Int) - 1) - v))) = J := ⟨_, rfl⟩
      rw [hI] at ct b1
      rw [hJ] at ct
      have HI := Lib.hid hI; have HJ := Lib.hid hJ; have CT := Lib.hid ct
      obtain ⟨N, hN⟩ : ∃ N, facN k = N := ⟨_, rfl⟩
      have HNN := Lib.hid hN
      rw [hN] at ct b1 f10
      have q1 : ((I + J : Int) == (N : Int) - 1) = true := by rw [beq_iff_eq]; omega
      have j1 : 0 ≤ J ∧ J ≤ 3628800 := by omega
      obtain ⟨j2, j3⟩ := j1
      obtain ⟨b2, b3⟩ := b1
      have i3 : I ≤ 3628800 := by omega
      clear ct hI hJ hN
      go_wp2_with fail
      refine (rankOf A k _ _ _ (hfr.get 1 rfl) LA.out PA.out n10 hc2).mono ?_; rintro e w4 ⟨rfl, hb⟩
      rw [HI.out]
      have F4 := hfr.keep hb
      clear hfr hb
      go_wp2_with fail
      refine (rankOf (A.map (fun v => ((k : Int) - 1) - v)) k _ _ _ (F4.get 0 rfl) LB.out PB.out n10 F4.cap).mono ?_; rintro e w5 ⟨rfl, hb⟩
      rw [HJ.out]
      have F5 := F4.keep hb
      clear F4 hb
      go_wp2_with fail
      refine (rankCount k _ n10).mono ?_; rintro e w' ⟨rfl, rfl⟩
      rw [HNN.out]
      go_wp2_with fail
      refine (good3b _ w5.heap.size _ rfl).mono ?_; rintro e w' ⟨rfl, rfl⟩
      have F6 := F5.alloc (.cells #[.int .i64 0, .int .i64 0, .int .i64 0] 23)
      go_wp2_with fail
      go_ret
      exact ⟨rfl, F6.bel⟩

set_option maxRecDepth 100000 in
set_option maxHeartbeats 8000000 in
theorem rankBack_any (x : List Int) (nx : Nat) (a : Option Addr) (ca : Nat) (k0 : Int) (w : World) (h : Sa w a (ints x)) (hn : x.length = nx) (hc : nx ≤ ca) (hm : nx ≤ maxLen) :
    Calls Try.prog 4 #[.slice a nx ca, .int .i64 k0] w fun e w' => e = .returned (.bool true) ∧ Below w.heap.size w w' := by
  have HN := Lib.hid hn; have HS := Lib.hid h; have HM := Lib.hid hm
  clear hn h hm
  go_enter Try.func4, Try.ntmps4
  go_wp2_with fail
  refine (ranks_any _).mono ?_; rintro e w1 ⟨rfl, hb⟩
  have F1 := (Fr.start w).keep hb
  clear hb
  go_wp2_with fail
  refine (permOf_any x nx _ _ 10 _ (F1.old HS.out) HN.out hc HM.out (by omega)).mono ?_; rintro e w2 ⟨ad2, n, cp2, rfl, hn2, hc2, hf⟩
  have F2 := F1.call hf
  clear F1 hf
  obtain ⟨lA, pA⟩ := permL_ok x 10
  have n10 : n ≤ 10 := by rw [← hn2, lA]; omega
  have LA := Lib.hid hn2; have PA := Lib.hid pA
  clear lA pA hn2
  generalize permL x 10 = A at *
  have b1 := ofC_bd (codeL A) (codeL_ok A)
  rw [codeL_len, LA.out] at b1
  obtain ⟨I, hI⟩ : ∃ I : Nat, ofC (codeL A) = I := ⟨(ofC (codeL A)).toNat, by omega⟩
  have hat := at_of PA.out n LA.out I hI
  rw [hI] at b1
  have f1 := facN_pos n
  have f10 := facN_10 n n10
  have hIN : I < facN n := by omega
  obtain ⟨K, hK, hKN⟩ : ∃ K : Nat, k0 % (facN n : Int) = K ∧ K < facN n := ⟨(k0 % (facN n : Int)).toNat, by have := Int.emod_nonneg k0 (b := (facN n : Int)) (by omega); omega, by have := Int.emod_nonneg k0 (b := (facN n : Int)) (by omega); have := Int.emod_lt_of_pos k0 (b := (facN n : Int)) (by omega); omega⟩
  have hcode := atS_code n (upTo n) K (upTo_len n) hKN (upTo_incr n)
  have hip := at_isP n K hKN
  have HI := Lib.hid hI; have HAT := Lib.hid hat; have HIN := Lib.hid hIN; have HK := Lib.hid hK; have HKN := Lib.hid hKN; have HCODE := Lib.hid hcode; have HIP := Lib.hid hip
  have HL2 : Hid ((atS n (upTo n) K).length = n) := Lib.hid (atS_len n (upTo n) K)
  obtain ⟨N, hN⟩ : ∃ N, facN n = N := ⟨_, rfl⟩
  have HNN := Lib.hid hN
  rw [hN] at b1 f1 f10 hIN hKN
  clear hI hat hK hcode hip hN
  go_wp2_with fail
  refine (rankOf A n _ _ _ (F2.get 0 rfl) LA.out PA.out n10 hc2).mono ?_; rintro e w3 ⟨rfl, hb⟩
  rw [HI.out]
  have F3 := F2.keep hb
  clear F2 hb
  go_wp2_with fail
  refine (rankAt n I _ n10 HIN.out).mono ?_; rintro e w4 ⟨ad4, cp4, rfl, hc4, hf⟩
  rw [HAT.out] at hf
  have F4 := F3.call hf
  clear F3 hf
  go_wp2_with fail
  refine (rankCount n _ n10).mono ?_; rintro e w' ⟨rfl, rfl⟩
  rw [HNN.out]
  go_wp2_with fail
  refine (good3b _ w4.heap.size _ rfl).mono ?_; rintro e w' ⟨rfl, rfl⟩
  have F5 := F4.alloc (.cells #[.int .i64 0, .int .i64 0, .int .i64 0] 23)
  clear F4
  go_wp2_with fail
  refine (slEqual A A n n _ _ _ _ _ (F5.get 1 rfl) (F5.get 0 rfl) LA.out LA.out (by omega) (by omega)).mono ?_; rintro e w5 ⟨rfl, hf⟩
  have F6 := F5.keep hf.bel
  rw [decide_eq_true (rfl : A = A)]
  clear F5 hf
  have d1 : decide ((I : Int) < 0) = false := decide_eq_false (by omega)
  have d2 : decide (N ≤ I) = false := decide_eq_false (by omega)
  go_wp2_with fail
  refine (within_any _ _ _ (by omega) (by omega)).mono ?_; rintro e w' ⟨rfl, rfl⟩
  rw [show k0 % (N : Int) = (K : Int) from by rw [← HNN.out]; exact HK.out]
  go_wp2_with fail
  refine (rankAt n K _ n10 HKN.out).mono ?_; rintro e w6 ⟨ad6, cp6, rfl, hc6, hf⟩
  have F7 := F6.call hf
  clear F6 hf
  go_wp2_with fail
  refine (rankOf (atS n (upTo n) K) n _ _ _ (F7.get 0 rfl) HL2.out HIP.out n10 hc6).mono ?_; rintro e w7 ⟨rfl, hb⟩
  rw [HCODE.out]
  have F8 := F7.keep hb
  clear F7 hb
  have q : ((K : Int) == (K : Int)) = true := beq_self_eq_true _
  go_wp2_with fail
  refine (good2b _ w7.heap.size _ rfl).mono ?_; rintro e w' ⟨rfl, rfl⟩
  have F9 := F8.alloc (.cells #[.int .i64 0, .int .i64 0] 23)
  go_wp2_with fail
  go_ret
  exact ⟨rfl, F9.bel⟩
end Go.Proofs.Ytnjnndodfdghbaa
