/- The walk of the law TopOrders. -/
import Derived.Test.YtefblcchmkmfpaaMgTape
import Derived.Test.YtefblcchmkmfpaaMgRat
import Derived.Test.YtefblcchmkmfpaaAt
import Derived.Test.YtefblcchmkmfpaaMgCyc
import Derived.Test.YtefblcchmkmfpaaTabK4
import Derived.Test.YtefblcchmkmfpaaPlc
namespace Go.Proofs.Ytefblcchmkmfpaa
open Go.RowKit

/-- how many of the first k lots change something -/
def movK (l : List Int) : Nat → Nat
  | 0 => 0
  | k + 1 => movK l k + if nth l k = k then 0 else 1
theorem movK_le (l : List Int) : ∀ k, movK l k ≤ k
  | 0 => Nat.le_refl _
  | k + 1 => by have := movK_le l k; rw [movK]; split <;> omega
theorem movK_app (l : List Int) (x : Int) : ∀ k, k ≤ l.length → movK (l ++ [x]) k = movK l k
  | 0, _ => rfl
  | k + 1, h => by
    have e : nth (l ++ [x]) k = nth l k := by rw [nth_snoc, if_neg (by omega)]
    rw [movK, movK, movK_app l x k (by omega), e]
theorem movK_lots : ∀ (i : Nat) (q : List Int), movK (lotsD i q) i = mvN i q
  | 0, _ => rfl
  | i + 1, q => by
    rw [movK, lotsD, movK_app _ _ _ (by rw [lotsD_len]; omega), movK_lots i, nth_snoc, lotsD_len, if_pos rfl, mvN]
    congr 1
    by_cases c : idxL q i = i
    · rw [if_pos c, if_pos (by omega)]
    · rw [if_neg c, if_neg (by omega)]
theorem isumR_takeS (c : List Int) (k : Nat) (h : k < c.length) : isumR (c.take (k + 1)) = isumR (c.take k) + nth c k := by rw [take_nth c k h, isumR_snoc]
theorem isumR_bd {c : List Int} {B : Int} (h : ∀ i, i < c.length → 0 ≤ nth c i ∧ nth c i ≤ B) : ∀ k, k ≤ c.length → 0 ≤ isumR (c.take k) ∧ isumR (c.take k) ≤ k * B
  | 0, _ => by simp [isumR]
  | k + 1, hk => by
    have := isumR_bd h k (by omega)
    have := h k (by omega)
    rw [isumR_takeS c k (by omega), show ((k + 1 : Nat) : Int) * B = k * B + B by rw [Int.natCast_add, Int.add_mul]; simp]
    omega
set_option maxRecDepth 100000 in
set_option maxHeartbeats 16000000 in
theorem topOrders_any (x : List Int) (n : Nat) (a : Option Addr) (cap : Nat) (d : Int) (w : World) (h : Sa w a (byts x)) (hn : x.length = n) (hc : n ≤ cap) (hm : n ≤ maxLen) (hb : ∀ z ∈ x, 0 ≤ z ∧ z ≤ 255) :
    Calls Try.prog 11 #[.slice a n cap, .int .i64 d] w fun e w' => e = .returned (.bool true) ∧ Below w.heap.size w w' := by
  unfold maxLen at hm
  obtain ⟨m, m1, m2, m3⟩ : ∃ m : Nat, m ≤ n ∧ (m : Int) ≤ (200 : Int) ∧ (m = n ∨ (m : Int) = (200 : Int)) := ⟨min n 200, by omega, by omega, by omega⟩
  have HMIN := Lib.hid (run_min2 #[3, 3] 3 n 200 m m1 m2 m3)
  have HN := Lib.hid hn; have HS := Lib.hid h; have HB := Lib.hid hb
  have HM : Hid ((x.take m).map (· % 2) = bitsL x 200) := Lib.hid (by
    unfold bitsL
    rcases m3 with h | h
    · rw [List.take_of_length_le (l := x) (by omega), List.take_of_length_le (l := x) (by omega)]
    · congr 2; omega)
  have HL : Hid ((bitsL x 200).length = m) := Lib.hid (by unfold bitsL; rw [List.length_map, List.length_take]; omega)
  clear hn h m3 hb
  have b1 : (m : Int) ≤ (cap : Int) := by omega
  go_enter Try.func11, Try.ntmps11
  have hmin := HMIN.out
  go_wp2_with fail
  clear hmin HMIN
  go_loopw [5, 39] (fun o i wr => ∃ (k : Nat) (ad : Option Addr) (cp : Nat), k ≤ m ∧ i = .int .i64 k ∧ o = .slice ad k cp ∧ Fr w wr [⟨5, .slice ad k cp, byts ((x.take k).map (· % 2))⟩]) (fun _ i _ => m - (intOf i).toNat)
  case atStart => exact ⟨0, none, 0, by omega, rfl, rfl, (Fr.start w).nilSlice _⟩
  case round =>
    obtain ⟨k, ad, cp, hk, rfl, rfl, hfr⟩ := hrel
    by_cases hlt : k < m
    · obtain ⟨b, off, rfl, hb, hc⟩ := (hfr.old HS.out).byt k (by rw [HN.out]; omega)
      have hs := Lib.hid (take_nth x k (by rw [HN.out]; omega))
      obtain ⟨p1, p2⟩ := HB.out (nth x k) (nth_mem _ _ (by rw [HN.out]; omega))
      obtain ⟨y, hx⟩ : ∃ y, nth x k = y := ⟨_, rfl⟩
      rw [hx] at hc p1 p2
      have HX := Lib.hid hx
      have HF := Lib.hid hfr
      clear hx hfr
      have d1 : (0 : Int) ≤ (k : Int) := by omega
      have d2 : (k : Int) < (m : Int) := by omega
      go_wp2_with (with_reducible refine at_slot 47 ?_; go_must (refine wpList_push' rfl _ _ 49 5 (.int .u8 0) 1 Try.underlying49 u8Info rfl (by omega) rfl ad k cp _ (.int .u8 (y % 2)) _ _ rfl rfl HF.out rfl rfl ?_ ?_); rotate_left; intro ad' cp' w2 hf2 hlt2)
      · rw [byts_snoc, show (x.take k).map (· % 2) ++ [y % 2] = (x.take (k + 1)).map (· % 2) from by rw [hs.out, HX.out, List.map_append]; rfl] at hf2
        exact ⟨⟨k + 1, ad', cp', by omega, by simp, rfl, hf2⟩, by simp only [intOf]; omega⟩
      · omega
    · obtain rfl : k = m := by omega
      rw [HM.out] at hfr
      have hcap := hfr.cap
      have HF1 := Lib.hid hfr
      have HP1 := Lib.hid (bitsL_01 x 200)
      clear hfr HM hlt b1 m1 hk HS HN HB
      generalize bitsL x 200 = l at *
      go_wp2_with fail
      refine (shCast l k _ _ d _ (HF1.out.get 0 rfl) HL.out HP1.out (by omega) hcap).mono ?_; rintro e w2 he
      rcases he with ⟨m, o, u, adp, cpp, rfl, m10, ho, hcp, rfl, hf⟩ | ⟨err, herr, -, rfl, hf⟩
      · have HF2 := Lib.hid (HF1.out.below.call hf)
        obtain ⟨lo, ll⟩ := row_lots HP1.out ho
        obtain ⟨dl, dp⟩ := dealL_ok o lo
        rw [ll] at dl
        have HA := Lib.hid dl; have HP := Lib.hid dp
        clear hf ho lo ll dl dp HF1
        generalize dealL o = A at *
        go_wp2_with fail
        refine (works_any _).mono ?_; rintro e w3 ⟨rfl, hb⟩
        have HF3 := Lib.hid (HF2.out.keep hb)
        clear hb HF2
        go_wp2_with fail
        have hbd := ofC_bd (codeL A) (codeL_ok A)
        rw [codeL_len, HA.out] at hbd
        obtain ⟨K, hK⟩ : ∃ K : Nat, ofC (codeL A) = K := ⟨(ofC (codeL A)).toNat, by omega⟩
        have HAT := Lib.hid (at_of HP.out m HA.out K hK)
        have HCALL := Lib.hid (rankOf A m adp cpp w3 (HF3.out.mem (T := 3) (n := m) (cap := cpp) (by simp)) HA.out HP.out m10 hcp)
        rw [hK] at HCALL hbd
        have hKf : K < facN m := by omega
        have hK63 : K ≤ 3628800 := by have := facN_10 m m10; omega
        clear hK hbd
        refine HCALL.out.mono ?_; rintro e w4 ⟨rfl, hb⟩
        have HF4 := Lib.hid (HF3.out.keep hb)
        clear hb HF3 HCALL
        go_wp2_with fail
        refine (rankAt m K _ m10 hKf).mono ?_; rintro e w5 ⟨ad5, cp5, rfl, hc5, hf⟩
        rw [HAT.out] at hf
        have HF5 := Lib.hid (HF4.out.call hf)
        clear hf HF4 HAT hKf
        go_wp2_with fail
        refine (shLots A m _ _ _ (HF5.out.mem (T := 3) (ad := adp) (n := m) (cap := cpp) (by simp)) HA.out HP.out m10).mono ?_; rintro e w6 ⟨ad6, cp6, rfl, hc6, hf⟩
        have HF6 := Lib.hid (HF5.out.call hf)
        have HLL := Lib.hid (lotsD_len m A)
        have HLO := Lib.hid (lotsD_ok m A HA.out HP.out)
        have HDL : Hid (dealL (lotsD m A) = A) := Lib.hid (by unfold dealL; rw [lotsD_len]; exact deal_lots m A HA.out HP.out)
        have HMV : Hid ((invN A + movK (lotsD m A) m) % 2 = 0) := Lib.hid (by rw [movK_lots]; have := inv_moves HP.out; rw [HA.out] at this; exact this)
        clear hf HF5
        generalize lotsD m A = O at *
        go_wp2_with fail
        refine (shDeal O m _ _ _ (HF6.out.mem (T := 3) (ad := ad6) (n := m) (cap := cp6) (by simp)) HLL.out HLO.out m10).mono ?_; rintro e w7 ⟨ad7, cp7, rfl, hc7, hf⟩
        rw [HDL.out] at hf
        have HF7 := Lib.hid (HF6.out.call hf)
        clear hf HF6 HDL HLO
        obtain ⟨o1, o2, o3, o4, o5⟩ := rsk_ok HP.out HA.out m10 (rsk_inv HP.out m HA.out).2
        have HGD := tabOk_gd o1 o2 o3
        rw [o4] at HGD
        have HG := Lib.hid HGD
        have O1 := Lib.hid o1; have O2 := Lib.hid o2; have O3 := Lib.hid o3; have O4 := Lib.hid o4; have O5 := Lib.hid o5
        clear o1 o2 o3 o4 o5 HGD
        go_wp2_with fail
        refine (tabOf A m _ _ _ (HF7.out.mem (T := 3) (ad := adp) (n := m) (cap := cpp) (by simp)) HA.out HP.out m10).mono ?_
        rintro e w8 ⟨adx, np, cp1, RP, adq, nq, cq1, RQ, rfl, g1, g2, g3, g4, hF⟩
        obtain ⟨P, hP⟩ : ∃ P, (rsk A m).1 = P := ⟨_, rfl⟩
        obtain ⟨Q, hQ⟩ : ∃ Q, (rsk A m).2 = Q := ⟨_, rfl⟩
        rw [hP] at g1 O1 O3 O4 O5 HG
        rw [hQ] at g2 O2 O3 O5 HG
        have e1 : nq = np := by rw [← g4, ← g3, ← lsR_len, ← lsR_len RP, g1, g2]; have := congrArg List.length O3.out; simpa using this.symm
        subst e1
        have HPL : Hid (P.length = nq) := Lib.hid (by rw [← g1, lsR_len, g3])
        have HQL : Hid (Q.length = nq) := Lib.hid (by rw [← g2, lsR_len, g4])
        have HF8 := Lib.hid ((HF7.out.call hF).rp (.slice adx nq cp1) (.slice adq nq cq1) w8.heap.size rfl)
        have hpq := HF8.out.rmPQ (adp := adx) (np := nq) (cp := cp1) (RP := RP) (adq := adq) (nq := nq) (cq := cq1) (RQ := RQ) (fun e he => List.mem_cons_of_mem _ (List.mem_append_left _ he))
        obtain ⟨W3, hW3⟩ : ∃ W3, w8.alloc (.cells #[.slice adx nq cp1, .slice adq nq cq1] 37) = W3 := ⟨_, rfl⟩
        rw [hW3] at hpq HF8
        obtain ⟨D, hD⟩ : ∃ D, w8.heap.size = D := ⟨_, rfl⟩
        rw [hD] at HF8
        obtain ⟨c0, c1, -, -, -, -⟩ := HF8.out.rpM (b := D) (v1 := .slice adx nq cp1) (v2 := .slice adq nq cq1) (by simp)
        rw [← hW3] at c0 c1
        have HBK := Lib.hid (tabBack RP RQ P Q nq m adx adq cp1 cq1 W3 hpq.1 hpq.2 g1 g2 HPL.out HQL.out O1.out O2.out HG.out O4.out)
        rw [O5.out] at HBK
        rw [← hW3] at HBK
        have HW3 := Lib.hid hW3
        clear hF g1 g2 g3 g4 HF7 hpq hP hQ hW3 O1 O2 O3 O4 O5 HG
        go_wp2_with fail
        refine HBK.out.mono ?_; rintro e w9 ⟨ad9, cp9, rfl, hc9, hf⟩
        rw [HW3.out] at hf
        have HF9 := Lib.hid (HF8.out.call hf)
        clear hf HF8 c0 c1 HBK hD HPL HQL HW3
        obtain ⟨L9, hF9, hL1, hL2, hL3, hL4, hL5⟩ : ∃ L, Fr w w9 L ∧ (⟨3, .slice adp m cpp, ints A⟩ : Ent) ∈ L ∧ (⟨3, .slice ad5 m cp5, ints A⟩ : Ent) ∈ L ∧ (⟨3, .slice ad6 m cp6, ints O⟩ : Ent) ∈ L ∧ (⟨3, .slice ad7 m cp7, ints A⟩ : Ent) ∈ L ∧ (⟨3, .slice ad9 m cp9, ints A⟩ : Ent) ∈ L :=
          ⟨_, HF9.out, by simp, by simp, by simp, by simp, by simp⟩
        have S1 := Lib.hid (hF9.mem hL1); have S2 := Lib.hid (hF9.mem hL2); have S3 := Lib.hid (hF9.mem hL3); have S4 := Lib.hid (hF9.mem hL4); have S5 := Lib.hid (hF9.mem hL5)
        have HF := Lib.hid hF9.below
        have F0 := Lib.hid (Fr.start w9)
        clear hF9 hL1 hL2 hL3 hL4 hL5 HF9 L9
        go_wp2_with fail
        refine (rankCode A m _ _ _ S1.out HA.out HP.out m10 hcp).mono ?_; rintro e w10 ⟨ad10, cp10, rfl, hc10, hf⟩
        have F1 := Lib.hid (F0.out.call hf)
        clear hf F0
        go_wp2_with fail
        have HCR := Lib.hid (crossed A m adp cpp w10 (F1.out.old S1.out) HA.out HP.out m10 hcp)
        have hck : crossK A m = invN A := by
          have e1 := crossK_code A
          have e2 := invN_code A
          rw [HA.out] at e1
          omega
        rw [hck] at HCR
        have HSM := Lib.hid (invN_code A)
        have hcb : invN A ≤ m * m := by rw [← hck]; exact crossK_le A m
        have hmm : m * m ≤ 100 := Nat.mul_le_mul m10 m10
        have hcb2 : invN A ≤ 100 := by omega
        clear hck hcb hmm
        have hsg : sgP A = if invN A % 2 = 1 then -1 else 1 := rfl
        have HSG := Lib.hid hsg
        clear hsg
        have HSI := Lib.hid (fun (W : World) (hs : Sa W adp (ints A)) => sign_any A m adp cpp W hs HA.out HP.out m10)
        obtain ⟨G, hG⟩ : ∃ G, sgP A = G := ⟨_, rfl⟩
        rw [hG] at HSG HSI
        clear hG
        generalize invN A = C at *
        refine HCR.out.mono ?_; rintro e w11 ⟨rfl, hb⟩
        have F2 := Lib.hid (F1.out.keep hb)
        clear hb F1 HCR
        go_wp2_with fail
        refine (HSI.out _ (F2.out.old S1.out)).mono ?_; rintro e w12 ⟨rfl, hb⟩
        have F3 := Lib.hid (F2.out.keep hb)
        clear hb F2 HSI
        go_wp2_with fail
        refine (goodT 9 _ w12.heap.size _ rfl #[.int .i64 0, .int .i64 0, .int .i64 0, .int .i64 0, .int .i64 0, .int .i64 0, .int .i64 0, .int .i64 0, .int .i64 0] rfl (by omega)).mono ?_; rintro e w' ⟨rfl, rfl⟩
        have F4 := Lib.hid (F3.out.alloc (.cells #[.int .i64 0, .int .i64 0, .int .i64 0, .int .i64 0, .int .i64 0, .int .i64 0, .int .i64 0, .int .i64 0, .int .i64 0] 22))
        clear F3
        go_wp2_with fail
        refine (slEqual A A m m _ _ _ _ _ (F4.out.old S2.out) (F4.out.old S1.out) HA.out HA.out (by omega) (by omega)).mono ?_; rintro e w13 ⟨rfl, hf⟩
        rw [decide_eq_true rfl]
        have F5 := Lib.hid (F4.out.keep hf.bel)
        clear hf F4
        go_wp2_with fail
        refine (slEqual A A m m _ _ _ _ _ (F5.out.old S4.out) (F5.out.old S1.out) HA.out HA.out (by omega) (by omega)).mono ?_; rintro e w14 ⟨rfl, hf⟩
        rw [decide_eq_true rfl]
        have F6 := Lib.hid (F5.out.keep hf.bel)
        clear hf F5
        go_wp2_with fail
        refine (slEqual A A m m _ _ _ _ _ (F6.out.old S5.out) (F6.out.old S1.out) HA.out HA.out (by omega) (by omega)).mono ?_; rintro e w15 ⟨rfl, hf⟩
        rw [decide_eq_true rfl]
        have F7 := Lib.hid (F6.out.keep hf.bel)
        clear hf F6
        have z1 : ((m : Int) != (m : Int)) = false := by simp
        go_wp2_with fail
        clear z1
        have HCO : Hid (Sa w15 ad10 (ints (codeL A))) := Lib.hid (F7.out.mem (T := 3) (n := m) (cap := cp10) (by simp))
        have HOO := Lib.hid (F7.out.old S3.out)
        have HCL : Hid ((codeL A).length = m) := Lib.hid (by rw [codeL_len, HA.out])
        have HCB : Hid (∀ i, i < (codeL A).length → 0 ≤ nth (codeL A) i ∧ nth (codeL A) i ≤ 10) := Lib.hid fun i hi => by
          rw [codeL_len] at hi
          have := codeL_bd A i hi
          have := HA.out
          omega
        have HFW : Hid (Fr w w15 []) := Lib.hid (HF.out.keep F7.out.bel)
        clear F7 HF S1 S2 S3 S4 S5 HP HA
        generalize codeL A = c at *
        go_loop [29, 30, 161] (fun s mv i => ∃ k : Nat, k ≤ m ∧ i = .int .i64 k ∧ s = .int .i64 (isumR (c.take k)) ∧ mv = .int .i64 (movK O k : Nat)) (fun _ _ i => m - (intOf i).toNat)
        case atStart => exact ⟨0, by omega, rfl, rfl, rfl⟩
        case round =>
          obtain ⟨k, hk, rfl, rfl, rfl⟩ := hrel
          by_cases hlt : k < m
          · obtain ⟨b1, o1, rfl, -, x1⟩ := HCO.out.int k (by rw [HCL.out]; exact hlt)
            obtain ⟨b2, o2, rfl, -, x2⟩ := HOO.out.int k (by rw [HLL.out]; exact hlt)
            obtain ⟨e1, e2⟩ := isumR_bd HCB.out k (by rw [HCL.out]; exact hk)
            obtain ⟨e3, e4⟩ := HCB.out k (by rw [HCL.out]; exact hlt)
            have HST := Lib.hid (isumR_takeS c k (by rw [HCL.out]; exact hlt))
            have e5 := movK_le O k
            have HMK : Hid (movK O (k + 1) = movK O k + if nth O k = k then 0 else 1) := Lib.hid rfl
            obtain ⟨v, hv⟩ : ∃ v, nth c k = v := ⟨_, rfl⟩
            obtain ⟨s, hs⟩ : ∃ s, isumR (c.take k) = s := ⟨_, rfl⟩
            obtain ⟨q, hq⟩ : ∃ q, nth O k = q := ⟨_, rfl⟩
            obtain ⟨M, hM⟩ : ∃ M, movK O k = M := ⟨_, rfl⟩
            rw [hv] at x1 e3 e4 HST
            rw [hs] at e1 e2 HST ⊢
            rw [hq] at x2 HMK
            rw [hM] at e5 HMK ⊢
            have e6 : s ≤ 100 := by omega
            have d1 : (0 : Int) ≤ (k : Int) := by omega
            have d2 : (k : Int) < (m : Int) := by omega
            clear hv hs hq hM e2
            by_cases hqk : q = k
            · have HM1 : Hid (movK O (k + 1) = M) := Lib.hid (by rw [HMK.out, if_pos hqk]; rfl)
              subst hqk
              have z : ((k : Int) != (k : Int)) = false := by simp
              clear HMK
              go_wp2_with fail
              exact ⟨⟨k + 1, by omega, by simp, by rw [HST.out], by rw [HM1.out]⟩, by simp only [intOf]; omega⟩
            · have HM1 : Hid (movK O (k + 1) = M + 1) := Lib.hid (by rw [HMK.out, if_neg hqk])
              have z : (q != (k : Int)) = true := by rw [bne_iff_ne]; exact hqk
              clear HMK hqk
              go_wp2_with fail
              exact ⟨⟨k + 1, by omega, by simp, by rw [HST.out], by rw [HM1.out]; simp⟩, by simp only [intOf]; omega⟩
          · obtain rfl : k = m := by omega
            have hsum : isumR (c.take k) = (C : Int) := by rw [List.take_of_length_le (by rw [HCL.out]; exact Nat.le_refl _)]; exact HSM.out.symm
            rw [hsum]
            have e5 := movK_le O k
            obtain ⟨M, hM⟩ : ∃ M, movK O k = M := ⟨_, rfl⟩
            rw [hM] at e5 HMV ⊢
            clear hsum hM hlt
            have z2 : ((C : Int) == (C : Int)) = true := by simp
            obtain ⟨B, t1, t2, t3⟩ : ∃ B : Bool, (G == 1) = B ∧ ((C : Int) % 2 == 0) = B ∧ ((M : Int) % 2 == 0) = B := by
              have h1 := HSG.out
              have h2 := HMV.out
              by_cases hC : C % 2 = 1
              · rw [if_pos hC] at h1
                exact ⟨false, by rw [h1]; rfl, by rw [beq_eq_false_iff_ne]; omega, by rw [beq_eq_false_iff_ne]; omega⟩
              · rw [if_neg hC] at h1
                exact ⟨true, by rw [h1]; rfl, by rw [beq_iff_eq]; omega, by rw [beq_iff_eq]; omega⟩
            have t4 : (B == B) = true := by simp
            go_wp2_with fail
            go_ret
            exact ⟨rfl, HFW.out.bel⟩
      · have q : (err != 0) = true := by rw [bne_iff_ne]; exact herr
        have HF2 := Lib.hid (HF1.out.keep hf.bel)
        clear hf HF1
        go_wp2_with fail
        refine (works_any _).mono ?_; rintro e w3 ⟨rfl, hb⟩
        have HF3 := Lib.hid (HF2.out.keep hb)
        clear hb HF2
        go_wp2_with fail
        refine (works_any _).mono ?_; rintro e w4 ⟨rfl, hb⟩
        have HF4 := Lib.hid (HF3.out.keep hb)
        clear hb HF3
        go_wp2_with fail
        go_ret
        exact ⟨rfl, HF4.out.bel⟩
end Go.Proofs.Ytefblcchmkmfpaa
