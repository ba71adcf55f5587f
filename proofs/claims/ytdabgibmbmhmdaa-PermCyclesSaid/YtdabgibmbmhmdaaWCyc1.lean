/- The walks of the laws PermCycles and DerangeOwn. -/
import Derived.Test.YtdabgibmbmhmdaaCycE
import Derived.Test.YtdabgibmbmhmdaaSlEq2
import Derived.Test.YtdabgibmbmhmdaaGood
namespace Go.Proofs.Ytdabgibmbmhmdaa
open Go.RowKit

set_option maxRecDepth 100000 in
set_option maxHeartbeats 8000000 in
theorem permCycles_any (x y : List Int) (nx ny : Nat) (a b : Option Addr) (ca cb : Nat) (w : World) (h : Sa w a (ints x)) (hn : x.length = nx) (hc : nx ≤ ca) (hm : nx ≤ maxLen)
    (h' : Sa w b (ints y)) (hn' : y.length = ny) (hc' : ny ≤ cb) (hm' : ny ≤ maxLen) :
    Calls Try.prog 3 #[.slice a nx ca, .slice b ny cb] w fun e w' => e = .returned (.bool true) ∧ Below w.heap.size w w' := by
  have HN := Lib.hid hn; have HS := Lib.hid h; have HM := Lib.hid hm; have HN' := Lib.hid hn'; have HS' := Lib.hid h'; have HM' := Lib.hid hm'
  unfold maxLen at hm hm'
  obtain ⟨m, m1, m2, m4, m5⟩ : ∃ m : Nat, m ≤ nx ∧ m ≤ ny ∧ (m : Int) ≤ 10 ∧ (m = nx ∨ m = ny ∨ (m : Int) = 10) := ⟨min (min nx ny) 10, by omega, by omega, by omega, by omega⟩
  have HMIN := Lib.hid (run_min3 #[3, 3, 3] 3 nx ny 10 m m1 m2 m4 m5)
  have HP := Lib.hid (show IsP [1, 0, 2] from isP_lit _ (by decide) (by decide))
  clear hn h hn' h' m5 hm hm'
  go_enter Try.func3, Try.ntmps3
  go_wp2_with fail
  have F1 := (Fr.start w).lit [1, 0, 2] #[.int .i64 1, .int .i64 0, .int .i64 2] rfl 3 rfl (by omega) 3
  refine (cycles_any [1, 0, 2] 3 _ _ _ (F1.get 0 rfl) rfl HP.out (by omega)).mono ?_; rintro e w0 ⟨ad0, cp0, out, rfl, hok, hf⟩
  have hl2 := cyc102 hok
  have hlen : out.length = 2 := by rw [← cycL_len, hl2]; rfl
  rw [hl2, hlen] at hf
  rw [hlen]
  have F2 := (F1.call hf).lit' [2, 1] #[.int .i64 2, .int .i64 1] rfl 2 rfl (by omega) 3 w0.heap.size rfl
  clear F1 hf hok hl2 hlen
  go_wp2_with fail
  refine (slEqual [2, 1] [2, 1] 2 2 _ _ _ _ _ (F2.get 1 rfl) (F2.get 0 rfl) rfl rfl (by omega) (by omega)).mono ?_; rintro e w1 ⟨rfl, hf⟩
  rw [decide_eq_true (rfl : ([2, 1] : List Int) = [2, 1])]
  have F4 := F2.below.keep hf.bel
  clear F2 hf
  have hmin := HMIN.out
  go_wp2_with fail
  clear hmin
  refine (permOf_any x nx _ _ m _ (F4.old HS.out) HN.out hc HM.out (by omega)).mono ?_; rintro e w3 ⟨ad3, n3, cp3, rfl, hn3, hc3, hf⟩
  have F5 := F4.call hf
  clear F4 hf
  go_wp2_with fail
  refine (permOf_any y ny _ _ m _ (F5.old HS'.out) HN'.out hc' HM'.out (by omega)).mono ?_; rintro e w4 ⟨ad4, n4, cp4, rfl, hn4, hc4, hf⟩
  have F6 := Lib.hid (F5.call hf)
  clear F5 hf
  obtain ⟨lA, pA⟩ := permL_ok x m
  obtain ⟨lB, pB⟩ := permL_ok y m
  rw [HN.out, Nat.min_eq_left m1] at lA
  rw [HN'.out, Nat.min_eq_left m2] at lB
  obtain rfl : n3 = m := by rw [← hn3, lA]
  obtain rfl : n4 = n3 := by rw [← hn4, lB]
  have n10 : n4 ≤ 10 := by omega
  have PA := Lib.hid pA; have PB := Lib.hid pB; have LA := Lib.hid lA; have LB := Lib.hid lB
  clear pA pB lA lB hn3 hn4 m1 m2 m4
  generalize permL x n4 = A at *
  generalize permL y n4 = B at *
  have VA := Lib.hid (inv_isP PA.out); have LVA : Hid ((invL A).length = n4) := Lib.hid (by rw [invL_len, LA.out])
  have VB := Lib.hid (inv_isP PB.out); have LVB : Hid ((invL B).length = n4) := Lib.hid (by rw [invL_len, LB.out])
  have PU := Lib.hid (tm_isP PA.out VB.out (by rw [LA.out, LVB.out])); have LU : Hid ((tmL A (invL B)).length = n4) := Lib.hid (by rw [tmL_len, LVB.out])
  have PW := Lib.hid (tm_isP PB.out PU.out (by rw [LB.out, LU.out])); have LW : Hid ((tmL B (tmL A (invL B))).length = n4) := Lib.hid (by rw [tmL_len, LU.out])
  go_wp2_with fail
  refine (cycles_any A n4 _ _ _ (F6.out.get 1 rfl) LA.out PA.out n10).mono ?_; rintro e w6 ⟨ad6, cp6, o1, rfl, hk1, hf⟩
  have F7 := Lib.hid (F6.out.call hf)
  have HK1 := Lib.hid hk1
  clear F6 hf hk1
  go_wp2_with fail
  refine (permInv A n4 _ _ _ (F7.out.get 2 rfl) LA.out PA.out n10).mono ?_; rintro e w7 ⟨ad7, cp7, rfl, hc7, hf⟩
  have F8 := Lib.hid (F7.out.call hf)
  clear F7 hf
  go_wp2_with fail
  refine (cycles_any (invL A) n4 _ _ _ (F8.out.get 0 rfl) LVA.out VA.out n10).mono ?_; rintro e w8 ⟨ad8, cp8, o2, rfl, hk2, hf⟩
  have E2 := Lib.hid (cyc_inv PA.out HK1.out hk2)
  have F9 := Lib.hid (F8.out.call hf)
  clear F8 hf hk2
  go_wp2_with fail
  refine (permInv B n4 _ _ _ (F9.out.get 3 rfl) LB.out PB.out n10).mono ?_; rintro e w9 ⟨ad9, cp9, rfl, hc9, hf⟩
  have F10 := Lib.hid (F9.out.call hf)
  clear F9 hf
  go_wp2_with fail
  refine (permTimes A (invL B) n4 _ _ _ _ _ (F10.out.get 5 rfl) LA.out PA.out (F10.out.get 0 rfl) LVB.out VB.out n10).mono ?_; rintro e w10 ⟨ad10, cp10, rfl, hc10, hf⟩
  have F11 := Lib.hid (F10.out.call hf)
  clear F10 hf
  go_wp2_with fail
  refine (permTimes B (tmL A (invL B)) n4 _ _ _ _ _ (F11.out.get 5 rfl) LB.out PB.out (F11.out.get 0 rfl) LU.out PU.out n10).mono ?_; rintro e w11 ⟨ad11, cp11, rfl, hc11, hf⟩
  have F12 := Lib.hid (F11.out.call hf)
  clear F11 hf
  go_wp2_with fail
  refine (cycles_any (tmL B (tmL A (invL B))) n4 _ _ _ (F12.out.get 0 rfl) LW.out PW.out n10).mono ?_; rintro e w12 ⟨ad12, cp12, o3, rfl, hk3, hf⟩
  have E3 := Lib.hid (cyc_conj PA.out PB.out (by rw [LA.out, LB.out]) HK1.out hk3)
  have F13 := Lib.hid (F12.out.call hf)
  have HL := Lib.hid (cycL_len o1)
  have HL2 : Hid ((cycL o1).length = o2.length) := Lib.hid (by rw [E2.out, cycL_len])
  have HL3 : Hid ((cycL o1).length = o3.length) := Lib.hid (by rw [E3.out, cycL_len])
  have HSUM : Hid (isL (cycL o1) = n4) := Lib.hid (by rw [cyc_sum HK1.out, LA.out])
  have HBD := Lib.hid (cycL_bd HK1.out (by rw [LA.out]; exact n10))
  have hle := HK1.out.le
  rw [LA.out] at hle
  rw [← E2.out, ← E3.out] at F13
  clear F12 hf hk3 E2 E3 HK1
  obtain ⟨M, hM⟩ : ∃ M, o1.length = M := ⟨_, rfl⟩
  rw [hM] at F13 HL hle ⊢
  have h2 : o2.length = M := by rw [← HL2.out, HL.out]
  have h3 : o3.length = M := by rw [← HL3.out, HL.out]
  rw [h2, h3] at F13
  rw [h2, h3]
  clear hM HL2 HL3 h2 h3
  generalize cycL o1 = L at *
  go_wp2_with fail
  go_loopw [24, 90] (fun s i wr => ∃ j : Nat, j ≤ M ∧ i = .int .i64 j ∧ s = .int .i64 (isL (L.take j)) ∧ wr = w12) (fun _ i _ => M - (intOf i).toNat)
  case atStart => exact ⟨0, by omega, rfl, rfl, rfl⟩
  case round =>
    obtain ⟨j, hj, rfl, rfl, rfl⟩ := hrel
    by_cases hlt : j < M
    · obtain ⟨b1, o1, rfl, hb1, c1⟩ := (F13.out.get 6 rfl).int j (by rw [HL.out]; exact hlt)
      have hst := isL_take L j (by rw [HL.out]; exact hlt)
      have hb := isL_bd (L.take j) fun z hz => HBD.out z (List.mem_of_mem_take hz)
      have hx := HBD.out _ (nth_mem L j (by rw [HL.out]; exact hlt))
      rw [List.length_take] at hb
      generalize isL (L.take j) = S at *
      generalize nth L j = z at *
      have HST := Lib.hid hst
      have b1 : 0 ≤ S := hb.1
      have b2 : S ≤ 1000000 := by omega
      obtain ⟨b3, b4⟩ := hx
      have e1 : (0 : Int) ≤ (j : Int) := by omega
      have e2 : (j : Int) < (M : Int) := by omega
      clear hst hb
      go_wp2_with fail
      exact ⟨⟨j + 1, by omega, by simp, by rw [HST.out], trivial⟩, by simp only [intOf]; omega⟩
    · obtain rfl : j = M := by omega
      have hall : isL (L.take j) = n4 := by rw [List.take_of_length_le (by rw [HL.out]; exact Nat.le_refl _)]; exact HSUM.out
      rw [hall]
      clear hall
      go_wp2_with fail
      refine (good7b _ wr.heap.size _ rfl).mono ?_; rintro e w' ⟨rfl, rfl⟩
      have F14 := Lib.hid (F13.out.alloc (.cells #[.int .i64 0, .int .i64 0, .int .i64 0, .int .i64 0, .int .i64 0, .int .i64 0, .int .i64 0] 23))
      have q1 : ((n4 : Int) == (n4 : Int)) = true := by simp
      clear F13
      go_wp2_with fail
      refine (slEqual L L j j _ _ _ _ _ (F14.out.get 6 rfl) (F14.out.get 4 rfl) HL.out HL.out (by omega) (by omega)).mono ?_; rintro e w13 ⟨rfl, hf⟩
      rw [decide_eq_true (rfl : L = L)]
      have F15 := Lib.hid (F14.out.keep hf.bel)
      clear F14 hf
      go_wp2_with fail
      refine (slEqual L L j j _ _ _ _ _ (F15.out.get 6 rfl) (F15.out.get 0 rfl) HL.out HL.out (by omega) (by omega)).mono ?_; rintro e w14 ⟨rfl, hf⟩
      rw [decide_eq_true (rfl : L = L)]
      have F16 := Lib.hid (F15.out.keep hf.bel)
      clear F15 hf
      go_wp2_with fail
      go_ret
      exact ⟨rfl, F16.out.bel⟩
end Go.Proofs.Ytdabgibmbmhmdaa
