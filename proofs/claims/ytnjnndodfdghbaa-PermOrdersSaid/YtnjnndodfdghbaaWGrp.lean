/- The walk of the law PermGroup. -/
import Derived.Test.YtnjnndodfdghbaaGrp
import Derived.Test.YtnjnndodfdghbaaOrd
import Derived.Test.YtnjnndodfdghbaaNext
import Derived.Test.YtnjnndodfdghbaaSlEq2
import Derived.Test.YtnjnndodfdghbaaGood
namespace Go.Proofs.Ytnjnndodfdghbaa
open Go.RowKit

set_option maxRecDepth 100000 in
set_option maxHeartbeats 4000000 in
theorem perms_any (w : World) : Calls Try.prog 40 #[] w fun e w' => e = .returned (.bool true) ∧ Below w.heap.size w w' := by
  have HP := Lib.hid (show IsP [1, 2, 0] from isP_lit _ (by decide) (by decide))
  have HQ := Lib.hid (show IsP [1, 0, 2] from isP_lit _ (by decide) (by decide))
  have e1 : tmL [1, 2, 0] [1, 0, 2] = [2, 1, 0] := by decide
  have E1 := Lib.hid e1; clear e1
  go_enter Try.func40, Try.ntmps40
  go_wp2_with fail
  have F1 := (Fr.start w).lit p120 #[.int .i64 1, .int .i64 2, .int .i64 0] rfl 3 rfl (by omega) 3
  refine (order120 _ _ _ (F1.get 0 rfl)).mono ?_; rintro e w1 ⟨rfl, hb⟩
  have F2 := F1.below.keep hb
  clear F1 hb
  go_wp2_with fail
  have F3 := F2.lit [1, 2, 0] #[.int .i64 1, .int .i64 2, .int .i64 0] rfl 3 rfl (by omega) 3
  have F4 := F3.lit' [1, 0, 2] #[.int .i64 1, .int .i64 0, .int .i64 2] rfl 3 rfl (by omega) 3 (w1.heap.size + 1) (by simp)
  refine (permTimes [1, 2, 0] [1, 0, 2] 3 _ _ _ _ _ (F4.get 1 rfl) rfl HP.out (F4.get 0 rfl) rfl HQ.out (by omega)).mono ?_; rintro e w2 ⟨ad, cp, rfl, hcp, hf⟩
  rw [E1.out] at hf
  have F5 := (F4.call hf).sub (M := [_]) (List.singleton_sublist.2 List.mem_cons_self)
  clear F2 F3 F4 hf
  go_wp2_with fail
  refine (good2b _ w2.heap.size _ rfl).mono ?_; rintro e w' ⟨rfl, rfl⟩
  have F6 := F5.alloc (.cells #[.int .i64 0, .int .i64 0] 23)
  have F7 := F6.lit' [2, 1, 0] #[.int .i64 2, .int .i64 1, .int .i64 0] rfl 3 rfl (by omega) 3 (w2.heap.size + 1) (by simp)
  clear F5
  go_wp2_with fail
  refine (slEqual [2, 1, 0] [2, 1, 0] 3 3 _ _ _ _ _ (F7.get 1 rfl) (F7.get 0 rfl) rfl rfl (by omega) (by omega)).mono ?_; rintro e w3 ⟨rfl, hf⟩
  have F8 := F7.keep hf.bel
  rw [decide_eq_true (rfl : ([2, 1, 0] : List Int) = [2, 1, 0])]
  go_wp2_with fail
  go_ret
  exact ⟨rfl, F8.bel⟩

set_option maxRecDepth 100000 in
set_option maxHeartbeats 8000000 in
theorem permGroup_any (x y z : List Int) (nx ny nz : Nat) (a b c : Option Addr) (ca cb cc : Nat) (w : World) (h : Sa w a (ints x)) (hn : x.length = nx) (hc : nx ≤ ca) (hm : nx ≤ maxLen)
    (h' : Sa w b (ints y)) (hn' : y.length = ny) (hc' : ny ≤ cb) (hm' : ny ≤ maxLen) (h'' : Sa w c (ints z)) (hn'' : z.length = nz) (hc'' : nz ≤ cc) (hm'' : nz ≤ maxLen) :
    Calls Try.prog 12 #[.slice a nx ca, .slice b ny cb, .slice c nz cc] w fun e w' => e = .returned (.bool true) ∧ Below w.heap.size w w' := by
  have HN := Lib.hid hn; have HS := Lib.hid h; have HM := Lib.hid hm; have HN' := Lib.hid hn'; have HS' := Lib.hid h'; have HM' := Lib.hid hm'; have HN'' := Lib.hid hn''; have HS'' := Lib.hid h''; have HM'' := Lib.hid hm''
  unfold maxLen at hm hm' hm''
  obtain ⟨m, m1, m2, m3, m4, m5⟩ : ∃ m : Nat, m ≤ nx ∧ m ≤ ny ∧ m ≤ nz ∧ (m : Int) ≤ 10 ∧ (m = nx ∨ m = ny ∨ m = nz ∨ (m : Int) = 10) := ⟨min (min (min nx ny) nz) 10, by omega, by omega, by omega, by omega, by omega⟩
  have HMIN := Lib.hid (run_min4 #[3, 3, 3, 3] 3 nx ny nz 10 m m1 m2 m3 m4 m5)
  clear hn h hn' h' hn'' h'' m5 hm hm' hm''
  go_enter Try.func12, Try.ntmps12
  go_wp2_with fail
  refine (perms_any _).mono ?_; rintro e w1 ⟨rfl, hb⟩
  have F4 := (Fr.start w).keep hb
  clear hb
  have hmin := HMIN.out
  go_wp2_with fail
  clear hmin
  refine (permOf_any x nx _ _ m _ (F4.old HS.out) HN.out hc HM.out (by omega)).mono ?_; rintro e w3 ⟨ad3, n3, cp3, rfl, hn3, hc3, hf⟩
  have F5 := F4.call hf
  clear F4 hf
  go_wp2_with fail
  refine (permOf_any y ny _ _ m _ (F5.old HS'.out) HN'.out hc' HM'.out (by omega)).mono ?_; rintro e w4 ⟨ad4, n4, cp4, rfl, hn4, hc4, hf⟩
  have F6 := F5.call hf
  clear F5 hf
  go_wp2_with fail
  refine (permOf_any z nz _ _ m _ (F6.old HS''.out) HN''.out hc'' HM''.out (by omega)).mono ?_; rintro e w5 ⟨ad5, n5, cp5, rfl, hn5, hc5, hf⟩
  have F7 := Lib.hid (F6.call hf)
  clear F6 hf
  obtain ⟨lA, pA⟩ := permL_ok x m
  obtain ⟨lB, pB⟩ := permL_ok y m
  obtain ⟨lC, pC⟩ := permL_ok z m
  rw [HN.out, Nat.min_eq_left m1] at lA
  rw [HN'.out, Nat.min_eq_left m2] at lB
  rw [HN''.out, Nat.min_eq_left m3] at lC
  obtain rfl : n3 = m := by rw [← hn3, lA]
  obtain rfl : n4 = n3 := by rw [← hn4, lB]
  obtain rfl : n5 = n4 := by rw [← hn5, lC]
  have n10 : n5 ≤ 10 := by omega
  have PA := Lib.hid pA; have PB := Lib.hid pB; have PC := Lib.hid pC; have LA := Lib.hid lA; have LB := Lib.hid lB; have LC := Lib.hid lC
  clear pA pB pC lA lB lC hn3 hn4 hn5 m1 m2 m3 m4
  generalize permL x n5 = A at *
  generalize permL y n5 = B at *
  generalize permL z n5 = C at *
  have PAB := Lib.hid (tm_isP PA.out PB.out (by rw [LA.out, LB.out])); have LAB : Hid ((tmL A B).length = n5) := Lib.hid (by rw [tmL_len, LB.out])
  have PBC := Lib.hid (tm_isP PB.out PC.out (by rw [LB.out, LC.out])); have LBC : Hid ((tmL B C).length = n5) := Lib.hid (by rw [tmL_len, LC.out])
  have VA := Lib.hid (inv_isP PA.out); have LVA : Hid ((invL A).length = n5) := Lib.hid (by rw [invL_len, LA.out])
  have VB := Lib.hid (inv_isP PB.out); have LVB : Hid ((invL B).length = n5) := Lib.hid (by rw [invL_len, LB.out])
  have Q1 := Lib.hid (tm_assoc PA.out PB.out PC.out n5 LA.out LB.out LC.out)
  have Q2 := Lib.hid (inv_tm PA.out PB.out n5 LA.out LB.out)
  have Q3 := Lib.hid (tm_inv_both PA.out)
  have Q4 : Hid (∀ i, i < n5 → nth (tmL A (invL A)) i = i) := Lib.hid (fun i hi => tm_inv_right PA.out i (by rw [LA.out]; exact hi))
  go_wp2_with fail
  refine (permTimes A B n5 _ _ _ _ _ (F7.out.get 2 rfl) LA.out PA.out (F7.out.get 1 rfl) LB.out PB.out n10).mono ?_; rintro e w6 ⟨ad6, cp6, rfl, hc6, hf⟩
  have F8 := Lib.hid (F7.out.call hf)
  clear F7 hf
  go_wp2_with fail
  refine (permTimes B C n5 _ _ _ _ _ (F8.out.get 2 rfl) LB.out PB.out (F8.out.get 1 rfl) LC.out PC.out n10).mono ?_; rintro e w7 ⟨ad7, cp7, rfl, hc7, hf⟩
  have F9 := Lib.hid (F8.out.call hf)
  clear F8 hf
  go_wp2_with fail
  refine (permTimes (tmL A B) C n5 _ _ _ _ _ (F9.out.get 1 rfl) LAB.out PAB.out (F9.out.get 2 rfl) LC.out PC.out n10).mono ?_; rintro e w8 ⟨ad8, cp8, rfl, hc8, hf⟩
  have F10 := Lib.hid (F9.out.call hf)
  clear F9 hf
  go_wp2_with fail
  refine (permTimes A (tmL B C) n5 _ _ _ _ _ (F10.out.get 5 rfl) LA.out PA.out (F10.out.get 1 rfl) LBC.out PBC.out n10).mono ?_; rintro e w9 ⟨ad9, cp9, rfl, hc9, hf⟩
  have F11 := Lib.hid (F10.out.call hf)
  clear F10 hf
  go_wp2_with fail
  refine (permInv A n5 _ _ _ (F11.out.get 6 rfl) LA.out PA.out n10).mono ?_; rintro e w10 ⟨ad10, cp10, rfl, hc10, hf⟩
  have F12 := Lib.hid (F11.out.call hf)
  clear F11 hf
  go_wp2_with fail
  refine (permInv B n5 _ _ _ (F12.out.get 6 rfl) LB.out PB.out n10).mono ?_; rintro e w11 ⟨ad11, cp11, rfl, hc11, hf⟩
  have F13 := Lib.hid (F12.out.call hf)
  clear F12 hf
  go_wp2_with fail
  refine (permInv (tmL A B) n5 _ _ _ (F13.out.get 5 rfl) LAB.out PAB.out n10).mono ?_; rintro e w12 ⟨ad12, cp12, rfl, hc12, hf⟩
  have F14 := Lib.hid (F13.out.call hf)
  clear F13 hf
  go_wp2_with fail
  refine (permTimes (invL B) (invL A) n5 _ _ _ _ _ (F14.out.get 1 rfl) LVB.out VB.out (F14.out.get 2 rfl) LVA.out VA.out n10).mono ?_; rintro e w13 ⟨ad13, cp13, rfl, hc13, hf⟩
  have F15 := Lib.hid (F14.out.call hf)
  clear F14 hf
  go_wp2_with fail
  refine (permTimes A (invL A) n5 _ _ _ _ _ (F15.out.get 10 rfl) LA.out PA.out (F15.out.get 3 rfl) LVA.out VA.out n10).mono ?_; rintro e w14 ⟨ad14, cp14, rfl, hc14, hf⟩
  have F16 := Lib.hid (F15.out.call hf)
  clear F15 hf
  go_wp2_with fail
  refine (permTimes (invL A) A n5 _ _ _ _ _ (F16.out.get 4 rfl) LVA.out VA.out (F16.out.get 11 rfl) LA.out PA.out n10).mono ?_; rintro e w15 ⟨ad15, cp15, rfl, hc15, hf⟩
  have F17 := Lib.hid (F16.out.call hf)
  clear F16 hf
  go_wp2_with fail
  refine (good10b _ w15.heap.size _ rfl).mono ?_; rintro e w' ⟨rfl, rfl⟩
  have F18 := Lib.hid (F17.out.alloc (.cells #[.int .i64 0, .int .i64 0, .int .i64 0, .int .i64 0, .int .i64 0, .int .i64 0, .int .i64 0, .int .i64 0, .int .i64 0, .int .i64 0] 23))
  clear F17
  go_wp2_with fail
  refine (slEqual (tmL (tmL A B) C) (tmL A (tmL B C)) n5 n5 _ _ _ _ _ (F18.out.get 7 rfl) (F18.out.get 6 rfl) (by rw [tmL_len, LC.out]) (by rw [tmL_len, LBC.out]) (by omega) (by omega)).mono ?_; rintro e w16 ⟨rfl, hf⟩
  rw [decide_eq_true Q1.out]
  have F19 := Lib.hid (F18.out.keep hf.bel)
  clear F18 hf
  go_wp2_with fail
  refine (slEqual (invL (tmL A B)) (tmL (invL B) (invL A)) n5 n5 _ _ _ _ _ (F19.out.get 3 rfl) (F19.out.get 2 rfl) (by rw [invL_len, LAB.out]) (by rw [tmL_len, LVA.out]) (by omega) (by omega)).mono ?_; rintro e w17 ⟨rfl, hf⟩
  rw [decide_eq_true Q2.out]
  have F20 := Lib.hid (F19.out.keep hf.bel)
  clear F19 hf
  go_wp2_with fail
  refine (slSorted (tmL A (invL A)) n5 _ _ _ (F20.out.get 1 rfl) (by rw [tmL_len, LVA.out]) (by omega) (fun i hi => by rw [Q4.out i (by omega), Q4.out (i + 1) hi]; omega)).mono ?_; rintro e w18 ⟨rfl, hf⟩
  have F21 := Lib.hid (F20.out.keep hf.bel)
  clear F20 hf
  go_wp2_with fail
  refine (slEqual (tmL A (invL A)) (tmL (invL A) A) n5 n5 _ _ _ _ _ (F21.out.get 1 rfl) (F21.out.get 0 rfl) (by rw [tmL_len, LVA.out]) (by rw [tmL_len, LA.out]) (by omega) (by omega)).mono ?_; rintro e w19 ⟨rfl, hf⟩
  rw [decide_eq_true Q3.out]
  have F22 := Lib.hid (F21.out.keep hf.bel)
  clear F21 hf
  go_wp2_with fail
  go_ret
  exact ⟨rfl, F22.out.bel⟩
end Go.Proofs.Ytnjnndodfdghbaa
