/- The walks of the laws SumsFind and SumsOrder. -/
import Derived.Test.YtgblmbhbbjgdiaaSum
import Derived.Test.YtgblmbhbbjgdiaaPairs
namespace Go.Proofs.Ytgblmbhbbjgdiaa
open Go.RowKit

set_option maxRecDepth 100000 in
set_option maxHeartbeats 4000000 in
theorem sumsLive_any (w : World) : Calls Try.prog 13 #[] w fun e w' => e = .returned (.bool true) ∧ Below w.heap.size w w' := by
  have Z := Lib.hid (zero_ok 3 (by omega) (by omega))
  have A1 : Hid (addV (List.replicate 3 0) 1 5 = ([0, 5, 0], 0)) := Lib.hid (by decide)
  have Z2 : Hid (VOk [0, 5, 0] 3) := Lib.hid (by have := addV_ok Z.out 1 (by omega) 5; rw [A1.out] at this; exact this)
  have P1 : Hid (pre [0, 5, 0] 2 = 5) := Lib.hid (by decide)
  have P2 : Hid (pre [0, 5, 0] 1 = 0) := Lib.hid (by decide)
  go_enter Try.func13, Try.ntmps13
  go_wp2_with fail
  refine (sumNew 3 _ (by omega) (by omega)).mono ?_; rintro e w1 ⟨B, G, hBG, rfl, F1⟩
  go_wp2_with fail
  refine (sumAdd _ 3 1 5 B G _ Z.out (by omega) (by omega) (by omega) hBG F1).mono ?_; rintro e w2 ⟨rfl, F2⟩
  rw [A1.out] at F2 ⊢
  clear F1
  go_wp2_with fail
  refine (sumAhead [0, 5, 0] 3 2 B G _ Z2.out (by omega) F2.box.1 F2.box.2).mono ?_; rintro e w' ⟨rfl, rfl⟩
  rw [P1.out]
  go_wp2_with fail
  refine (sumFind' [0, 5, 0] 3 1 4 B G _ Z2.out (by omega) (by omega) (by omega) (by rw [P2.out]; omega) (by rw [P1.out]; omega) F2.box.1 F2.box.2).mono ?_; rintro e w' ⟨rfl, rfl⟩
  go_wp2_with fail
  refine (good3b _ w2.heap.size _ rfl).mono ?_; rintro e w' ⟨rfl, rfl⟩
  have F3 := F2.alloc (.cells #[.int .i64 0, .int .i64 0, .int .i64 0] 26)
  go_wp2_with fail
  go_ret
  exact ⟨rfl, F3.bel⟩

set_option maxRecDepth 100000 in
set_option maxHeartbeats 8000000 in
theorem sumsFind_any (n0 x0 : Int) (l : List Int) (len : Nat) (a : Option Addr) (cap : Nat) (w : World) (h : Sa w a (ints l)) (hl : l.length = 2 * len) (hm : len ≤ maxLen) (hx : (Lit.int .i64 x0).wf = true) :
    Calls Try.prog 3 #[.int .i64 n0, .slice a len cap, .int .i64 x0] w fun e w' => e = .returned (.bool true) ∧ Below w.heap.size w w' := by
  unfold maxLen at hm
  have HS := Lib.hid h; have HL := Lib.hid hl
  have hx2 : x0 ≤ 9223372036854775807 := by simp [Lit.wf] at hx; omega
  obtain ⟨n, hn, n1, n64⟩ : ∃ n : Nat, 1 + n0 % 64 = (n : Int) ∧ 1 ≤ n ∧ n ≤ 64 := ⟨(1 + n0 % 64).toNat, by omega, by omega, by omega⟩
  have HN := Lib.hid hn
  have Z := Lib.hid (zero_ok n n1 n64)
  clear h hl hx
  go_enter Try.func3, Try.ntmps3
  go_wp2_with fail
  refine (sumsLive_any _).mono ?_; rintro e w1 ⟨rfl, hb⟩
  have F0 := (Fr.start w).keep hb
  clear hb
  go_wp2_with fail
  refine (within_any _ _ _ (by omega) (by omega)).mono ?_; rintro e w' ⟨rfl, rfl⟩
  go_wp2_with fail
  clear hn
  refine (sumNew n _ n1 n64).mono ?_; rintro e w2 ⟨B, G, hBG, rfl, hf⟩
  have F1 := F0.call hf
  clear F0 hf
  go_wp2_with fail
  go_loopw [41] (fun i wr => ∃ (k : Nat) (v : List Int), i = .int .i64 k ∧ k ≤ len ∧ Hid (VOk v n) ∧ Fr w wr [treeE G v n, boxE B G n]) (fun i _ => len - (intOf i).toNat)
  case atStart => exact ⟨0, _, rfl, by omega, Z, F1⟩
  case round =>
    obtain ⟨k, v, rfl, hk, HV, hfr⟩ := hrel
    clear F1
    by_cases hlt : k < len
    · obtain ⟨b, off, rfl, hb, c1⟩ := (hfr.old HS.out).int (k * 2) (by rw [HL.out]; omega)
      obtain ⟨_, _, e, _, c2⟩ := (hfr.old HS.out).int (k * 2 + 1) (by rw [HL.out]; omega)
      cases e
      obtain ⟨y, hy⟩ : ∃ y, nth l (k * 2) = y := ⟨_, rfl⟩
      obtain ⟨z, hz⟩ : ∃ z, nth l (k * 2 + 1) = z := ⟨_, rfl⟩
      rw [hy] at c1
      rw [hz, ← Nat.add_assoc] at c2
      clear hy hz
      have F2 := hfr.alloc (.cells #[.int .i64 y, .int .i64 z] 29)
      have HF2 := Lib.hid F2.drew
      have z1 := Int.emod_nonneg z (b := 100) (by omega)
      have z2 := Int.emod_lt_of_pos z (b := 100) (by omega)
      obtain ⟨i, hi, hin⟩ : ∃ i : Nat, y % (n : Int) = i ∧ i < n := ⟨(y % (n : Int)).toNat, by have := Int.emod_nonneg y (b := (n : Int)) (by omega); omega, by have := Int.emod_nonneg y (b := (n : Int)) (by omega); have := Int.emod_lt_of_pos y (b := (n : Int)) (by omega); omega⟩
      obtain ⟨u, hu⟩ : ∃ u, z % 100 = u := ⟨_, rfl⟩
      rw [hu] at z1 z2
      have HV2 := Lib.hid (addV_ok HV.out i hin u)
      have HI := Lib.hid hi; have HU := Lib.hid hu
      clear hfr F2 hi hu
      go_wp2_with fail
      go_region_with (first
        | (go_at_call 16; refine (sumAdd v n i u B G _ HV.out hin (by omega) (by omega) hBG HF2.out).mono ?_; rintro e w4 ⟨rfl, hf4⟩; have HF4 := Lib.hid hf4; clear hf4)
        | (go_at_call_of 14 (Value.int .i64 y); refine (within_any _ _ _ (by omega) (by omega)).mono ?_; rintro e w' ⟨rfl, rfl⟩; rw [HI.out])
        | (go_at_call 14; refine (within_any _ _ _ (by omega) (by omega)).mono ?_; rintro e w' ⟨rfl, rfl⟩; rw [HU.out]))
      all_goals
        go_wp2_with fail
        exact ⟨⟨k + 1, _, by simp, by omega, HV2, HF4.out⟩, by simp only [intOf]; omega⟩
    · have c0 := hfr.box.1
      have p1 := pre_bd HV.out n n64
      obtain ⟨A, hA⟩ : ∃ A, pre v n = A := ⟨_, rfl⟩
      rw [hA] at p1
      have HA := Lib.hid hA
      have HF := Lib.hid hfr
      clear hfr hA
      go_wp2_with fail
      refine (sumAhead v n n B G _ HV.out (Nat.le_refl _) c0 HF.out.box.2).mono ?_; rintro e w' ⟨rfl, rfl⟩
      rw [HA.out]
      go_wp2_with fail
      by_cases hneg : x0 < 0
      · have d1 : decide (x0 < 0) = true := decide_eq_true hneg
        refine (sumFindNeg x0 _ _ hneg).mono ?_; rintro e w' ⟨rfl, rfl⟩
        go_wp2_with fail
        go_ret
        exact ⟨rfl, HF.out.bel⟩
      · refine (sumFind v n x0 B G _ HV.out (by omega) hx2 c0 HF.out.box.2).mono ?_; rintro e w' ⟨rfl, j, hj, j1, hj2⟩
        rcases hj2 with ⟨rfl, rfl⟩ | ⟨hjn, j2, rfl⟩
        · rw [HA.out] at j1
          have d1 : decide (A ≤ x0) = true := decide_eq_true j1
          go_wp2_with fail
          go_ret
          exact ⟨rfl, HF.out.bel⟩
        · have q1 := pre_bd HV.out j (by omega)
          have q2 := pre_bd HV.out (j + 1) (by omega)
          have q3 := pre_le HV.out (show j + 1 ≤ n by omega)
          rw [HA.out] at q3
          obtain ⟨C, hC⟩ : ∃ C, pre v j = C := ⟨_, rfl⟩
          obtain ⟨D, hD⟩ : ∃ D, pre v (j + 1) = D := ⟨_, rfl⟩
          have HC := Lib.hid hC; have HD := Lib.hid hD
          rw [hC] at j1 q1
          rw [hD] at j2 q2 q3
          have CD : C < D := by omega
          obtain ⟨q1, q4⟩ := q1
          obtain ⟨q2, q5⟩ := q2
          have q6 : C ≤ 64000000000 := by omega
          have q7 : D ≤ 64000000000 := by omega
          have d1 : decide ((j : Int) < 0) = false := decide_eq_false (by omega)
          have d2 : decide ((n : Int) ≤ (j : Int)) = false := decide_eq_false (by omega)
          have d3 : decide (C ≤ x0) = true := decide_eq_true j1
          have d4 : decide (x0 < D) = true := decide_eq_true j2
          have d5 : decide (D ≤ A) = true := decide_eq_true q3
          clear hC hD p1
          go_wp2_with fail
          refine (sumAhead v n j B G _ HV.out (by omega) c0 HF.out.box.2).mono ?_; rintro e w' ⟨rfl, rfl⟩
          rw [HC.out]
          go_wp2_with fail
          refine (sumAhead v n (j + 1) B G _ HV.out (by omega) c0 HF.out.box.2).mono ?_; rintro e w' ⟨rfl, rfl⟩
          rw [HD.out]
          go_wp2_with fail
          refine (sumFind' v n j C B G _ HV.out (by omega) (by omega) hjn (by rw [HC.out]; omega) (by rw [HD.out]; omega) c0 HF.out.box.2).mono ?_; rintro e w' ⟨rfl, rfl⟩
          go_wp2_with fail
          refine (sumFind' v n j (D - 1) B G _ HV.out (by omega) (by omega) hjn (by rw [HC.out]; omega) (by rw [HD.out]; omega) c0 HF.out.box.2).mono ?_; rintro e w' ⟨rfl, rfl⟩
          go_wp2_with fail
          refine (good5b _ wr.heap.size _ rfl).mono ?_; rintro e w' ⟨rfl, rfl⟩
          have F5 := Lib.hid (HF.out.alloc (.cells #[.int .i64 0, .int .i64 0, .int .i64 0, .int .i64 0, .int .i64 0] 26))
          go_wp2_with fail
          go_ret
          exact ⟨by simp, F5.out.bel⟩
end Go.Proofs.Ytgblmbhbbjgdiaa
