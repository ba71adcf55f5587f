/- The walks of the laws BlocksTouchard, BlocksStirling. -/
import Derived.Test.YtenkeekheaodaaaBlkC
import Derived.Test.YtenkeekheaodaaaSub1
namespace Go.Proofs.Ytenkeekheaodaaa
open Go.RowKit

theorem bel_small : ∀ n, n < 11 → belN n ≤ 1000000 := by decide +kernel
theorem bel_t2 : ∀ n, n < 9 → belN n + belN (n + 1) ≤ belN (n + 2) ∧ (belN (n + 2) - belN n - belN (n + 1)) % 2 = 0 := by decide +kernel
theorem bel_t3 : ∀ n, n < 8 → belN n + belN (n + 1) ≤ belN (n + 3) ∧ (belN (n + 3) - belN n - belN (n + 1)) % 3 = 0 := by decide +kernel
theorem bel_t5 : ∀ n, n < 6 → belN n + belN (n + 1) ≤ belN (n + 5) ∧ (belN (n + 5) - belN n - belN (n + 1)) % 5 = 0 := by decide +kernel
theorem bel_t7 : ∀ n, n < 4 → belN n + belN (n + 1) ≤ belN (n + 7) ∧ (belN (n + 7) - belN n - belN (n + 1)) % 7 = 0 := by decide +kernel

theorem emod_nat (x : Int) (n : Nat) (h : 0 < n) : ∃ m : Nat, m < n ∧ x % (n : Int) = m :=
  ⟨(x % n).toNat, by have := Int.emod_lt_of_pos x (b := n) (by omega); have := Int.emod_nonneg x (b := n) (by omega); omega, by have := Int.emod_nonneg x (b := n) (by omega); omega⟩

set_option maxHeartbeats 1000000 in
theorem touchard_any (x y : Int) (w : World) :
    Calls Try.prog 8 #[.int .i64 x, .int .i64 y] w fun e w' => e = .returned (.bool true) ∧ Below w.heap.size w w' := by
  obtain ⟨k, hk, hy⟩ := emod_nat y 4 (by omega)
  have HY := Lib.hid hy; clear hy
  go_enter Try.func8, Try.ntmps8
  go_wp2_with fail
  refine (heaps_any _).mono ?_; rintro e w1 ⟨rfl, hb⟩
  have HB := Lib.hid hb; clear hb
  go_wp2_with fail
  refine (within_any _ _ _ (by omega) (by omega)).mono ?_; rintro e w' ⟨rfl, rfl⟩
  have h4 : y % 4 = (k : Int) := HY.out
  rw [h4]
  clear h4 HY
  obtain (rfl | rfl | rfl | rfl) : k = 0 ∨ k = 1 ∨ k = 2 ∨ k = 3 := by omega
  · go_wp2_with fail
    refine (within_any _ _ _ (by omega) (by omega)).mono ?_; rintro e w' ⟨rfl, rfl⟩
    obtain ⟨n, hn, hx⟩ := emod_nat x 9 (by omega)
    have hx' : x % 9 = (n : Int) := hx
    rw [hx']
    clear hx hx'
    have T := bel_t2 n hn
    have b1 := bel_small (n + 2) (by omega)
    have b2 := bel_small n (by omega)
    have b3 := bel_small (n + 1) (by omega)
    generalize hA : belN (n + 2) = A at *
    generalize hB : belN n = B at *
    generalize hC : belN (n + 1) = C at *
    have le : B + C ≤ A := T.1
    have E : (((A : Int) - (B : Int) - (C : Int)) % 2 == 0) = true := by
      have := T.2; rw [beq_iff_eq]; omega
    have HA := Lib.hid hA; have HB1 := Lib.hid hB; have HC := Lib.hid hC
    clear hA hB hC T
    go_wp2_with fail
    rw [show (n : Int) + 2 = ((n + 2 : Nat) : Int) from rfl]
    refine (blkAll_nat (n + 2) _ (by omega)).mono ?_; rintro e w2 ⟨rfl, hb⟩
    rw [HA.out]
    have HB2 := Lib.hid (kin_trans (kin_alloc HB.out _) hb); clear hb
    go_wp2_with fail
    refine (blkAll_nat n _ (by omega)).mono ?_; rintro e w3 ⟨rfl, hb⟩
    rw [HB1.out]
    have HB3 := Lib.hid (kin_trans HB2.out hb); clear hb
    go_wp2_with fail
    rw [show (n : Int) + 1 = ((n + 1 : Nat) : Int) from rfl]
    refine (blkAll_nat (n + 1) _ (by omega)).mono ?_; rintro e w4 ⟨rfl, hb⟩
    rw [HC.out]
    have HB4 := Lib.hid (kin_trans HB3.out hb); clear hb
    go_wp2_with fail
    refine (good3 _ _).mono ?_; rintro e w' ⟨rfl, rfl⟩
    go_wp2_with fail
    go_ret
    exact ⟨rfl, kin_alloc HB4.out _⟩
  · go_wp2_with fail
    refine (within_any _ _ _ (by omega) (by omega)).mono ?_; rintro e w' ⟨rfl, rfl⟩
    obtain ⟨n, hn, hx⟩ := emod_nat x 8 (by omega)
    have hx' : x % 8 = (n : Int) := hx
    rw [hx']
    clear hx hx'
    have T := bel_t3 n hn
    have b1 := bel_small (n + 3) (by omega)
    have b2 := bel_small n (by omega)
    have b3 := bel_small (n + 1) (by omega)
    generalize hA : belN (n + 3) = A at *
    generalize hB : belN n = B at *
    generalize hC : belN (n + 1) = C at *
    have le : B + C ≤ A := T.1
    have E : (((A : Int) - (B : Int) - (C : Int)) % 3 == 0) = true := by
      have := T.2; rw [beq_iff_eq]; omega
    have HA := Lib.hid hA; have HB1 := Lib.hid hB; have HC := Lib.hid hC
    clear hA hB hC T
    go_wp2_with fail
    rw [show (n : Int) + 3 = ((n + 3 : Nat) : Int) from rfl]
    refine (blkAll_nat (n + 3) _ (by omega)).mono ?_; rintro e w2 ⟨rfl, hb⟩
    rw [HA.out]
    have HB2 := Lib.hid (kin_trans (kin_alloc HB.out _) hb); clear hb
    go_wp2_with fail
    refine (blkAll_nat n _ (by omega)).mono ?_; rintro e w3 ⟨rfl, hb⟩
    rw [HB1.out]
    have HB3 := Lib.hid (kin_trans HB2.out hb); clear hb
    go_wp2_with fail
    rw [show (n : Int) + 1 = ((n + 1 : Nat) : Int) from rfl]
    refine (blkAll_nat (n + 1) _ (by omega)).mono ?_; rintro e w4 ⟨rfl, hb⟩
    rw [HC.out]
    have HB4 := Lib.hid (kin_trans HB3.out hb); clear hb
    go_wp2_with fail
    refine (good3 _ _).mono ?_; rintro e w' ⟨rfl, rfl⟩
    go_wp2_with fail
    go_ret
    exact ⟨rfl, kin_alloc HB4.out _⟩
  · go_wp2_with fail
    refine (within_any _ _ _ (by omega) (by omega)).mono ?_; rintro e w' ⟨rfl, rfl⟩
    obtain ⟨n, hn, hx⟩ := emod_nat x 6 (by omega)
    have hx' : x % 6 = (n : Int) := hx
    rw [hx']
    clear hx hx'
    have T := bel_t5 n hn
    have b1 := bel_small (n + 5) (by omega)
    have b2 := bel_small n (by omega)
    have b3 := bel_small (n + 1) (by omega)
    generalize hA : belN (n + 5) = A at *
    generalize hB : belN n = B at *
    generalize hC : belN (n + 1) = C at *
    have le : B + C ≤ A := T.1
    have E : (((A : Int) - (B : Int) - (C : Int)) % 5 == 0) = true := by
      have := T.2; rw [beq_iff_eq]; omega
    have HA := Lib.hid hA; have HB1 := Lib.hid hB; have HC := Lib.hid hC
    clear hA hB hC T
    go_wp2_with fail
    rw [show (n : Int) + 5 = ((n + 5 : Nat) : Int) from rfl]
    refine (blkAll_nat (n + 5) _ (by omega)).mono ?_; rintro e w2 ⟨rfl, hb⟩
    rw [HA.out]
    have HB2 := Lib.hid (kin_trans (kin_alloc HB.out _) hb); clear hb
    go_wp2_with fail
    refine (blkAll_nat n _ (by omega)).mono ?_; rintro e w3 ⟨rfl, hb⟩
    rw [HB1.out]
    have HB3 := Lib.hid (kin_trans HB2.out hb); clear hb
    go_wp2_with fail
    rw [show (n : Int) + 1 = ((n + 1 : Nat) : Int) from rfl]
    refine (blkAll_nat (n + 1) _ (by omega)).mono ?_; rintro e w4 ⟨rfl, hb⟩
    rw [HC.out]
    have HB4 := Lib.hid (kin_trans HB3.out hb); clear hb
    go_wp2_with fail
    refine (good3 _ _).mono ?_; rintro e w' ⟨rfl, rfl⟩
    go_wp2_with fail
    go_ret
    exact ⟨rfl, kin_alloc HB4.out _⟩
  · go_wp2_with fail
    refine (within_any _ _ _ (by omega) (by omega)).mono ?_; rintro e w' ⟨rfl, rfl⟩
    obtain ⟨n, hn, hx⟩ := emod_nat x 4 (by omega)
    have hx' : x % 4 = (n : Int) := hx
    rw [hx']
    clear hx hx'
    have T := bel_t7 n hn
    have b1 := bel_small (n + 7) (by omega)
    have b2 := bel_small n (by omega)
    have b3 := bel_small (n + 1) (by omega)
    generalize hA : belN (n + 7) = A at *
    generalize hB : belN n = B at *
    generalize hC : belN (n + 1) = C at *
    have le : B + C ≤ A := T.1
    have E : (((A : Int) - (B : Int) - (C : Int)) % 7 == 0) = true := by
      have := T.2; rw [beq_iff_eq]; omega
    have HA := Lib.hid hA; have HB1 := Lib.hid hB; have HC := Lib.hid hC
    clear hA hB hC T
    go_wp2_with fail
    rw [show (n : Int) + 7 = ((n + 7 : Nat) : Int) from rfl]
    refine (blkAll_nat (n + 7) _ (by omega)).mono ?_; rintro e w2 ⟨rfl, hb⟩
    rw [HA.out]
    have HB2 := Lib.hid (kin_trans (kin_alloc HB.out _) hb); clear hb
    go_wp2_with fail
    refine (blkAll_nat n _ (by omega)).mono ?_; rintro e w3 ⟨rfl, hb⟩
    rw [HB1.out]
    have HB3 := Lib.hid (kin_trans HB2.out hb); clear hb
    go_wp2_with fail
    rw [show (n : Int) + 1 = ((n + 1 : Nat) : Int) from rfl]
    refine (blkAll_nat (n + 1) _ (by omega)).mono ?_; rintro e w4 ⟨rfl, hb⟩
    rw [HC.out]
    have HB4 := Lib.hid (kin_trans HB3.out hb); clear hb
    go_wp2_with fail
    refine (good3 _ _).mono ?_; rintro e w' ⟨rfl, rfl⟩
    go_wp2_with fail
    go_ret
    exact ⟨rfl, kin_alloc HB4.out _⟩

def bst (n i : Nat) : Nat := belN i * chN (n - 1) i
theorem bst_tab : ∀ n, n < 11 → 0 < n → sumTo (bst n) n = belN n := by decide +kernel

set_option maxHeartbeats 1000000 in
theorem stirling_any (x y : Int) (w : World) :
    Calls Try.prog 14 #[.int .i64 x, .int .i64 y] w fun e w' => e = .returned (.bool true) ∧ Below w.heap.size w w' := by
  obtain ⟨p, hp, hx⟩ := emod_nat x 10 (by omega)
  obtain ⟨q, hq, hy⟩ := emod_nat y 10 (by omega)
  have HX : Hid (x % 10 = (p : Int)) := Lib.hid hx; clear hx
  have HY : Hid (y % 10 = (q : Int)) := Lib.hid hy; clear hy
  go_enter Try.func14, Try.ntmps14
  go_wp2_with fail
  refine (heaps_any _).mono ?_; rintro e w1 ⟨rfl, hb⟩
  have HB := Lib.hid hb; clear hb
  go_wp2_with fail
  refine (within_any _ _ _ (by omega) (by omega)).mono ?_; rintro e w' ⟨rfl, rfl⟩
  rw [HX.out]
  go_wp2_with fail
  refine (within_any _ _ _ (by omega) (by omega)).mono ?_; rintro e w' ⟨rfl, rfl⟩
  rw [HY.out]
  clear HX HY
  go_wp2_with fail
  rw [show (1 : Int) + (p : Int) = ((p + 1 : Nat) : Int) from by omega, show (1 : Int) + (q : Int) = ((q + 1 : Nat) : Int) from by omega]
  have b1 := stN_small (p + 1) (by omega) (q + 1) (by omega)
  have b2 := stN_small p (by omega) (q + 1) (by omega)
  have b3 := stN_small p (by omega) q (by omega)
  have b4 := bel_small (p + 1) (by omega)
  have R : stN (p + 1) (q + 1) = (q + 1) * stN p (q + 1) + stN p q := rfl
  have P1 : ((q : Int) + 1) * ((stN p (q + 1) : Nat) : Int) = (((q + 1) * stN p (q + 1) : Nat) : Int) := natMul (q + 1) _
  have hs := bst_tab (p + 1) (by omega) (by omega)
  have S1 : sumTo (bst (p + 1)) (p + 1) ≤ 1000000 := by omega
  have HS := Lib.hid hs; clear hs
  refine (blkCount_nat (p + 1) (q + 1) _ (by omega) (by omega)).mono ?_; rintro e w2 ⟨rfl, hb⟩
  have HB2 := Lib.hid (kin_trans HB.out hb); clear hb
  generalize hm : (q + 1) * stN p (q + 1) = M at *
  generalize hA : stN (p + 1) (q + 1) = A at *
  generalize hB : stN p (q + 1) = B at *
  generalize hC : stN p q = C at *
  generalize hD : belN (p + 1) = D at *
  have E : ((A : Int) == (M : Int) + (C : Int)) = true := by rw [beq_iff_eq]; omega
  have le : M + C ≤ 1000000 := by omega
  have h2 := Lib.hid hB; have h3 := Lib.hid hC; have h4 := Lib.hid hD
  clear hm hA hB hC hD R
  go_wp2_with fail
  rw [show (q : Int) + 1 = ((q + 1 : Nat) : Int) from rfl]
  refine (blkCount_nat p (q + 1) _ (by omega) (by omega)).mono ?_; rintro e w3 ⟨rfl, hb⟩
  rw [h2.out]
  have HB3 := Lib.hid (kin_trans HB2.out hb); clear hb
  go_wp2_with fail
  refine (blkCount_nat p q _ (by omega) (by omega)).mono ?_; rintro e w4 ⟨rfl, hb⟩
  rw [h3.out]
  have HB4 := Lib.hid (kin_trans HB3.out hb); clear hb
  go_wp2_with fail
  rw [show (p : Int) + 1 = ((p + 1 : Nat) : Int) from rfl]
  refine (blkAll_nat (p + 1) _ (by omega)).mono ?_; rintro e w5 ⟨rfl, hb⟩
  rw [h4.out]
  have HB5 := Lib.hid (kin_trans HB4.out hb); clear hb
  go_wp2_with fail
  go_loopw [13, 54] (fun a i wr => ∃ j : Nat, j ≤ p + 1 ∧ a = .int .i64 ((sumTo (bst (p + 1)) j : Nat) : Int) ∧ i = .int .i64 j ∧ Below w.heap.size w wr) (fun _ i _ => p + 1 - (intOf i).toNat)
  case atStart => exact ⟨0, by omega, rfl, rfl, HB5.out⟩
  case round =>
    obtain ⟨j, hj, rfl, rfl, hbel⟩ := hrel
    have HBEL := Lib.hid hbel; clear hbel
    by_cases hlt : j < p + 1
    · have c1 := sumTo_pair (bst (p + 1)) hlt S1
      have P2 : ((belN j : Nat) : Int) * ((chN p j : Nat) : Int) = ((bst (p + 1) j : Nat) : Int) := natMul _ _
      have b5 := bel_small j (by omega)
      have b6 := chN_le16 p j (by omega)
      generalize hf : bst (p + 1) j = f at *
      generalize ha : sumTo (bst (p + 1)) j = G at *
      have g1 := Lib.hid hf; have g3 := Lib.hid ha
      clear hf ha
      go_wp2_with fail
      refine (blkAll_nat j _ (by omega)).mono ?_; rintro e w' ⟨rfl, hb⟩
      have HB6 := Lib.hid (kin_trans HBEL.out hb); clear hb
      go_wp2_with fail
      refine (Choose_nat p j _ (by omega) (by omega)).mono ?_; rintro e w' ⟨rfl, rfl⟩
      go_wp2_with fail
      refine (good2 _ _).mono ?_; rintro e w' ⟨rfl, rfl⟩
      go_wp2_with fail
      go_roundw
      case rel => exact ⟨j + 1, by omega, val_int (by rw [sumTo_succ, g3.out, g1.out]; rfl), by go_num, kin_alloc HB6.out _⟩
      case measure => simp [intOf]; omega
    · obtain rfl : j = p + 1 := by omega
      rw [HS.out]
      go_wp2_with fail
      refine (good4 _ _).mono ?_; rintro e w' ⟨rfl, rfl⟩
      go_wp2_with fail
      go_ret
      exact ⟨rfl, kin_alloc HBEL.out _⟩
end Go.Proofs.Ytenkeekheaodaaa
