/- The walk of the law SubsetPascal. -/
import Derived.Test.YtenkeekheaodaaaSub1
import Derived.Test.YtenkeekheaodaaaMathSum2
namespace Go.Proofs.Ytenkeekheaodaaa
open Go.RowKit

theorem emodN (x : Int) (n : Nat) (h : 0 < n) : ∃ m : Nat, m < n ∧ x % (n : Int) = m :=
  ⟨(x % n).toNat, by have := Int.emod_lt_of_pos x (b := n) (by omega); have := Int.emod_nonneg x (b := n) (by omega); omega, by have := Int.emod_nonneg x (b := n) (by omega); omega⟩
theorem vdm_all (b : Nat) : ∀ a k, sumTo (fun i => chN a i * chN b (k - i)) (k + 1) = chN (a + b) k
  | 0, k => by
    rw [sumTo_shift]
    rw [sumTo_congr (fun i => chN 0 (i + 1) * chN b (k - (i + 1))) (fun _ => 0) k (fun i _ => by simp [chN])]
    have : ∀ k, sumTo (fun _ => 0) k = 0 := fun k => by induction k with | zero => rfl | succ k ih => rw [sumTo_succ, ih]
    rw [this, chN_zero, Nat.sub_zero, Nat.one_mul, Nat.zero_add, Nat.add_zero]
  | a + 1, 0 => by simp [sumTo, chN_zero]
  | a + 1, k + 1 => by
    have h1 := vdm_all b a (k + 1)
    have h2 := vdm_all b a k
    rw [sumTo_shift] at h1 ⊢
    rw [sumTo_congr (fun i => chN (a + 1) (i + 1) * chN b (k + 1 - (i + 1))) (fun i => chN a i * chN b (k - i) + chN a (i + 1) * chN b (k + 1 - (i + 1))) (k + 1) (fun i _ => by rw [chN_ss, Nat.add_mul, show k + 1 - (i + 1) = k - i from by omega])]
    rw [sumTo_add, h2, chN_zero]
    rw [chN_zero] at h1
    rw [show a + 1 + b = (a + b) + 1 from by omega, chN_ss, ← h1]
    omega
theorem row_all : ∀ n, sumTo (chN n) (n + 1) = 2 ^ n
  | 0 => rfl
  | n + 1 => by
    have h := row_all n
    rw [sumTo_shift]
    rw [sumTo_congr (fun i => chN (n + 1) (i + 1)) (fun i => chN n i + chN n (i + 1)) (n + 1) (fun i _ => chN_ss n i), sumTo_add, h]
    have h2 := sumTo_shift (chN n) (n + 1)
    rw [sumTo_succ, h, chN_gt n (n + 1) (by omega), chN_zero] at h2
    rw [chN_zero, Nat.pow_succ]
    omega
theorem pow_tab : ∀ p : Nat, p < 16 → ((2 : Int) ^ (p + 1) == wrap64 (2 ^ (1 + p))) = true := by decide +kernel
def vdm (n m k i : Nat) : Nat := chN m i * chN (n - m) (k - i)
theorem Choose_i (x y : Int) (n k : Nat) (w : World) (hx : x = n) (hy : y = k) (hn : n ≤ 16) (hk : k ≤ 16) :
    Calls Try.prog 25 #[.int .i64 x, .int .i64 y] w fun e w' => e = .returned (.tuple #[.int .i64 (chN n k : Nat), .int .i64 0]) ∧ w = w' := by
  subst hx; subst hy; exact Choose_nat n k w hn hk

set_option maxHeartbeats 2000000 in
theorem pascal_any (x y z : Int) (w : World) :
    Calls Try.prog 7 #[.int .i64 x, .int .i64 y, .int .i64 z] w fun e w' => e = .returned (.bool true) ∧ Below w.heap.size w w' := by
  have h52 : chN 5 2 = 10 := by decide
  obtain ⟨p, hp, hx⟩ := emodN x 16 (by omega)
  obtain ⟨q, hq, hy⟩ := emodN y 16 (by omega)
  have HX : Hid (x % 16 = (p : Int)) := Lib.hid hx; clear hx
  have HY : Hid (y % 16 = (q : Int)) := Lib.hid hy; clear hy
  go_enter Try.func7, Try.ntmps7
  go_wp2_with fail
  refine (Choose_i 5 2 5 2 _ (by omega) (by omega) (by omega) (by omega)).mono ?_; rintro e w' ⟨rfl, rfl⟩
  rw [h52]
  clear h52
  go_wp2_with fail
  refine (within_any _ _ _ (by omega) (by omega)).mono ?_; rintro e w' ⟨rfl, rfl⟩
  rw [HX.out]
  go_wp2_with fail
  refine (within_any _ _ _ (by omega) (by omega)).mono ?_; rintro e w' ⟨rfl, rfl⟩
  rw [HY.out]
  clear HX HY
  go_wp2_with fail
  have B1 := chN_le16 (p + 1) (q + 1) (by omega)
  have B2 := chN_le16 p (q + 1) (by omega)
  have B3 := chN_le16 p q (by omega)
  have R := chN_ss p q
  generalize hA : chN (p + 1) (q + 1) = A at *
  generalize hB : chN p (q + 1) = B at *
  generalize hC : chN p q = C at *
  have E : ((A : Int) == (C : Int) + (B : Int)) = true := by rw [beq_iff_eq]; omega
  have E' : ((A : Int) == (B : Int) + (C : Int)) = true := by rw [beq_iff_eq]; omega
  have E'' : ((A : Int) != (B : Int) + (C : Int)) = false := by rw [bne_eq_false_iff_eq]; omega
  have h1 := Lib.hid hA; have h2 := Lib.hid hB; have h3 := Lib.hid hC
  clear hA hB hC R
  refine (Choose_i _ _ (p + 1) (q + 1) _ (by omega) (by omega) (by omega) (by omega)).mono ?_; rintro e w' ⟨rfl, rfl⟩
  rw [h1.out]
  go_wp2_with fail
  refine (Choose_i _ _ p (q + 1) _ (by omega) (by omega) (by omega) (by omega)).mono ?_; rintro e w' ⟨rfl, rfl⟩
  rw [h2.out]
  go_wp2_with fail
  refine (Choose_i _ _ p q _ (by omega) (by omega) (by omega) (by omega)).mono ?_; rintro e w' ⟨rfl, rfl⟩
  rw [h3.out]
  go_wp2_with fail
  refine (good3 _ _).mono ?_; rintro e w' ⟨rfl, rfl⟩
  obtain ⟨w1, hw1⟩ : ∃ w1, w1 = w.alloc (.cells #[.int .i64 0, .int .i64 0, .int .i64 0] 26) := ⟨_, rfl⟩
  have HB : Hid (Below w.heap.size w w1) := Lib.hid (by rw [hw1]; exact kin_alloc (Below.refl _ _) _)
  rw [← hw1]
  clear hw1
  go_wp2_with fail
  refine (within_any _ _ _ (by omega) (by omega)).mono ?_; rintro e w' ⟨rfl, rfl⟩
  obtain ⟨m, hm, hz⟩ := emodN z (p + 2) (by omega)
  have hz' : z % (1 + (p : Int) + 1) = m := by rw [← hz]; congr 1; omega
  rw [hz']
  clear hz hz'
  go_wp2_with fail
  have V : sumTo (vdm (p + 1) m (q + 1)) (q + 2) = A := by
    have := vdm_all (p + 1 - m) m (q + 1)
    rw [show m + (p + 1 - m) = p + 1 from by omega, h1.out] at this
    exact this
  have S1 : sumTo (vdm (p + 1) m (q + 1)) (q + 2) ≤ 65536 := by omega
  have HV := Lib.hid V; clear V
  go_loopw [15, 81] (fun a i wr => ∃ j : Nat, j ≤ q + 2 ∧ a = .int .i64 ((sumTo (vdm (p + 1) m (q + 1)) j : Nat) : Int) ∧ i = .int .i64 j ∧ Below w.heap.size w wr) (fun _ i _ => q + 2 - (intOf i).toNat)
  case atStart => exact ⟨0, by omega, rfl, rfl, HB.out⟩
  case round =>
    obtain ⟨j, hj, rfl, rfl, hbel⟩ := hrel
    have HBEL := Lib.hid hbel; clear hbel
    by_cases hlt : j < q + 2
    · have c1 := sumTo_pair (vdm (p + 1) m (q + 1)) hlt S1
      have P2 : ((chN m j : Nat) : Int) * ((chN (p + 1 - m) (q + 1 - j) : Nat) : Int) = ((vdm (p + 1) m (q + 1) j : Nat) : Int) := natMul _ _
      have b5 := chN_le16 m j (by omega)
      have b6 := chN_le16 (p + 1 - m) (q + 1 - j) (by omega)
      generalize hf : vdm (p + 1) m (q + 1) j = f at *
      generalize ha : sumTo (vdm (p + 1) m (q + 1)) j = G at *
      have g1 := Lib.hid hf; have g3 := Lib.hid ha
      clear hf ha
      go_wp2_with fail
      refine (Choose_i _ _ m j _ (by omega) (by omega) (by omega) (by omega)).mono ?_; rintro e w' ⟨rfl, rfl⟩
      go_wp2_with fail
      refine (Choose_i _ _ (p + 1 - m) (q + 1 - j) _ (by omega) (by omega) (by omega) (by omega)).mono ?_; rintro e w' ⟨rfl, rfl⟩
      go_wp2_with fail
      refine (good2 _ _).mono ?_; rintro e w' ⟨rfl, rfl⟩
      go_wp2_with fail
      go_roundw
      case rel => exact ⟨j + 1, by omega, val_int (by rw [sumTo_succ, g3.out, g1.out]; rfl), by go_num, kin_alloc HBEL.out _⟩
      case measure => simp [intOf]; omega
    · obtain rfl : j = q + 2 := by omega
      rw [HV.out]
      clear S1
      rw [show ((q + 2 : Nat) : Int) = (q : Int) + 2 from rfl]
      have S2 : sumTo (chN (p + 1)) (p + 2) ≤ 65536 := by
        rw [row_all]; exact Nat.le_trans (Nat.pow_le_pow_right (by omega) (show p + 1 ≤ 16 by omega)) (by decide)
      go_wp2_with fail
      go_loop [16, 113] (fun a i => ∃ j : Nat, j ≤ p + 2 ∧ a = .int .i64 ((sumTo (chN (p + 1)) j : Nat) : Int) ∧ i = .int .i64 j) (fun _ i => p + 2 - (intOf i).toNat)
      case atStart => exact ⟨0, by omega, rfl, rfl⟩
      case round =>
        obtain ⟨j, hj, rfl, rfl⟩ := hrel
        by_cases hlt : j < p + 2
        · have c1 := sumTo_pair (chN (p + 1)) hlt S2
          generalize hf : chN (p + 1) j = f at *
          generalize ha : sumTo (chN (p + 1)) j = G at *
          have g1 := Lib.hid hf; have g3 := Lib.hid ha
          clear hf ha
          go_wp2_with fail
          refine (Choose_i _ _ (p + 1) j _ (by omega) (by omega) (by omega) (by omega)).mono ?_; rintro e w' ⟨rfl, rfl⟩
          rw [g1.out]
          go_wp2_with fail
          go_round
          case rel => exact ⟨j + 1, by omega, val_int (by rw [sumTo_succ, g3.out, g1.out]; rfl), by go_num⟩
          case measure => simp [intOf]; omega
        · obtain rfl : j = p + 2 := by omega
          rw [row_all]
          clear S2
          go_wp2_with fail
          go_ret
          exact ⟨ret_bool (pow_tab p hp), HBEL.out⟩
end Go.Proofs.Ytenkeekheaodaaa
