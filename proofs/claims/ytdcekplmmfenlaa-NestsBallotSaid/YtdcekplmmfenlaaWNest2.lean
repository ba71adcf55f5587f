/- The walk of the law NestsBallot. -/
import Derived.Test.YtdcekplmmfenlaaNest2
import Derived.Test.YtdcekplmmfenlaaNest3
import Derived.Test.YtdcekplmmfenlaaSub1
import Derived.Test.YtdcekplmmfenlaaMathSum
namespace Go.Proofs.Ytdcekplmmfenlaa
open Go.RowKit

theorem ahead_i (x y : Int) (a b : Nat) (w : World) (hx : x = a) (hy : y = b) (ha : a ≤ 15) (hb : b ≤ 15) :
    Calls Try.prog 19 #[.int .i64 x, .int .i64 y] w fun e w' => e = .returned (.tuple #[.int .i64 (ahN a b : Nat), .int .i64 0]) ∧ Below w.heap.size w w' := by
  subst hx; subst hy; exact ahead_nat a b w ha hb
theorem ball_tab : ∀ a, a < 9 → ∀ b, b < 9 → (a ≤ b → ahN a b = 0) ∧ (b < a → ahN a b * (a + b) = chN (a + b) a * (a - b)) ∧ ahN (b + 1) b = catL b := by decide +kernel

set_option maxHeartbeats 1000000 in
theorem ballot_any (x y : Int) (w : World) :
    Calls Try.prog 4 #[.int .i64 x, .int .i64 y] w fun e w' => e = .returned (.bool true) ∧ Below w.heap.size w w' := by
  obtain ⟨a, ha, hx⟩ : ∃ m : Nat, m < 9 ∧ x % 9 = m := ⟨(x % 9).toNat, by omega, by omega⟩
  obtain ⟨b, hb, hy⟩ : ∃ m : Nat, m < 9 ∧ y % 9 = m := ⟨(y % 9).toNat, by omega, by omega⟩
  have HX := Lib.hid hx; have HY := Lib.hid hy; clear hx hy
  have e31 : ahN 3 1 = 2 := by decide
  obtain ⟨t1, t2, t3⟩ := ball_tab a ha b hb
  rw [catL_eq] at t3
  go_enter Try.func4, Try.ntmps4
  go_wp2_with fail
  refine (ahead_i _ _ 3 1 _ rfl rfl (by omega) (by omega)).mono ?_; rintro e w1 ⟨rfl, hb⟩
  rw [e31]
  have HB := Lib.hid hb; clear hb e31
  have T1 := Lib.hid t1; have T2 := Lib.hid t2; have T3 := Lib.hid t3; clear t1 t2 t3
  go_wp2_with fail
  refine (nestsLive_any _).mono ?_; rintro e w2 ⟨rfl, hb⟩
  replace HB := Lib.hid (kin_trans HB.out hb); clear hb
  go_wp2_with fail
  refine (within_any _ _ _ (by omega) (by omega)).mono ?_; rintro e w' ⟨rfl, rfl⟩
  rw [HX.out]
  go_wp2_with fail
  refine (within_any _ _ _ (by omega) (by omega)).mono ?_; rintro e w' ⟨rfl, rfl⟩
  rw [HY.out]
  go_wp2_with fail
  refine (ahead_i _ _ a b _ rfl rfl (by omega) (by omega)).mono ?_; rintro e w3 ⟨rfl, hb⟩
  replace HB := Lib.hid (kin_trans HB.out hb); clear hb
  go_wp2_with fail
  rw [show (a : Int) + (b : Int) = ((a + b : Nat) : Int) from rfl]
  refine (Choose_nat (a + b) a _ (by omega) (by omega)).mono ?_; rintro e w' ⟨rfl, rfl⟩
  by_cases hab : a ≤ b
  · rw [T1.out hab]
    go_wp2_with fail
    refine (good2 _ _).mono ?_; rintro e w' ⟨rfl, rfl⟩
    go_wp2_with fail
    go_ret
    exact ⟨rfl, kin_alloc HB.out _⟩
  · have u := T2.out (by omega)
    have b1 := ahN_small a b (by omega) (by omega)
    have b2 := chN_le16 (a + b) a (by omega)
    have P1 : ((ahN a b : Nat) : Int) * ((a : Int) + (b : Int)) = ((ahN a b * (a + b) : Nat) : Int) := natMul _ (a + b)
    have P2 : ((chN (a + b) a : Nat) : Int) * ((a : Int) - (b : Int)) = ((ahN a b * (a + b) : Nat) : Int) := by
      rw [u, ← natMul, Int.natCast_sub (by omega)]
    have b3 : ahN a b * (a + b) ≤ 1073741824 * 16 := Nat.mul_le_mul b1 (by omega)
    generalize ahN a b * (a + b) = q at *
    clear u
    go_wp2_with fail
    refine (good2 _ _).mono ?_; rintro e w' ⟨rfl, rfl⟩
    go_wp2_with fail
    refine (nestCount_i _ b _ rfl (by omega)).mono ?_; rintro e w4 ⟨rfl, hb⟩
    replace HB := Lib.hid (kin_trans (kin_alloc HB.out _) hb); clear hb
    go_wp2_with fail
    refine (ahead_i _ _ (b + 1) b _ rfl rfl (by omega) (by omega)).mono ?_; rintro e w5 ⟨rfl, hb⟩
    rw [T3.out]
    replace HB := Lib.hid (kin_trans HB.out hb); clear hb
    go_wp2_with fail
    refine (good2 _ _).mono ?_; rintro e w' ⟨rfl, rfl⟩
    go_wp2_with fail
    go_ret
    exact ⟨rfl, kin_alloc HB.out _⟩
end Go.Proofs.Ytdcekplmmfenlaa
