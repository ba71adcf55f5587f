/- Contracts of subset.choose and subset.Choose. -/
import Derived.Test.YtgblmbhbbjgdiaaBase
import Derived.Test.YtgblmbhbbjgdiaaMathCh
namespace Go.Proofs.Ytgblmbhbbjgdiaa
open Go.RowKit

theorem choose_mul (n i x : Nat) (h : i ≤ n) : ((x * chN n i : Nat) : Int) * ((n : Int) - (i : Int)) = ((x * chN n i * (n - i) : Nat) : Int) := by
  rw [Int.natCast_mul (x * chN n i) (n - i), Int.natCast_sub h]
theorem choose_div (n i x : Nat) (h : i ≤ n) : ((x * chN n i * (n - i) : Nat) : Int) / ((i : Int) + 1) = ((x * chN n (i + 1) : Nat) : Int) := by
  rw [show (i : Int) + 1 = ((i + 1 : Nat) : Int) from rfl, ← Int.natCast_ediv, Nat.mul_assoc, chN_step n i h, ← Nat.mul_assoc, Nat.mul_div_cancel _ (by omega)]

set_option maxHeartbeats 400000 in
theorem choose_nat (n k : Nat) (w : World) (hn : n ≤ 16) (hk : k ≤ 16) :
    Calls Try.prog 55 #[.int .i64 n, .int .i64 k] w fun e w' => e = .returned (.int .i64 (chN n k : Nat)) ∧ w = w' := by
  by_cases hgt : n < k
  · go_enter Try.func55, Try.ntmps55
    go_wp2_with fail
    go_ret
    exact ⟨ret_int (by rw [chN_gt n k hgt]; rfl), rfl⟩
  · go_enter Try.func55, Try.ntmps55
    go_wp2_with fail
    go_loop [5, 11] (fun o i => ∃ j : Nat, j ≤ k ∧ o = .int .i64 ((1 * chN n j : Nat) : Int) ∧ i = .int .i64 j) (fun _ i => k - (intOf i).toNat)
    case atStart => exact ⟨0, by omega, by rw [chN_zero]; rfl, rfl⟩
    case round =>
      obtain ⟨j, hj, rfl, rfl⟩ := hrel
      have b1 : 1 * chN n j ≤ 65536 := by have := chN_le16 n j hn; omega
      have b3 : 1 * chN n (j + 1) ≤ 65536 := by have := chN_le16 n (j + 1) hn; omega
      have b2 : 1 * chN n j * (n - j) ≤ 65536 * 16 := Nat.mul_le_mul b1 (by omega)
      have P1 := choose_mul n j 1 (by omega)
      have P2 := Lib.hid (choose_div n j 1 (by omega))
      generalize hq : 1 * chN n j * (n - j) = q at *
      have HQ := Lib.hid hq; clear hq
      generalize hc : 1 * chN n j = c at *
      have HC := Lib.hid hc; clear hc
      by_cases hlt : j < k
      · go_wp2_with fail
        go_round
        case rel => exact ⟨j + 1, by omega, val_wrap P2.out (by omega) (by omega), by go_num⟩
        case measure => simp [intOf]; omega
      · obtain rfl : j = k := by omega
        go_wp2_with fail
        go_ret
        exact ⟨ret_int (by rw [← HC.out, Nat.one_mul]), rfl⟩

theorem Choose_nat (n k : Nat) (w : World) (hn : n ≤ 16) (hk : k ≤ 16) :
    Calls Try.prog 36 #[.int .i64 n, .int .i64 k] w fun e w' => e = .returned (.tuple #[.int .i64 (chN n k : Nat), .int .i64 0]) ∧ w = w' := by
  have h1 : decide ((n : Int) < 0) = false := by simp
  have h2 : decide ((16 : Int) < (n : Int)) = false := by simp; omega
  have h3 : decide ((k : Int) < 0) = false := by simp
  have h4 : decide ((16 : Int) < (k : Int)) = false := by simp; omega
  go_enter Try.func36, Try.ntmps36
  go_wp2_with fail
  refine (choose_nat n k _ hn hk).mono ?_; rintro e w' ⟨rfl, rfl⟩
  go_wp2_with fail
  go_ret2
  exact ⟨rfl, rfl⟩
end Go.Proofs.Ytgblmbhbbjgdiaa
