/- Contracts of package derange: Count, Fixed; the laws DerangeNext, DerangeSums. -/
import Derived.Test.YtdabgibmbmhmdaaBase
import Derived.Test.YtdabgibmbmhmdaaSub1
namespace Go.Proofs.Ytdabgibmbmhmdaa
open Go.RowKit

/-- derangement numbers -/
def derN : Nat → Nat
  | 0 => 1
  | 1 => 0
  | n + 2 => (n + 1) * (derN (n + 1) + derN n)
theorem derN_small : ∀ n, n < 17 → derN n ≤ 8000000000000 := by decide

set_option maxHeartbeats 400000 in
theorem derCount_nat (n : Nat) (w : World) (hn : n ≤ 15) :
    Calls Try.prog 68 #[.int .i64 n] w fun e w' => e = .returned (.tuple #[.int .i64 (derN n : Nat), .int .i64 0]) ∧ w = w' := by
  have h0 : decide ((n : Int) < 0) = false := by simp
  have h1 : decide ((15 : Int) < (n : Int)) = false := by simp; omega
  go_enter Try.func68, Try.ntmps68
  go_wp2_with fail
  go_loop [4, 5, 6] (fun a b i => ∃ k : Nat, k ≤ 14 ∧ Hid (k = 0 ∨ k + 1 ≤ n) ∧ a = .int .i64 (derN k : Nat) ∧ b = .int .i64 (derN (k + 1) : Nat) ∧ i = .int .i64 ((k + 2 : Nat) : Int)) (fun _ _ i => 20 - (intOf i).toNat)
  case atStart => exact ⟨0, by omega, Lib.hid (.inl rfl), rfl, rfl, rfl⟩
  case round =>
    obtain ⟨k, hk, hkn, rfl, rfl, rfl⟩ := hrel
    have b0 := derN_small k (by omega)
    have b1 := derN_small (k + 1) (by omega)
    have HB := Lib.hid (derN_small (k + 2) (by omega))
    have hs : derN (k + 2) = (k + 1) * (derN (k + 1) + derN k) := rfl
    have HS := Lib.hid hs; clear hs
    by_cases hlt : k + 2 ≤ n
    · go_wp2_with fail
      refine ⟨⟨k + 1, by omega, Lib.hid (.inr hlt), rfl, val_wrap ?_ ?_ ?_, by go_num⟩, by simp [intOf]; omega⟩
      · show _ = ((derN (k + 2) : Nat) : Int)
        rw [HS.out, show (k : Int) + 2 - 1 = ((k + 1 : Nat) : Int) from by omega, ← Int.natCast_add, ← Int.natCast_mul, Nat.add_comm (derN (k + 1))]
      · omega
      · show ((derN (k + 2) : Nat) : Int) ≤ _
        have := HB.out; omega
    · by_cases hz : n = 0
      · have h9 : ((n : Int) == 0) = true := by simp; omega
        have HZ := Lib.hid hz; clear hz
        go_wp2_with fail
        go_ret2
        exact ⟨ret2_int (by have := hkn.out; have := HZ.out; rw [show k = n from by omega]) rfl, rfl⟩
      · have h9 : ((n : Int) == 0) = false := by simp; omega
        go_wp2_with fail
        go_ret2
        exact ⟨ret2_int (by have := hkn.out; rw [show k + 1 = n from by omega]) rfl, rfl⟩

def fixN (n k : Nat) : Nat := derN (n - k) * chN n k
set_option maxHeartbeats 400000 in
theorem derFixed_nat (n k : Nat) (w : World) (hn : n ≤ 15) (hk : k ≤ n) :
    Calls Try.prog 28 #[.int .i64 n, .int .i64 k] w fun e w' => e = .returned (.tuple #[.int .i64 (fixN n k : Nat), .int .i64 0]) ∧ w = w' := by
  have h1 : decide ((n : Int) < 0) = false := by simp
  have h2 : decide ((15 : Int) < (n : Int)) = false := by simp; omega
  have h3 : decide ((k : Int) < 0) = false := by simp
  have h4 : decide ((15 : Int) < (k : Int)) = false := by simp; omega
  go_enter Try.func28, Try.ntmps28
  go_wp2_with fail
  rw [show (n : Int) - (k : Int) = ((n - k : Nat) : Int) from by omega]
  refine (derCount_nat (n - k) _ (by omega)).mono ?_; rintro e w' ⟨rfl, rfl⟩
  have d1 := derN_small (n - k) (by omega)
  generalize hd : derN (n - k) = d at *
  have HD := Lib.hid hd; clear hd
  go_wp2_with fail
  go_loop [6, 34] (fun o i => ∃ j : Nat, j ≤ k ∧ o = .int .i64 ((d * chN n j : Nat) : Int) ∧ i = .int .i64 j) (fun _ i => k - (intOf i).toNat)
  case atStart => exact ⟨0, by omega, by rw [chN_zero, Nat.mul_one], rfl⟩
  case round =>
    obtain ⟨j, hj, rfl, rfl⟩ := hrel
    have b1 : d * chN n j ≤ 8000000000000 * 65536 := Nat.mul_le_mul d1 (chN_le16 n j (by omega))
    have b3 : d * chN n (j + 1) ≤ 8000000000000 * 65536 := Nat.mul_le_mul d1 (chN_le16 n (j + 1) (by omega))
    have b2 : d * chN n j * (n - j) ≤ 8000000000000 * 65536 * 15 := Nat.mul_le_mul b1 (by omega)
    have P1 := choose_mul n j d (by omega)
    have P2 := Lib.hid (choose_div n j d (by omega))
    generalize hq : d * chN n j * (n - j) = q at *
    have HQ := Lib.hid hq; clear hq
    generalize hc : d * chN n j = c at *
    have HC := Lib.hid hc; clear hc
    by_cases hlt : j < k
    · go_wp2_with fail
      go_round
      case rel => exact ⟨j + 1, by omega, val_wrap P2.out (by omega) (by omega), by go_num⟩
      case measure => simp [intOf]; omega
    · obtain rfl : j = k := by omega
      go_wp2_with fail
      go_ret2
      exact ⟨ret2_int (by rw [fixN, ← HC.out, HD.out]) rfl, rfl⟩
end Go.Proofs.Ytdabgibmbmhmdaa
