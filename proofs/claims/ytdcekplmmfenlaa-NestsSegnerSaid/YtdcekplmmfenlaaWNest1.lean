/- The walks of the laws NestsSegner. -/
import Derived.Test.YtdcekplmmfenlaaNest2
import Derived.Test.YtdcekplmmfenlaaMathSum
namespace Go.Proofs.Ytdcekplmmfenlaa
open Go.RowKit

def segN (n i : Nat) : Nat := catN i * catN (n - i)
theorem seg_tab (n : Nat) (hn : n < 15) : sumTo (segN n) (n + 1) = catN (n + 1) ∧ (n + 2) * catN (n + 1) = (4 * n + 2) * catN n := by
  have e : ∀ n, n < 15 → sumTo (fun i => catL i * catL (n - i)) (n + 1) = catL (n + 1) ∧ (n + 2) * catL (n + 1) = (4 * n + 2) * catL n := by decide +kernel
  have := e n hn
  rw [sumTo_congr (fun i => catL i * catL (n - i)) (segN n) (n + 1) (fun i _ => by rw [catL_eq, catL_eq]; rfl), catL_eq, catL_eq] at this
  exact this

set_option maxHeartbeats 1000000 in
theorem segner_any (x : Int) (w : World) :
    Calls Try.prog 3 #[.int .i64 x] w fun e w' => e = .returned (.bool true) ∧ Below w.heap.size w w' := by
  obtain ⟨n, hn, hx⟩ : ∃ m : Nat, m < 15 ∧ x % 15 = m := ⟨(x % 15).toNat, by omega, by omega⟩
  have HX := Lib.hid hx; clear hx
  obtain ⟨t1, t2⟩ := seg_tab n hn
  have b1 := cat_small (n + 1) (by omega)
  have b2 := cat_small n (by omega)
  have S1 : sumTo (segN n) (n + 1) ≤ 100000000 := by omega
  have P1 : ((n : Int) + 2) * ((catN (n + 1) : Nat) : Int) = (((n + 2) * catN (n + 1) : Nat) : Int) := natMul (n + 2) _
  have P2 : (4 * (n : Int) + 2) * ((catN n : Nat) : Int) = (((n + 2) * catN (n + 1) : Nat) : Int) := by rw [t2]; exact natMul (4 * n + 2) _
  have b3 : (n + 2) * catN (n + 1) ≤ 17 * 100000000 := Nat.mul_le_mul (by omega) b1
  generalize (n + 2) * catN (n + 1) = q at *
  have T1 := Lib.hid t1; clear t1 t2
  go_enter Try.func3, Try.ntmps3
  go_wp2_with fail
  refine (nestsLive_any _).mono ?_; rintro e w1 ⟨rfl, hb⟩
  have HB := Lib.hid hb; clear hb
  go_wp2_with fail
  refine (within_any _ _ _ (by omega) (by omega)).mono ?_; rintro e w' ⟨rfl, rfl⟩
  rw [HX.out]
  go_wp2_with fail
  refine (nestCount_i _ (n + 1) _ (by omega) (by omega)).mono ?_; rintro e w2 ⟨rfl, hb⟩
  replace HB := Lib.hid (kin_trans HB.out hb); clear hb
  go_wp2_with fail
  go_loopw [5, 25] (fun a i wr => ∃ j : Nat, j ≤ n + 1 ∧ a = .int .i64 ((sumTo (segN n) j : Nat) : Int) ∧ i = .int .i64 j ∧ Below w.heap.size w wr) (fun _ i _ => n + 1 - (intOf i).toNat)
  case atStart => exact ⟨0, by omega, rfl, rfl, HB.out⟩
  case round =>
    obtain ⟨j, hj, rfl, rfl, hbel⟩ := hrel
    replace HB := Lib.hid hbel; clear hbel
    by_cases hlt : j < n + 1
    · have c1 := sumTo_pair (segN n) hlt S1
      have P3 : ((catN j : Nat) : Int) * ((catN (n - j) : Nat) : Int) = ((segN n j : Nat) : Int) := natMul _ _
      have b4 := cat_small j (by omega)
      have b5 := cat_small (n - j) (by omega)
      generalize hf : segN n j = f at *
      generalize ha : sumTo (segN n) j = A at *
      have h1 := Lib.hid hf; have h3 := Lib.hid ha
      clear hf ha
      go_wp2_with fail
      refine (nestCount_i _ j _ (by omega) (by omega)).mono ?_; rintro e w3 ⟨rfl, hb⟩
      replace HB := Lib.hid (kin_trans HB.out hb); clear hb
      go_wp2_with fail
      refine (nestCount_i _ (n - j) _ (by omega) (by omega)).mono ?_; rintro e w4 ⟨rfl, hb⟩
      replace HB := Lib.hid (kin_trans HB.out hb); clear hb
      go_wp2_with fail
      refine (good2 _ _).mono ?_; rintro e w' ⟨rfl, rfl⟩
      go_wp2_with fail
      go_roundw
      case rel => exact ⟨j + 1, by omega, val_int (by rw [sumTo_succ, h3.out, h1.out]; rfl), by go_num, kin_alloc HB.out _⟩
      case measure => simp [intOf]; omega
    · obtain rfl : j = n + 1 := by omega
      rw [T1.out]
      clear S1
      go_wp2_with fail
      refine (nestCount_i _ n _ (by omega) (by omega)).mono ?_; rintro e w3 ⟨rfl, hb⟩
      replace HB := Lib.hid (kin_trans HB.out hb); clear hb
      go_wp2_with fail
      refine (good2 _ _).mono ?_; rintro e w' ⟨rfl, rfl⟩
      go_wp2_with fail
      go_ret
      exact ⟨rfl, kin_alloc HB.out _⟩
end Go.Proofs.Ytdcekplmmfenlaa
