/- The walks of the laws RisesSums, RisesWorpitzky. -/
import Derived.Test.YtenkeekheaodaaaRises
import Derived.Test.YtenkeekheaodaaaSub1
namespace Go.Proofs.Ytenkeekheaodaaa
open Go.RowKit

theorem risesLive_any (w : World) : Calls Try.prog 23 #[] w fun e w' => e = .returned (.bool true) ∧ Below w.heap.size w w' := by
  have h : eulN 4 1 = 11 := by decide
  go_enter Try.func23, Try.ntmps23
  go_wp2_with fail
  refine (risesCount_nat 4 1 _ (by omega) (by omega)).mono ?_; rintro e w' ⟨rfl, hb⟩
  rw [h]
  have HB := Lib.hid hb; clear hb
  go_wp2_with fail
  go_ret
  exact ⟨rfl, HB.out⟩

theorem eul_sums : ∀ n, n < 16 → 0 < n → sumTo (eulN n) n = facN n := by decide +kernel
theorem eul_symm : ∀ n, n < 16 → ∀ k, k < n → eulN n (n - 1 - k) = eulN n k := by decide +kernel
theorem eul_rec : ∀ n, n < 16 → 1 < n → ∀ k, k < n → eulN n k = (k + 1) * eulN (n - 1) k + (n - k) * (if k = 0 then 0 else eulN (n - 1) (k - 1)) := by decide +kernel
theorem fac15 : ∀ n, n < 16 → facN n ≤ 1307674368000 := by decide +kernel

set_option maxHeartbeats 1000000 in
theorem risesSums_any (x y : Int) (w : World) :
    Calls Try.prog 6 #[.int .i64 x, .int .i64 y] w fun e w' => e = .returned (.bool true) ∧ Below w.heap.size w w' := by
  obtain ⟨p, hp, hx⟩ : ∃ m : Nat, m < 15 ∧ x % 15 = m := ⟨(x % 15).toNat, by omega, by omega⟩
  have HX := Lib.hid hx; clear hx
  go_enter Try.func6, Try.ntmps6
  go_wp2_with fail
  refine (risesLive_any _).mono ?_; rintro e w1 ⟨rfl, hb⟩
  have HB := Lib.hid hb; clear hb
  go_wp2_with fail
  refine (within_any _ _ _ (by omega) (by omega)).mono ?_; rintro e w' ⟨rfl, rfl⟩
  rw [HX.out]
  obtain ⟨n, rfl⟩ : ∃ n, n = p + 1 := ⟨_, rfl⟩
  go_wp2_with fail
  refine (within_any _ _ _ (by omega) (by omega)).mono ?_; rintro e w' ⟨rfl, rfl⟩
  rw [show (1 : Int) + (p : Int) = ((p + 1 : Nat) : Int) from by omega]
  generalize hn : p + 1 = n
  have hn0 : 0 < n := by omega
  have hn1 : n < 16 := by omega
  obtain ⟨k, hk, hy⟩ : ∃ m : Nat, m < n ∧ y % (n : Int) = m := ⟨(y % n).toNat, by have := Int.emod_lt_of_pos y (b := n) (by omega); have := Int.emod_nonneg y (b := n) (by omega); omega, by have := Int.emod_nonneg y (b := n) (by omega); omega⟩
  rw [hy]
  clear hy hn hp HX
  go_wp2_with fail
  have T1 := eul_sums n hn1 hn0
  have F1 := fac15 n hn1
  have S1 : sumTo (eulN n) n ≤ 1307674368000 := by omega
  have HT1 := Lib.hid T1; clear T1
  go_loopw [5, 6, 28] (fun a m i wr => ∃ j : Nat, j ≤ n ∧ a = .int .i64 ((sumTo (eulN n) j : Nat) : Int) ∧ m = .int .i64 ((facN j : Nat) : Int) ∧ i = .int .i64 j ∧ Below w.heap.size w wr) (fun _ _ i _ => n - (intOf i).toNat)
  case atStart => exact ⟨0, by omega, rfl, rfl, rfl, HB.out⟩
  case round =>
    obtain ⟨j, hj, rfl, rfl, rfl, hbel⟩ := hrel
    have HBEL := Lib.hid hbel; clear hbel
    by_cases hlt : j < n
    · have c1 := sumTo_pair (eulN n) hlt S1
      have b4 := fac15 (j + 1) (by omega)
      have b5 := fac15 j (by omega)
      have P1 : ((facN j : Nat) : Int) * ((j : Int) + 1) = ((facN (j + 1) : Nat) : Int) := natMul (facN j) (j + 1)
      generalize hf : eulN n j = f at *
      generalize ha : sumTo (eulN n) j = A at *
      generalize hm : facN j = M at *
      generalize hm2 : facN (j + 1) = M2 at *
      have h1 := Lib.hid hf; have h3 := Lib.hid ha; have h5 := Lib.hid hm2
      clear hf ha hm hm2
      go_wp2_with fail
      refine (risesCount_nat n j _ (by omega) (by omega)).mono ?_; rintro e w' ⟨rfl, hb⟩
      rw [h1.out]
      have HB2 := Lib.hid hb; clear hb
      go_wp2_with fail
      go_roundw
      case rel => exact ⟨j + 1, by omega, val_int (by rw [sumTo_succ, h3.out, h1.out]; rfl), val_int (by rw [h5.out]), by go_num, kin_trans HBEL.out HB2.out⟩
      case measure => simp [intOf]; omega
    · obtain rfl : j = n := by omega
      rw [HT1.out]
      go_wp2_with fail
      refine (risesCount_nat j k _ (by omega) (by omega)).mono ?_; rintro e w2 ⟨rfl, hb⟩
      have HB2 := Lib.hid (kin_trans HBEL.out hb); clear hb
      go_wp2_with fail
      rw [show (j : Int) - 1 - (k : Int) = ((j - 1 - k : Nat) : Int) from by omega]
      refine (risesCount_nat j (j - 1 - k) _ (by omega) (by omega)).mono ?_; rintro e w3 ⟨rfl, hb⟩
      rw [eul_symm j hn1 k hk]
      have HB3 := Lib.hid (kin_trans HB2.out hb); clear hb
      go_wp2_with fail
      rw [show (j : Int) - 1 = ((j - 1 : Nat) : Int) from by omega]
      refine (risesCount_nat (j - 1) k _ (by omega) (by omega)).mono ?_; rintro e w4 ⟨rfl, hb⟩
      have HB4 := Lib.hid (kin_trans HB3.out hb); clear hb
      have b1 := eulN_small (j - 1) (by omega) k (by omega)
      have b2 := eulN_small (j - 1) (by omega) (k - 1) (by omega)
      have b3 := eulN_small j (by omega) k (by omega)
      by_cases h0 : k = 0
      · subst h0
        rw [eulN_0, eulN_0]
        have z0 : decide ((0 : Int) < ((0 : Nat) : Int)) = false := by simp
        clear b1 b2 b3
        by_cases hj1 : j = 1
        · subst hj1
          go_wp2_with fail
          refine (good3 _ _).mono ?_; rintro e w' ⟨rfl, rfl⟩
          go_wp2_with fail
          go_ret
          exact ⟨rfl, kin_alloc HB4.out _⟩
        · have z1 : ((j : Int) == 1) = false := by simp; omega
          go_wp2_with fail
          refine (good3 _ _).mono ?_; rintro e w' ⟨rfl, rfl⟩
          go_wp2_with fail
          go_ret
          exact ⟨rfl, kin_alloc HB4.out _⟩
      · have hk0 : 0 < k := by omega
        have R := eul_rec j hn1 (by omega) k hk
        rw [if_neg h0] at R
        have z1 : ((j : Int) == 1) = false := by simp; omega
        have P1 : ((k : Int) + 1) * ((eulN (j - 1) k : Nat) : Int) = (((k + 1) * eulN (j - 1) k : Nat) : Int) := natMul (k + 1) _
        have P2 : ((j : Int) - (k : Int)) * ((eulN (j - 1) (k - 1) : Nat) : Int) = (((j - k) * eulN (j - 1) (k - 1) : Nat) : Int) := by
          rw [← natMul, Int.natCast_sub (by omega)]
        generalize hq1 : (k + 1) * eulN (j - 1) k = q1 at *
        generalize hq2 : (j - k) * eulN (j - 1) (k - 1) = q2 at *
        generalize hd1 : eulN (j - 1) (k - 1) = d at *
        generalize hc1 : eulN (j - 1) k = c at *
        generalize ha1 : eulN j k = a at *
        have R1 : ((a : Int) == (q1 : Int) + (q2 : Int)) = true := by rw [beq_iff_eq]; omega
        have R2 : q1 + q2 ≤ 1307674368000 := by omega
        have HD := Lib.hid hd1; have HH := Lib.hid h0
        clear hq1 hq2 hd1 hc1 ha1 R h0
        go_wp2_with fail
        rw [show (j : Int) - 1 = ((j - 1 : Nat) : Int) from by omega, show (k : Int) - 1 = ((k - 1 : Nat) : Int) from by omega]
        refine (risesCount_nat (j - 1) (k - 1) _ (by omega) (by omega)).mono ?_; rintro e w5 ⟨rfl, hb⟩
        rw [HD.out]
        have HB5 := Lib.hid (kin_trans HB4.out hb); clear hb
        go_wp2_with fail
        refine (good3 _ _).mono ?_; rintro e w' ⟨rfl, rfl⟩
        go_wp2_with fail
        go_ret
        exact ⟨rfl, kin_alloc HB5.out _⟩

def worp (x n k : Nat) : Nat := eulN n k * chN (x + n - 1 - k) n
theorem worp_tab : ∀ x, x < 8 → ∀ n, n < 8 → 0 < n → sumTo (worp x n) n = x ^ n ∧ x ^ n ≤ 1000000 := by decide +kernel
theorem worp_pow : ∀ x, x < 8 → ∀ n, n < 9 → x ^ n ≤ 100000000 := by decide +kernel

set_option maxHeartbeats 1000000 in
theorem risesWorpitzky_any (x0 y : Int) (w : World) :
    Calls Try.prog 10 #[.int .i64 x0, .int .i64 y] w fun e w' => e = .returned (.bool true) ∧ Below w.heap.size w w' := by
  obtain ⟨x, hx1, hx⟩ : ∃ m : Nat, m < 8 ∧ x0 % 8 = m := ⟨(x0 % 8).toNat, by omega, by omega⟩
  obtain ⟨p, hp, hy⟩ : ∃ m : Nat, m < 7 ∧ y % 7 = m := ⟨(y % 7).toNat, by omega, by omega⟩
  have HX := Lib.hid hx; clear hx
  have HY := Lib.hid hy; clear hy
  go_enter Try.func10, Try.ntmps10
  go_wp2_with fail
  refine (risesLive_any _).mono ?_; rintro e w1 ⟨rfl, hb⟩
  have HB := Lib.hid hb; clear hb
  go_wp2_with fail
  refine (within_any _ _ _ (by omega) (by omega)).mono ?_; rintro e w' ⟨rfl, rfl⟩
  rw [HX.out]
  go_wp2_with fail
  refine (within_any _ _ _ (by omega) (by omega)).mono ?_; rintro e w' ⟨rfl, rfl⟩
  rw [HY.out]
  go_wp2_with fail
  rw [show (1 : Int) + (p : Int) = ((p + 1 : Nat) : Int) from by omega]
  generalize hn : p + 1 = n
  have hn0 : 0 < n := by omega
  have hn1 : n < 8 := by omega
  clear hn HX HY hp
  obtain ⟨T, F1⟩ := worp_tab x hx1 n hn1 hn0
  have S1 : sumTo (worp x n) n ≤ 1000000 := by omega
  have HT := Lib.hid T; clear T
  go_loopw [5, 20] (fun a i wr => ∃ j : Nat, j ≤ n ∧ a = .int .i64 ((sumTo (worp x n) j : Nat) : Int) ∧ i = .int .i64 j ∧ Below w.heap.size w wr) (fun _ i _ => n - (intOf i).toNat)
  case atStart => exact ⟨0, by omega, rfl, rfl, HB.out⟩
  case round =>
    obtain ⟨j, hj, rfl, rfl, hbel⟩ := hrel
    have HBEL := Lib.hid hbel; clear hbel
    by_cases hlt : j < n
    · have c1 := sumTo_pair (worp x n) hlt S1
      have b1 := eulN_small n (by omega) j (by omega)
      have b2 := chN_le16 (x + n - 1 - j) n (by omega)
      have P1 : ((eulN n j : Nat) : Int) * ((chN (x + n - 1 - j) n : Nat) : Int) = ((worp x n j : Nat) : Int) := natMul _ _
      generalize hf : worp x n j = f at *
      generalize ha : sumTo (worp x n) j = A at *
      have h1 := Lib.hid hf; have h3 := Lib.hid ha
      clear hf ha
      go_wp2_with fail
      refine (risesCount_nat n j _ (by omega) (by omega)).mono ?_; rintro e w' ⟨rfl, hb⟩
      have HB2 := Lib.hid (kin_trans HBEL.out hb); clear hb
      go_wp2_with fail
      rw [show (x : Int) + (n : Int) - 1 - (j : Int) = ((x + n - 1 - j : Nat) : Int) from by omega]
      refine (Choose_nat _ n _ (by omega) (by omega)).mono ?_; rintro e w' ⟨rfl, rfl⟩
      go_wp2_with fail
      refine (good2 _ _).mono ?_; rintro e w' ⟨rfl, rfl⟩
      go_wp2_with fail
      go_roundw
      case rel => exact ⟨j + 1, by omega, val_int (by rw [sumTo_succ, h3.out, h1.out]; rfl), by go_num, kin_alloc HB2.out _⟩
      case measure => simp [intOf]; omega
    · obtain rfl : j = n := by omega
      rw [HT.out]
      clear S1
      go_wp2_with fail
      go_loop [6, 52] (fun m i => ∃ t : Nat, t ≤ j ∧ m = .int .i64 ((x ^ t : Nat) : Int) ∧ i = .int .i64 t) (fun _ i => j - (intOf i).toNat)
      case atStart => exact ⟨0, by omega, by simp, rfl⟩
      case round =>
        obtain ⟨t, ht, rfl, rfl⟩ := hrel
        have b1 := worp_pow x hx1 t (by omega)
        have b2 := worp_pow x hx1 (t + 1) (by omega)
        have P1 : ((x ^ t : Nat) : Int) * (x : Int) = ((x ^ (t + 1) : Nat) : Int) := natMul (x ^ t) x
        by_cases hlt : t < j
        · generalize hq : x ^ t = q at *
          generalize hq2 : x ^ (t + 1) = q2 at *
          have h1 := Lib.hid hq2
          clear hq hq2
          go_wp2_with fail
          go_round
          case rel => exact ⟨t + 1, by omega, val_int (by rw [h1.out]), by go_num⟩
          case measure => simp [intOf]; omega
        · obtain rfl : t = j := by omega
          generalize x ^ t = q at *
          go_wp2_with fail
          go_ret
          exact ⟨rfl, HBEL.out⟩
end Go.Proofs.Ytenkeekheaodaaa
