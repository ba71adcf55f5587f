/- The walks of the laws SubsetOther, SubsetWalk. -/
import Derived.Test.YtdcekplmmfenlaaSub3
import Derived.Test.YtdcekplmmfenlaaMathSubO
import Derived.Laws.BitsAllLaws
namespace Go.Proofs.Ytdcekplmmfenlaa
open Go.RowKit

theorem mask_tab : ∀ n : Nat, n < 17 → IntKind.u16.wrap (IntKind.u16.wrap (2 ^ n) - 1) = ((2 ^ n - 1 : Nat) : Int) := by decide

theorem and_mask (s n : Nat) (hs : s < 65536) (hn : n ≤ 16) : bits .and .u16 (s : Int) ((2 ^ n - 1 : Nat) : Int) = ((s % 2 ^ n : Nat) : Int) := by
  have h2 : 2 ^ n ≤ 65536 := Nat.pow_le_pow_right (n := 2) (by omega) hn
  rw [Go.u16_and_nat s (2 ^ n - 1) hs (by omega), Nat.and_two_pow_sub_one_eq_mod]
theorem xor_full (t : Nat) (ht : t < 65536) : 65535 ^^^ t = 2 ^ 16 - (t + 1) := by
  apply Nat.eq_of_testBit_eq
  intro i
  rw [Nat.testBit_xor, show 65535 = 2 ^ 16 - 1 from rfl, Nat.testBit_two_pow_sub_one, Nat.testBit_two_pow_sub_succ (n := 16) ht]
  by_cases hi : i < 16
  · simp [hi]
  · have : t.testBit i = false := Nat.testBit_lt_two_pow (Nat.lt_of_lt_of_le ht (Nat.pow_le_pow_right (n := 2) (by omega) (show 16 ≤ i by omega)))
    simp [hi, this]
theorem compl_mask (t n : Nat) (hn : n ≤ 16) (ht : t < 2 ^ n) : (2 ^ 16 - (t + 1)) % 2 ^ n = 2 ^ n - (t + 1) := by
  obtain ⟨d, hnd⟩ : ∃ d, 16 = n + d := ⟨16 - n, by omega⟩
  rw [hnd, Nat.pow_add]
  have hd := Nat.two_pow_pos d
  obtain ⟨k, hk⟩ : ∃ k, 2 ^ d = k + 1 := ⟨2 ^ d - 1, by omega⟩
  rw [hk, Nat.mul_succ]
  have : 2 ^ n * k + 2 ^ n - (t + 1) = 2 ^ n * k + (2 ^ n - (t + 1)) := by omega
  rw [this, Nat.mul_add_mod, Nat.mod_eq_of_lt (by omega)]
theorem not_mask (t n : Nat) (hn : n ≤ 16) (ht : t < 2 ^ n) : bits .and .u16 (bits .xor .u16 IntKind.u16.max (t : Int)) ((2 ^ n - 1 : Nat) : Int) = ((2 ^ n - (t + 1) : Nat) : Int) := by
  have h2 : 2 ^ n ≤ 65536 := Nat.pow_le_pow_right (n := 2) (by omega) hn
  rw [show IntKind.u16.max = ((65535 : Nat) : Int) from rfl, Go.u16_xor_nat 65535 t (by omega) (by omega), xor_full t (by omega), and_mask _ n (by omega) hn, compl_mask t n hn ht]

set_option maxHeartbeats 1000000 in
theorem subsetOther_any (s : Nat) (x : Int) (w : World) (hs : s < 65536) :
    Calls Try.prog 8 #[.int .u16 s, .int .i64 x] w fun e w' => e = .returned (.bool true) ∧ Below w.heap.size w w' := by
  obtain ⟨n, hn, hx⟩ : ∃ m : Nat, m < 17 ∧ x % 17 = m := ⟨(x % 17).toNat, by omega, by omega⟩
  have HX := Lib.hid hx; clear hx
  have M := mask_tab n hn
  have sg : IntKind.u16.signed = false := rfl
  have htn : s % 2 ^ n < 2 ^ n := Nat.mod_lt _ (Nat.two_pow_pos n)
  have h2 : 2 ^ n ≤ 65536 := Nat.pow_le_pow_right (n := 2) (by omega) (show n ≤ 16 by omega)
  have A1 := and_mask s n hs (by omega)
  have A2 := not_mask (s % 2 ^ n) n (by omega) htn
  obtain ⟨c1, c2⟩ := compl_set (s % 2 ^ n) n htn (by omega)
  have ht : s % 2 ^ n < 65536 := by omega
  have ho : 2 ^ n - (s % 2 ^ n + 1) < 65536 := by omega
  generalize s % 2 ^ n = t at *
  generalize 2 ^ n - (t + 1) = o at *
  generalize 2 ^ n - 1 = m at *
  clear htn h2
  have b1 := onesB_le t 16
  have b2 := onesB_le o 16
  have b3 := chN_le16 n (onesB t 16) (by omega)
  have sy := chN_symm n (onesB t 16) (by omega)
  rw [show n - onesB t 16 = onesB o 16 from by omega] at sy
  have E : ((onesB t 16 : Nat) : Int) + ((onesB o 16 : Nat) : Int) = (n : Int) := by omega
  have R : ((rkB t 16 : Nat) : Int) + ((rkB o 16 : Nat) : Int) = ((chN n (onesB t 16) : Nat) : Int) - 1 := by omega
  have r1 : rkB t 16 ≤ 65536 := by omega
  have r2 : rkB o 16 ≤ 65536 := by omega
  generalize hc : chN n (onesB t 16) = c at *
  have HC := Lib.hid hc; have HS := Lib.hid sy
  clear hc sy c1 c2
  go_enter Try.func8, Try.ntmps8
  go_wp2_with fail
  refine (subsets_any _).mono ?_; rintro e w' ⟨rfl, rfl⟩
  go_wp2_with fail
  refine (within_any _ _ _ (by omega) (by omega)).mono ?_; rintro e w' ⟨rfl, rfl⟩
  rw [HX.out]
  go_wp2_with fail
  refine (Size_nat t _ ht).mono ?_; rintro e w' ⟨rfl, rfl⟩
  go_wp2_with fail
  refine (Choose_nat n _ _ (by omega) (by omega)).mono ?_; rintro e w' ⟨rfl, rfl⟩
  rw [HC.out]
  go_wp2_with fail
  refine (Size_nat o _ ho).mono ?_; rintro e w' ⟨rfl, rfl⟩
  go_wp2_with fail
  refine (Choose_nat n _ _ (by omega) (by omega)).mono ?_; rintro e w' ⟨rfl, rfl⟩
  rw [HS.out]
  go_wp2_with fail
  refine (good2 _ _).mono ?_; rintro e w' ⟨rfl, rfl⟩
  go_wp2_with fail
  refine (Size_nat t _ ht).mono ?_; rintro e w' ⟨rfl, rfl⟩
  go_wp2_with fail
  refine (Size_nat o _ ho).mono ?_; rintro e w' ⟨rfl, rfl⟩
  go_wp2_with fail
  refine (Of_nat t _ ht).mono ?_; rintro e w' ⟨rfl, rfl⟩
  go_wp2_with fail
  refine (Of_nat o _ ho).mono ?_; rintro e w' ⟨rfl, rfl⟩
  go_wp2_with fail
  go_ret
  exact ⟨rfl, kin_alloc (Below.refl _ _) _⟩

theorem first_tab : ∀ k : Nat, k < 11 → onesB (2 ^ k - 1) 16 = k ∧ rkB (2 ^ k - 1) 16 = 0 := by decide +kernel

set_option maxHeartbeats 1000000 in
theorem subsetWalk_any (x y : Int) (w : World) :
    Calls Try.prog 9 #[.int .i64 x, .int .i64 y] w fun e w' => e = .returned (.bool true) ∧ Below w.heap.size w w' := by
  obtain ⟨n, hn, hx⟩ : ∃ m : Nat, m < 11 ∧ x % 11 = m := ⟨(x % 11).toNat, by omega, by omega⟩
  have HX := Lib.hid hx; clear hx
  obtain ⟨k, hk, hy⟩ : ∃ m : Nat, m < n + 1 ∧ y % ((n : Int) + 1) = m := ⟨(y % ((n : Int) + 1)).toNat, by have := Int.emod_lt_of_pos y (b := (n : Int) + 1) (by omega); have := Int.emod_nonneg y (b := (n : Int) + 1) (by omega); omega, by have := Int.emod_nonneg y (b := (n : Int) + 1) (by omega); omega⟩
  have HY := Lib.hid hy; clear hy
  have M := mask_tab k (by omega)
  obtain ⟨f1, f2⟩ := first_tab k (by omega)
  have hs0 : 2 ^ k - 1 < 2 ^ n := by
    have : 2 ^ k ≤ 2 ^ n := Nat.pow_le_pow_right (by omega) (by omega)
    have := Nat.two_pow_pos k; omega
  have h16 : ∀ s, s < 2 ^ n → s < 65536 := fun s h => Nat.lt_of_lt_of_le h (Nat.pow_le_pow_right (n := 2) (by omega) (show n ≤ 16 by omega))
  have hm0 := chN_pos n k (by omega)
  have hm := chN_le16 n k (by omega)
  have HS0 := Lib.hid hs0; have H16 := Lib.hid h16; have F1 := Lib.hid f1; have F2 := Lib.hid f2
  clear hs0 h16 f1 f2
  generalize 2 ^ k - 1 = s0 at *
  go_enter Try.func9, Try.ntmps9
  go_wp2_with fail
  refine (subsets_any _).mono ?_; rintro e w' ⟨rfl, rfl⟩
  go_wp2_with fail
  refine (within_any _ _ _ (by omega) (by omega)).mono ?_; rintro e w' ⟨rfl, rfl⟩
  rw [HX.out]
  go_wp2_with fail
  refine (within_any _ _ _ (by omega) (by omega)).mono ?_; rintro e w' ⟨rfl, rfl⟩
  rw [HY.out]
  go_wp2_with fail
  refine (Choose_nat n k _ (by omega) (by omega)).mono ?_; rintro e w' ⟨rfl, rfl⟩
  go_wp2_with fail
  go_loop [7, 33] (fun v i => ∃ s j : Nat, j + 1 ≤ chN n k ∧ Hid (s < 2 ^ n ∧ onesB s 16 = k ∧ rkB s 16 = j) ∧ v = .int .u16 s ∧ i = .int .i64 j) (fun _ i => chN n k - (intOf i).toNat)
  case atStart => exact ⟨s0, 0, hm0, Lib.hid ⟨HS0.out, F1.out, F2.out⟩, rfl, rfl⟩
  case round =>
    obtain ⟨s, j, hj, hs, rfl, rfl⟩ := hrel
    obtain ⟨c, hc⟩ : ∃ c, c = chN n k := ⟨_, rfl⟩
    have hsl := H16.out s hs.out.1
    by_cases hlt : j + 1 < chN n k
    · obtain ⟨u, u1, u2, u3⟩ := set_exists n k (j + 1) hlt
      have u4 := ones_within u n u1 16 (by omega)
      have u5 := rk_within u n u1 16 (by omega)
      have hul := H16.out u u1
      have hlt2 : s < u := (rkB_lt_iff s u hsl hul (by rw [u4, u2]; exact hs.out.2.1)).2 (by rw [u5, u3]; have := hs.out.2.2; omega)
      have HU : Hid (u < 2 ^ n ∧ onesB u 16 = k ∧ rkB u 16 = j + 1) := Lib.hid ⟨u1, u4.trans u2, u5.trans u3⟩
      clear u1 u2 u3 u4 u5 hc
      go_wp2_with fail
      refine (Next_go s u n _ hsl hul (by omega) hs.out.1 (by rw [hs.out.2.1, hs.out.2.2]; exact hlt) (by rw [HU.out.2.1, hs.out.2.1]) (by rw [HU.out.2.2, hs.out.2.2])).mono ?_; rintro e w' ⟨rfl, rfl⟩
      go_wp2_with fail
      refine (Size_nat u _ hul).mono ?_; rintro e w' ⟨rfl, rfl⟩
      rw [HU.out.2.1]
      go_wp2_with fail
      go_round
      case rel => exact ⟨u, j + 1, by omega, HU, rfl, by go_num⟩
      case measure => simp [intOf]; omega
    · have hje : (chN n k : Int) - 1 = (j : Int) := by omega
      clear hc
      go_wp2_with fail
      refine (Next_last s n _ hsl (by omega) hs.out.1 (by rw [hs.out.2.1, hs.out.2.2]; omega)).mono ?_; rintro e w' ⟨rfl, rfl⟩
      go_wp2_with fail
      go_ret
      exact ⟨rfl, Below.refl _ _⟩
end Go.Proofs.Ytdcekplmmfenlaa
