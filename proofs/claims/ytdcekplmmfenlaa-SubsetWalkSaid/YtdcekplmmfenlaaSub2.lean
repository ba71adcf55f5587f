/- Contracts of subset.Size, Of, At, Next. -/
import Derived.Test.YtdcekplmmfenlaaSub1
import Derived.Test.YtdcekplmmfenlaaMathSub
import Derived.Laws.BitsAllLaws
namespace Go.Proofs.Ytdcekplmmfenlaa
open Go.RowKit

theorem Size_nat (s : Nat) (w : World) (hs : s < 65536) :
    Calls Try.prog 26 #[.int .u16 s] w fun e w' => e = .returned (.int .i64 (onesB s 16 : Nat)) ∧ w = w' := by
  go_enter Try.func26, Try.ntmps26
  go_wp2_with fail
  go_loop [0, 3] (fun x n => ∃ t c : Nat, t < 65536 ∧ Hid (c + onesB t 16 = onesB s 16) ∧ x = .int .u16 t ∧ n = .int .i64 c) (fun x _ => (intOf x).toNat)
  case atStart => exact ⟨s, 0, hs, Lib.hid (by omega), rfl, rfl⟩
  case round =>
    obtain ⟨t, c, ht, hc, rfl, rfl⟩ := hrel
    have h16 := onesB_le s 16
    have hc16 : c ≤ 16 := by have := hc.out; omega
    by_cases h0 : 0 < t
    · have A := Go.u16_and_nat t (t - 1) ht (by omega)
      rw [Int.natCast_sub (by omega)] at A
      have lt : t &&& (t - 1) ≤ t - 1 := Nat.and_le_right
      have HA := Lib.hid A; clear A
      go_wp2_with fail
      go_round
      case rel =>
        refine ⟨t &&& (t - 1), c + 1, by omega, Lib.hid ?_, val_int HA.out, by go_num⟩
        have := ones_and_pred t h0 ht; have := hc.out; omega
      case measure =>
        have := HA.out
        simp [intOf] at this ⊢
        rw [this]; simp; omega
    · obtain rfl : t = 0 := by omega
      go_wp2_with fail
      go_ret
      refine ⟨ret_int ?_, rfl⟩
      have h1 := hc.out
      rw [(ones_zero_iff 0 (by omega)).2 rfl] at h1
      rw [← h1]; rfl

theorem shr_and1 (s i : Nat) (hs : s < 65536) : bits .and .u16 ((s / 2 ^ i : Nat) : Int) 1 = ((bitAt s i : Nat) : Int) := by
  have := Go.u16_and_nat (s / 2 ^ i) 1 (Nat.lt_of_le_of_lt (Nat.div_le_self _ _) hs) (by omega)
  rw [Nat.and_one_is_mod] at this
  exact this

set_option maxHeartbeats 1000000 in
theorem Of_nat (s : Nat) (w : World) (hs : s < 65536) :
    Calls Try.prog 27 #[.int .u16 s] w fun e w' => e = .returned (.int .i64 (rkB s 16 : Nat)) ∧ w = w' := by
  go_enter Try.func27, Try.ntmps27
  go_wp2_with fail
  go_loop [3, 4, 6] (fun o k i => ∃ j : Nat, j ≤ 16 ∧ o = .int .i64 (rkB s j : Nat) ∧ k = .int .i64 (onesB s j : Nat) ∧ i = .int .i64 j) (fun _ _ i => 16 - (intOf i).toNat)
  case atStart => exact ⟨0, by omega, rfl, rfl, rfl⟩
  case round =>
    obtain ⟨j, hj, rfl, rfl, rfl⟩ := hrel
    by_cases hlt : j < 16
    · have S := shr_and1 s j hs
      have b1 := onesB_le s j
      have b2 : rkB s j ≤ 65536 := Nat.le_trans (Nat.le_of_lt (rkB_lt s j)) (chN_le16 _ _ (by omega))
      have b3 := chN_le16 j (onesB s j + 1) (by omega)
      have e1 := onesB_succ s j
      have e2 := rkB_succ s j
      have hsj : s / 2 ^ j < 65536 := Nat.lt_of_le_of_lt (Nat.div_le_self _ _) hs
      have F : (s : Int) / 2 ^ j = ((s / 2 ^ j : Nat) : Int) := by simp
      rcases bitAt_01 s j with hb | hb
      · rw [hb] at S e1 e2
        have E : (bits .and .u16 ((s : Int) / 2 ^ j) 1 == 1) = false := by rw [F, S]; rfl
        have g1 := Lib.hid e1; have g2 := Lib.hid e2; clear e1 e2 S hb F
        go_wp2_with fail
        go_round
        case rel => exact ⟨j + 1, by omega, val_int (by rw [g2.out]; simp), val_int (by rw [g1.out]; simp), by go_num⟩
        case measure => simp [intOf]; omega
      · rw [hb] at S e1 e2
        have E : (bits .and .u16 ((s : Int) / 2 ^ j) 1 == 1) = true := by rw [F, S]; rfl
        rw [e1] at e2
        have g1 := Lib.hid e1; have g2 := Lib.hid e2; clear e1 e2 S hb F
        go_wp2_with fail
        rw [show ((onesB s j : Nat) : Int) + 1 = ((onesB s j + 1 : Nat) : Int) from rfl]
        refine (choose_nat j (onesB s j + 1) _ (by omega) (by omega)).mono ?_; rintro e w' ⟨rfl, rfl⟩
        go_wp2_with fail
        go_round
        case rel => exact ⟨j + 1, by omega, val_int (by rw [g2.out]; simp), val_int (by rw [g1.out]; rfl), by go_num⟩
        case measure => simp [intOf]; omega
    · obtain rfl : j = 16 := by omega
      go_wp2_with fail
      go_ret
      exact ⟨rfl, rfl⟩

theorem or_top (s j : Nat) (hs : s < 65536) (hj : j < 16) (hb : bitAt s j = 1) : bits .or .u16 ((s / 2 ^ (j + 1) * 2 ^ (j + 1) : Nat) : Int) ((2 ^ j : Nat) : Int) = ((s / 2 ^ j * 2 ^ j : Nat) : Int) := by
  have h1 : s / 2 ^ (j + 1) * 2 ^ (j + 1) < 65536 := Nat.lt_of_le_of_lt (Nat.div_mul_le_self _ _) hs
  have h2 : 2 ^ j < 65536 := Nat.lt_of_lt_of_le (Nat.pow_lt_pow_right (by omega) hj) (by decide)
  have h3 : 2 ^ j < 2 ^ (j + 1) := Nat.pow_lt_pow_right (by omega) (by omega)
  rw [Go.u16_or_nat _ _ h1 h2, Nat.mul_comm, ← Nat.two_pow_add_eq_or_of_lt h3]
  congr 1
  unfold bitAt at hb
  have := Nat.div_add_mod (s / 2 ^ j) 2
  rw [hb, Nat.div_div_eq_div_mul, ← Nat.pow_succ] at this
  rw [← this, Nat.pow_succ]; grind
theorem or_none (s j : Nat) (hb : bitAt s j = 0) : s / 2 ^ (j + 1) * 2 ^ (j + 1) = s / 2 ^ j * 2 ^ j := by
  unfold bitAt at hb
  have := Nat.div_add_mod (s / 2 ^ j) 2
  rw [hb, Nat.div_div_eq_div_mul, ← Nat.pow_succ] at this
  rw [← this, Nat.pow_succ]; grind

theorem shl16 : ∀ j : Nat, j < 16 → IntKind.u16.wrap (2 ^ j) = ((2 ^ j : Nat) : Int) := by decide

set_option maxHeartbeats 1000000 in
theorem At_nat (s : Nat) (w : World) (hs : s < 65536) :
    Calls Try.prog 51 #[.int .i64 (onesB s 16 : Nat), .int .i64 (rkB s 16 : Nat)] w fun e w' => e = .returned (.tuple #[.int .u16 s, .int .i64 0]) ∧ w = w' := by
  have k1 := onesB_le s 16
  have r1 := rkB_lt s 16
  have d1 : decide (((onesB s 16 : Nat) : Int) < 0) = false := by simp
  have d2 : decide ((16 : Int) < ((onesB s 16 : Nat) : Int)) = false := by simp; omega
  have d3 : decide (((rkB s 16 : Nat) : Int) < 0) = false := by simp
  have d4 : decide (chN 16 (onesB s 16) ≤ rkB s 16) = false := by simp; omega
  go_enter Try.func51, Try.ntmps51
  go_wp2_with fail
  refine (choose_nat 16 (onesB s 16) _ (by omega) (by omega)).mono ?_; rintro e w' ⟨rfl, rfl⟩
  go_wp2_with fail
  go_loop [0, 1, 6, 7] (fun k r o i => ∃ j : Nat, j ≤ 16 ∧ k = .int .i64 (onesB s j : Nat) ∧ r = .int .i64 (rkB s j : Nat) ∧ o = .int .u16 ((s / 2 ^ j * 2 ^ j : Nat) : Int) ∧ i = .int .i64 ((j : Int) - 1)) (fun _ _ _ i => (intOf i + 1).toNat)
  case atStart => exact ⟨16, by omega, rfl, rfl, val_int (by rw [Nat.div_eq_of_lt (by simpa using hs)]; simp), rfl⟩
  case round =>
    obtain ⟨j, hj, rfl, rfl, rfl, rfl⟩ := hrel
    clear d1 d2 d3 d4 k1 r1
    by_cases h0 : onesB s j = 0
    · have z := low_zero s j h0
      have e := Nat.div_add_mod s (2 ^ j)
      rw [z, Nat.add_zero, Nat.mul_comm] at e
      rw [h0, e]
      clear h0 z e
      go_wp2_with fail
      go_ret2
      exact ⟨rfl, rfl⟩
    · obtain ⟨b, rfl⟩ : ∃ b, j = b + 1 := ⟨j - 1, by cases j with | zero => exact absurd rfl h0 | succ j => rfl⟩
      have o1 := onesB_le s (b + 1)
      have o2 : 0 < onesB s (b + 1) := by omega
      have rl := rkB_lt s b
      have e1 := onesB_succ s b
      have e2 := rkB_succ s b
      have r2 : rkB s (b + 1) ≤ 65536 := Nat.le_trans (Nat.le_of_lt (rkB_lt s (b + 1))) (chN_le16 _ _ (by omega))
      have c2 := chN_le16 b (onesB s (b + 1)) (by omega)
      have sh := shl16 b (by omega)
      have SH := Lib.hid sh; clear sh
      clear h0
      rcases bitAt_01 s b with hb | hb
      · rw [hb] at e1 e2
        rw [Nat.zero_mul, Nat.add_zero] at e2
        have rl' : rkB s (b + 1) < chN b (onesB s (b + 1)) := by rw [e1, e2]; exact rl
        clear rl
        have on := or_none s b hb
        generalize s / 2 ^ (b + 1) * 2 ^ (b + 1) = u at *
        have g1 := Lib.hid e1; have g2 := Lib.hid e2; have g3 := Lib.hid on; clear e1 e2 hb on
        go_wp2_with fail
        refine (choose_nat b (onesB s (b + 1)) _ (by omega) (by omega)).mono ?_; rintro e w' ⟨rfl, rfl⟩
        go_wp2_with fail
        go_round
        case rel => exact ⟨b, by omega, val_int (by rw [g1.out]; rfl), val_int (by rw [g2.out]; rfl), val_int (by rw [g3.out]), rfl⟩
        case measure => simp [intOf] <;> omega
      · have ot := or_top s b hs (by omega) hb
        rw [hb, Nat.one_mul] at e2
        rw [hb] at e1
        have le : chN b (onesB s (b + 1)) ≤ rkB s (b + 1) := by omega
        generalize s / 2 ^ (b + 1) * 2 ^ (b + 1) = u at *
        have g1 := Lib.hid e1; have g2 := Lib.hid e2; have g3 := Lib.hid ot; clear e1 e2 hb ot rl
        go_wp2_with fail
        refine (choose_nat b (onesB s (b + 1)) _ (by omega) (by omega)).mono ?_; rintro e w' ⟨rfl, rfl⟩
        go_wp2_with fail
        go_round
        case rel => exact ⟨b, by omega, val_int (by rw [g1.out]; omega), val_int (by rw [g2.out]; omega), val_int (by rw [SH.out, g3.out]), rfl⟩
        case measure => simp [intOf] <;> omega

theorem At_bad1 (k r : Int) (w : World) (h : k < 0 ∨ 16 < k ∨ r < 0) :
    Calls Try.prog 51 #[.int .i64 k, .int .i64 r] w fun e w' => e = .returned (.tuple #[.int .u16 0, .int .i64 1]) ∧ w = w' := by
  have HH := Lib.hid h; clear h
  by_cases h1 : k < 0
  · go_enter Try.func51, Try.ntmps51
    go_wp2_with fail
    go_ret2
    exact ⟨rfl, rfl⟩
  · by_cases h2 : 16 < k
    · have d1 : decide (k < 0) = false := by simpa using h1
      have d2 : decide (16 < k) = true := by simpa using h2
      go_enter Try.func51, Try.ntmps51
      go_wp2_with fail
      go_ret2
      exact ⟨rfl, rfl⟩
    · have h3 : r < 0 := by have := HH.out; omega
      have d1 : decide (k < 0) = false := by simpa using h1
      have d2 : decide (16 < k) = false := by simp; omega
      have d3 : decide (r < 0) = true := by simpa using h3
      go_enter Try.func51, Try.ntmps51
      go_wp2_with fail
      go_ret2
      exact ⟨rfl, rfl⟩
theorem At_bad2 (k r : Nat) (w : World) (hk : k ≤ 16) (h : chN 16 k ≤ r) :
    Calls Try.prog 51 #[.int .i64 k, .int .i64 r] w fun e w' => e = .returned (.tuple #[.int .u16 0, .int .i64 1]) ∧ w = w' := by
  have d1 : decide ((k : Int) < 0) = false := by simp
  have d2 : decide ((16 : Int) < (k : Int)) = false := by simp; omega
  have d3 : decide ((r : Int) < 0) = false := by simp
  have d4 : decide (chN 16 k ≤ r) = true := by simpa using h
  go_enter Try.func51, Try.ntmps51
  go_wp2_with fail
  refine (choose_nat 16 k _ (by omega) (by omega)).mono ?_; rintro e w' ⟨rfl, rfl⟩
  go_wp2_with fail
  go_ret2
  exact ⟨rfl, rfl⟩

theorem At_i (k r : Int) (s : Nat) (w : World) (hk : k = (onesB s 16 : Nat)) (hr : r = (rkB s 16 : Nat)) (hs : s < 65536) :
    Calls Try.prog 51 #[.int .i64 k, .int .i64 r] w fun e w' => e = .returned (.tuple #[.int .u16 s, .int .i64 0]) ∧ w = w' := by
  subst hk; subst hr; exact At_nat s w hs

theorem subsets_any (w : World) : Calls Try.prog 25 #[] w fun e w' => e = .returned (.bool true) ∧ w = w' := by
  have h1 : onesB 10 16 = 2 := by decide
  have h2 : rkB 10 16 = 4 := by decide
  go_enter Try.func25, Try.ntmps25
  go_wp2_with fail
  refine (At_i _ _ 10 _ (by rw [h1]; rfl) (by rw [h2]; rfl) (by omega)).mono ?_; rintro e w' ⟨rfl, rfl⟩
  go_wp2_with fail
  refine (Of_nat 10 _ (by omega)).mono ?_; rintro e w' ⟨rfl, rfl⟩
  rw [h2]
  go_wp2_with fail
  go_ret
  exact ⟨rfl, rfl⟩
end Go.Proofs.Ytdcekplmmfenlaa
