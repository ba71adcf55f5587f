/- Contracts of subset.Next. -/
import Derived.Test.YtdcekplmmfenlaaSub2
namespace Go.Proofs.Ytdcekplmmfenlaa
open Go.RowKit

theorem Next_bad (s : Nat) (n : Int) (w : World) (h : n < 0 ∨ 16 < n) :
    Calls Try.prog 28 #[.int .u16 s, .int .i64 n] w fun e w' => e = .returned (.tuple #[.int .u16 0, .int .i64 1]) ∧ w = w' := by
  have HH := Lib.hid h; clear h
  by_cases h1 : n < 0
  · go_enter Try.func28, Try.ntmps28
    go_wp2_with fail
    go_ret2
    exact ⟨rfl, rfl⟩
  · have h2 : 16 < n := by have := HH.out; omega
    have d1 : decide (n < 0) = false := by simpa using h1
    have d2 : decide (16 < n) = true := by simpa using h2
    go_enter Try.func28, Try.ntmps28
    go_wp2_with fail
    go_ret2
    exact ⟨rfl, rfl⟩

theorem Next_big (s n : Nat) (w : World) (hs : s < 65536) (hn : n ≤ 16) (h : 2 ^ n ≤ s) :
    Calls Try.prog 28 #[.int .u16 s, .int .i64 n] w fun e w' => e = .returned (.tuple #[.int .u16 0, .int .i64 1]) ∧ w = w' := by
  have d1 : decide ((n : Int) < 0) = false := by simp
  have d2 : decide ((16 : Int) < (n : Int)) = false := by simp; omega
  have e3 : ((s : Int) / 2 ^ n != 0) = true := by
    have : 0 < s / 2 ^ n := Nat.div_pos h (Nat.two_pow_pos n)
    rw [bne_iff_ne, show (s : Int) / 2 ^ n = ((s / 2 ^ n : Nat) : Int) from by simp]; omega
  clear h
  go_enter Try.func28, Try.ntmps28
  go_wp2_with fail
  go_ret2
  exact ⟨rfl, rfl⟩
theorem within0 (s n : Nat) (h : s < 2 ^ n) : ((s : Int) / 2 ^ n != 0) = false := by
  rw [bne_eq_false_iff_eq, show (s : Int) / 2 ^ n = ((s / 2 ^ n : Nat) : Int) from by simp, Nat.div_eq_of_lt h]; rfl
theorem Next_last (s n : Nat) (w : World) (hs : s < 65536) (hn : n ≤ 16) (h : s < 2 ^ n) (hr : chN n (onesB s 16) ≤ rkB s 16 + 1) :
    Calls Try.prog 28 #[.int .u16 s, .int .i64 n] w fun e w' => e = .returned (.tuple #[.int .u16 0, .int .i64 4]) ∧ w = w' := by
  have d1 : decide ((n : Int) < 0) = false := by simp
  have d2 : decide ((16 : Int) < (n : Int)) = false := by simp; omega
  have e3 := within0 s n h
  have b1 : rkB s 16 ≤ 65536 := Nat.le_trans (Nat.le_of_lt (rkB_lt s 16)) (chN_le16 _ _ (by omega))
  have b2 := onesB_le s 16
  clear h
  go_enter Try.func28, Try.ntmps28
  go_wp2_with fail
  refine (Size_nat s _ hs).mono ?_; rintro e w' ⟨rfl, rfl⟩
  go_wp2_with fail
  refine (Of_nat s _ hs).mono ?_; rintro e w' ⟨rfl, rfl⟩
  go_wp2_with fail
  refine (choose_nat n (onesB s 16) _ hn b2).mono ?_; rintro e w' ⟨rfl, rfl⟩
  go_wp2_with fail
  go_ret2
  exact ⟨rfl, rfl⟩
theorem Next_go (s u n : Nat) (w : World) (hs : s < 65536) (hu : u < 65536) (hn : n ≤ 16) (h : s < 2 ^ n) (hr : rkB s 16 + 1 < chN n (onesB s 16)) (ho : onesB u 16 = onesB s 16) (hk : rkB u 16 = rkB s 16 + 1) :
    Calls Try.prog 28 #[.int .u16 s, .int .i64 n] w fun e w' => e = .returned (.tuple #[.int .u16 u, .int .i64 0]) ∧ w = w' := by
  have d1 : decide ((n : Int) < 0) = false := by simp
  have d2 : decide ((16 : Int) < (n : Int)) = false := by simp; omega
  have e3 := within0 s n h
  have b1 : rkB s 16 ≤ 65536 := Nat.le_trans (Nat.le_of_lt (rkB_lt s 16)) (chN_le16 _ _ (by omega))
  have b2 := onesB_le s 16
  have g1 := Lib.hid ho; have g2 := Lib.hid hk
  clear h ho hk
  go_enter Try.func28, Try.ntmps28
  go_wp2_with fail
  refine (Size_nat s _ hs).mono ?_; rintro e w' ⟨rfl, rfl⟩
  go_wp2_with fail
  refine (Of_nat s _ hs).mono ?_; rintro e w' ⟨rfl, rfl⟩
  go_wp2_with fail
  refine (choose_nat n (onesB s 16) _ hn b2).mono ?_; rintro e w' ⟨rfl, rfl⟩
  go_wp2_with fail
  refine (At_i _ _ u _ (by rw [g1.out]) (by rw [g2.out]; rfl) hu).mono ?_; rintro e w' ⟨rfl, rfl⟩
  go_wp2_with fail
  go_ret2
  exact ⟨rfl, rfl⟩
/-- what Next answers, for any n -/
def NextIs (s : Nat) (u er : Int) : Prop :=
  (er ≠ 0 ∧ u = 0) ∨ er = 0 ∧ ∃ v : Nat, u = v ∧ v < 65536 ∧ s < v ∧ onesB v 16 = onesB s 16 ∧ rkB v 16 = rkB s 16 + 1
theorem Next_any (s : Nat) (n : Int) (w : World) (hs : s < 65536) :
    ∃ u er : Int, NextIs s u er ∧ Calls Try.prog 28 #[.int .u16 s, .int .i64 n] w fun e w' => e = .returned (.tuple #[.int .u16 u, .int .i64 er]) ∧ w = w' := by
  by_cases hbad : n < 0 ∨ 16 < n
  · exact ⟨0, 1, .inl ⟨by omega, rfl⟩, Next_bad s n w hbad⟩
  · obtain ⟨n, rfl⟩ : ∃ k' : Nat, n = k' := ⟨n.toNat, by omega⟩
    by_cases h : s < 2 ^ n
    · by_cases hr : rkB s 16 + 1 < chN n (onesB s 16)
      · obtain ⟨u, hu, ho, hk⟩ := set_exists 16 (onesB s 16) (rkB s 16 + 1) (Nat.lt_of_lt_of_le hr (chN_mono _ _ _ (by omega)))
        refine ⟨u, 0, .inr ⟨rfl, u, rfl, hu, ?_, ho, hk⟩, Next_go s u n w hs hu (by omega) h hr ho hk⟩
        rw [rkB_lt_iff s u hs hu ho.symm]; omega
      · exact ⟨0, 4, .inl ⟨by omega, rfl⟩, Next_last s n w hs (by omega) h (by omega)⟩
    · exact ⟨0, 1, .inl ⟨by omega, rfl⟩, Next_big s n w hs (by omega) (by omega)⟩

end Go.Proofs.Ytdcekplmmfenlaa
