/- The walks of the laws SubsetBack, SubsetRises. -/
import Derived.Test.YtenkeekheaodaaaSub2
namespace Go.Proofs.Ytenkeekheaodaaa
open Go.RowKit

set_option maxHeartbeats 1000000 in
theorem subsetBack_any (s : Nat) (k r : Int) (w : World) (hs : s < 65536) :
    Calls Try.prog 11 #[.int .u16 s, .int .i64 k, .int .i64 r] w fun e w' => e = .returned (.bool true) ∧ w = w' := by
  have ht : ((s : Int) != (s : Int)) = false := by simp
  by_cases hbad : k < 0 ∨ 16 < k ∨ r < 0
  · have HB := Lib.hid hbad; clear hbad
    go_enter Try.func11, Try.ntmps11
    go_wp2_with fail
    refine (subsets_any _).mono ?_; rintro e w' ⟨rfl, rfl⟩
    go_wp2_with fail
    refine (Size_nat s _ hs).mono ?_; rintro e w' ⟨rfl, rfl⟩
    go_wp2_with fail
    refine (Of_nat s _ hs).mono ?_; rintro e w' ⟨rfl, rfl⟩
    go_wp2_with fail
    refine (At_nat s _ hs).mono ?_; rintro e w' ⟨rfl, rfl⟩
    go_wp2_with fail
    refine (At_bad1 k r _ HB.out).mono ?_; rintro e w' ⟨rfl, rfl⟩
    go_wp2_with fail
    go_ret
    exact ⟨rfl, rfl⟩
  · obtain ⟨k, rfl⟩ : ∃ k' : Nat, k = k' := ⟨k.toNat, by omega⟩
    obtain ⟨r, rfl⟩ : ∃ r' : Nat, r = r' := ⟨r.toNat, by omega⟩
    have hk : k ≤ 16 := by omega
    clear hbad
    by_cases hr : chN 16 k ≤ r
    · have HR := Lib.hid hr; clear hr
      go_enter Try.func11, Try.ntmps11
      go_wp2_with fail
      refine (subsets_any _).mono ?_; rintro e w' ⟨rfl, rfl⟩
      go_wp2_with fail
      refine (Size_nat s _ hs).mono ?_; rintro e w' ⟨rfl, rfl⟩
      go_wp2_with fail
      refine (Of_nat s _ hs).mono ?_; rintro e w' ⟨rfl, rfl⟩
      go_wp2_with fail
      refine (At_nat s _ hs).mono ?_; rintro e w' ⟨rfl, rfl⟩
      go_wp2_with fail
      refine (At_bad2 k r _ hk HR.out).mono ?_; rintro e w' ⟨rfl, rfl⟩
      go_wp2_with fail
      go_ret
      exact ⟨rfl, rfl⟩
    · obtain ⟨u, hu, ho, hk2⟩ := set_exists 16 k r (by omega)
      have hu' : u < 65536 := hu
      subst ho; subst hk2
      clear hr hu
      go_enter Try.func11, Try.ntmps11
      go_wp2_with fail
      refine (subsets_any _).mono ?_; rintro e w' ⟨rfl, rfl⟩
      go_wp2_with fail
      refine (Size_nat s _ hs).mono ?_; rintro e w' ⟨rfl, rfl⟩
      go_wp2_with fail
      refine (Of_nat s _ hs).mono ?_; rintro e w' ⟨rfl, rfl⟩
      go_wp2_with fail
      refine (At_nat s _ hs).mono ?_; rintro e w' ⟨rfl, rfl⟩
      go_wp2_with fail
      refine (At_nat u _ hu').mono ?_; rintro e w' ⟨rfl, rfl⟩
      go_wp2_with fail
      refine (Size_nat u _ hu').mono ?_; rintro e w' ⟨rfl, rfl⟩
      go_wp2_with fail
      refine (Of_nat u _ hu').mono ?_; rintro e w' ⟨rfl, rfl⟩
      go_wp2_with fail
      go_ret
      exact ⟨rfl, rfl⟩

theorem Next_bad (s : Nat) (n : Int) (w : World) (h : n < 0 ∨ 16 < n) :
    Calls Try.prog 36 #[.int .u16 s, .int .i64 n] w fun e w' => e = .returned (.tuple #[.int .u16 0, .int .i64 1]) ∧ w = w' := by
  have HH := Lib.hid h; clear h
  by_cases h1 : n < 0
  · go_enter Try.func36, Try.ntmps36
    go_wp2_with fail
    go_ret2
    exact ⟨rfl, rfl⟩
  · have h2 : 16 < n := by have := HH.out; omega
    have d1 : decide (n < 0) = false := by simpa using h1
    have d2 : decide (16 < n) = true := by simpa using h2
    go_enter Try.func36, Try.ntmps36
    go_wp2_with fail
    go_ret2
    exact ⟨rfl, rfl⟩

theorem Next_big (s n : Nat) (w : World) (hs : s < 65536) (hn : n ≤ 16) (h : 2 ^ n ≤ s) :
    Calls Try.prog 36 #[.int .u16 s, .int .i64 n] w fun e w' => e = .returned (.tuple #[.int .u16 0, .int .i64 1]) ∧ w = w' := by
  have d1 : decide ((n : Int) < 0) = false := by simp
  have d2 : decide ((16 : Int) < (n : Int)) = false := by simp; omega
  have e3 : ((s : Int) / 2 ^ n != 0) = true := by
    have : 0 < s / 2 ^ n := Nat.div_pos h (Nat.two_pow_pos n)
    rw [bne_iff_ne, show (s : Int) / 2 ^ n = ((s / 2 ^ n : Nat) : Int) from by simp]; omega
  clear h
  go_enter Try.func36, Try.ntmps36
  go_wp2_with fail
  go_ret2
  exact ⟨rfl, rfl⟩
theorem within0 (s n : Nat) (h : s < 2 ^ n) : ((s : Int) / 2 ^ n != 0) = false := by
  rw [bne_eq_false_iff_eq, show (s : Int) / 2 ^ n = ((s / 2 ^ n : Nat) : Int) from by simp, Nat.div_eq_of_lt h]; rfl
theorem Next_last (s n : Nat) (w : World) (hs : s < 65536) (hn : n ≤ 16) (h : s < 2 ^ n) (hr : chN n (onesB s 16) ≤ rkB s 16 + 1) :
    Calls Try.prog 36 #[.int .u16 s, .int .i64 n] w fun e w' => e = .returned (.tuple #[.int .u16 0, .int .i64 4]) ∧ w = w' := by
  have d1 : decide ((n : Int) < 0) = false := by simp
  have d2 : decide ((16 : Int) < (n : Int)) = false := by simp; omega
  have e3 := within0 s n h
  have b1 : rkB s 16 ≤ 65536 := Nat.le_trans (Nat.le_of_lt (rkB_lt s 16)) (chN_le16 _ _ (by omega))
  have b2 := onesB_le s 16
  clear h
  go_enter Try.func36, Try.ntmps36
  go_wp2_with fail
  refine (Size_nat s _ hs).mono ?_; rintro e w' ⟨rfl, rfl⟩
  go_wp2_with fail
  refine (Of_nat s _ hs).mono ?_; rintro e w' ⟨rfl, rfl⟩
  go_wp2_with fail
  refine (choose_nat n (onesB s 16) _ hn b2).mono ?_; rintro e w' ⟨rfl, rfl⟩
  go_wp2_with fail
  go_ret2
  exact ⟨rfl, rfl⟩
theorem Next_go (s u n : Nat) (w : World) (hs : s < 65536) (hu : u < 65536) (hn : n ≤ 16) (h : s < 2 ^ n) (hr : rkB s 16 + 1 < chN n (onesB s 16)) (ho : onesB u 16 = onesB s 16) (hk : rkB u 16 = rkB s 16 + 1) :
    Calls Try.prog 36 #[.int .u16 s, .int .i64 n] w fun e w' => e = .returned (.tuple #[.int .u16 u, .int .i64 0]) ∧ w = w' := by
  have d1 : decide ((n : Int) < 0) = false := by simp
  have d2 : decide ((16 : Int) < (n : Int)) = false := by simp; omega
  have e3 := within0 s n h
  have b1 : rkB s 16 ≤ 65536 := Nat.le_trans (Nat.le_of_lt (rkB_lt s 16)) (chN_le16 _ _ (by omega))
  have b2 := onesB_le s 16
  have g1 := Lib.hid ho; have g2 := Lib.hid hk
  clear h ho hk
  go_enter Try.func36, Try.ntmps36
  go_wp2_with fail
  refine (Size_nat s _ hs).mono ?_; rintro e w' ⟨rfl, rfl⟩
  go_wp2_with fail
  refine (Of_nat s _ hs).mono ?_; rintro e w' ⟨rfl, rfl⟩
  go_wp2_with fail
  refine (choose_nat n (onesB s 16) _ hn b2).mono ?_; rintro e w' ⟨rfl, rfl⟩
  go_wp2_with fail
  refine (At_i _ _ u _ (by rw [g1.out]) (by rw [g2.out]; rfl) hu).mono ?_; rintro e w' ⟨rfl, rfl⟩
  go_wp2_with fail
  go_ret2
  exact ⟨rfl, rfl⟩
/-- what Next answers, for any n -/
def NextIs (s : Nat) (u er : Int) : Prop :=
  (er ≠ 0 ∧ u = 0) ∨ er = 0 ∧ ∃ v : Nat, u = v ∧ v < 65536 ∧ s < v ∧ onesB v 16 = onesB s 16 ∧ rkB v 16 = rkB s 16 + 1
theorem Next_any (s : Nat) (n : Int) (w : World) (hs : s < 65536) :
    ∃ u er : Int, NextIs s u er ∧ Calls Try.prog 36 #[.int .u16 s, .int .i64 n] w fun e w' => e = .returned (.tuple #[.int .u16 u, .int .i64 er]) ∧ w = w' := by
  by_cases hbad : n < 0 ∨ 16 < n
  · exact ⟨0, 1, .inl ⟨by omega, rfl⟩, Next_bad s n w hbad⟩
  · obtain ⟨n, rfl⟩ : ∃ k' : Nat, n = k' := ⟨n.toNat, by omega⟩
    by_cases h : s < 2 ^ n
    · by_cases hr : rkB s 16 + 1 < chN n (onesB s 16)
      · obtain ⟨u, hu, ho, hk⟩ := set_exists 16 (onesB s 16) (rkB s 16 + 1) (Nat.lt_of_lt_of_le hr (chN_mono _ _ _ (by omega)))
        refine ⟨u, 0, .inr ⟨rfl, u, rfl, hu, ?_, ho, hk⟩, Next_go s u n w hs hu (by omega) h hr ho hk⟩
        rw [rkB_lt_iff s u hs hu ho.symm]; omega
      · exact ⟨0, 4, .inl ⟨by omega, rfl⟩, Next_last s n w hs (by omega) h (by omega)⟩
    · exact ⟨0, 1, .inl ⟨by omega, rfl⟩, Next_big s n w hs (by omega) (by omega)⟩

set_option maxHeartbeats 1000000 in
theorem subsetRises_any (s t : Nat) (n : Int) (w : World) (hs : s < 65536) (ht : t < 65536) :
    Calls Try.prog 13 #[.int .u16 s, .int .u16 t, .int .i64 n] w fun e w' => e = .returned (.bool true) ∧ Below w.heap.size w w' := by
  have b1 := onesB_le s 16
  have b2 := onesB_le t 16
  have b3 : rkB s 16 ≤ 65536 := Nat.le_trans (Nat.le_of_lt (rkB_lt s 16)) (chN_le16 _ _ (by omega))
  have b4 : rkB t 16 ≤ 65536 := Nat.le_trans (Nat.le_of_lt (rkB_lt t 16)) (chN_le16 _ _ (by omega))
  obtain ⟨u, er, HN, C⟩ := Next_any s n w hs
  have HC := Lib.hid C; clear C
  by_cases he : onesB s 16 = onesB t 16
  · have hiff := rkB_lt_iff s t hs ht he
    have HE := Lib.hid he
    clear he
    by_cases hst : s < t
    all_goals
      first
        | (have hrk : rkB s 16 < rkB t 16 := hiff.1 hst)
        | (have hrk : ¬ rkB s 16 < rkB t 16 := fun h => hst (hiff.2 h))
      clear hiff
      go_enter Try.func13, Try.ntmps13
      go_wp2_with fail
      refine (subsets_any _).mono ?_; rintro e w' ⟨rfl, rfl⟩
      go_wp2_with fail
      refine (Size_nat s _ hs).mono ?_; rintro e w' ⟨rfl, rfl⟩
      go_wp2_with fail
      refine (Size_nat t _ ht).mono ?_; rintro e w' ⟨rfl, rfl⟩
      rw [← HE.out]
      go_wp2_with fail
      refine (Of_nat s _ hs).mono ?_; rintro e w' ⟨rfl, rfl⟩
      go_wp2_with fail
      refine (Of_nat t _ ht).mono ?_; rintro e w' ⟨rfl, rfl⟩
      go_wp2_with fail
      refine HC.out.mono ?_; rintro e w' ⟨rfl, rfl⟩
      rcases HN with ⟨h1, rfl⟩ | ⟨rfl, v, rfl, hv, hsv, ho, hk⟩
      · have z : (er != 0) = true := by rw [bne_iff_ne]; exact h1
        clear h1
        go_wp2_with fail
        go_ret
        exact ⟨rfl, Below.refl _ _⟩
      · have g1 := Lib.hid ho; have g2 := Lib.hid hk; clear ho hk
        go_wp2_with fail
        refine (Size_nat v _ hv).mono ?_; rintro e w' ⟨rfl, rfl⟩
        rw [g1.out]
        go_wp2_with fail
        refine (Size_nat s _ hs).mono ?_; rintro e w' ⟨rfl, rfl⟩
        go_wp2_with fail
        refine (Of_nat v _ hv).mono ?_; rintro e w' ⟨rfl, rfl⟩
        rw [g2.out]
        go_wp2_with fail
        refine (Of_nat s _ hs).mono ?_; rintro e w' ⟨rfl, rfl⟩
        go_wp2_with fail
        go_ret
        exact ⟨rfl, Below.refl _ _⟩
  · have e1 : (((onesB s 16 : Nat) : Int) == ((onesB t 16 : Nat) : Int)) = false := by rw [beq_eq_false_iff_ne]; omega
    clear he
    go_enter Try.func13, Try.ntmps13
    go_wp2_with fail
    refine (subsets_any _).mono ?_; rintro e w' ⟨rfl, rfl⟩
    go_wp2_with fail
    refine (Size_nat s _ hs).mono ?_; rintro e w' ⟨rfl, rfl⟩
    go_wp2_with fail
    refine (Size_nat t _ ht).mono ?_; rintro e w' ⟨rfl, rfl⟩
    go_wp2_with fail
    refine HC.out.mono ?_; rintro e w' ⟨rfl, rfl⟩
    rcases HN with ⟨h1, rfl⟩ | ⟨rfl, v, rfl, hv, hsv, ho, hk⟩
    · have z : (er != 0) = true := by rw [bne_iff_ne]; exact h1
      clear h1
      go_wp2_with fail
      go_ret
      exact ⟨rfl, Below.refl _ _⟩
    · have g1 := Lib.hid ho; have g2 := Lib.hid hk; clear ho hk
      go_wp2_with fail
      refine (Size_nat v _ hv).mono ?_; rintro e w' ⟨rfl, rfl⟩
      rw [g1.out]
      go_wp2_with fail
      refine (Size_nat s _ hs).mono ?_; rintro e w' ⟨rfl, rfl⟩
      go_wp2_with fail
      refine (Of_nat v _ hv).mono ?_; rintro e w' ⟨rfl, rfl⟩
      rw [g2.out]
      go_wp2_with fail
      refine (Of_nat s _ hs).mono ?_; rintro e w' ⟨rfl, rfl⟩
      go_wp2_with fail
      go_ret
      exact ⟨rfl, Below.refl _ _⟩
end Go.Proofs.Ytenkeekheaodaaa
