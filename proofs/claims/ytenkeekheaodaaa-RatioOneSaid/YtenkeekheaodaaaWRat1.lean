/- The walk of the law RatioOne. -/
import Derived.Test.YtenkeekheaodaaaRat2
namespace Go.Proofs.Ytenkeekheaodaaa
open Go.RowKit

theorem ratioOne_bad (p q k er : Int) (w : World) (her : er ≠ 0)
    (hm : ∀ w, Calls Try.prog 34 #[.int .i64 p, .int .i64 q] w fun e w' => e = .returned (.tuple #[.agg #[.int .i64 0, .int .i64 0], .int .i64 er]) ∧ Below w.heap.size w w') :
    Calls Try.prog 12 #[.int .i64 p, .int .i64 q, .int .i64 k] w fun e w' => e = .returned (.bool true) ∧ Below w.heap.size w w' := by
  have HM := Lib.hid hm; clear hm
  have z : (er != 0) = true := by rw [bne_iff_ne]; exact her
  clear her
  go_enter Try.func12, Try.ntmps12
  go_wp2_with fail
  refine (ratios_any _).mono ?_; rintro e w1 ⟨rfl, hb⟩
  have HB := Lib.hid hb; clear hb
  go_wp2_with fail
  refine (HM.out _).mono ?_; rintro e w2 ⟨rfl, hb⟩
  have HB2 := Lib.hid (kin_trans HB.out hb); clear hb
  go_wp2_with fail
  go_ret
  exact ⟨rfl, kin_alloc HB2.out _⟩

set_option maxHeartbeats 1000000 in
theorem ratioOne_ok (p q k : Int) (w : World) (hp : -1000000000 ≤ p ∧ p ≤ 1000000000) (hq : -1000000000 ≤ q ∧ q ≤ 1000000000) (h0 : q ≠ 0) :
    Calls Try.prog 12 #[.int .i64 p, .int .i64 q, .int .i64 k] w fun e w' => e = .returned (.bool true) ∧ Below w.heap.size w w' := by
  obtain ⟨hr, hx⟩ := mk_rat p q hp hq h0
  obtain ⟨r1, r2, r3, r4, r5⟩ := id hr
  have HR := Lib.hid hr; clear hr r5
  obtain ⟨j, hj, hk⟩ : ∃ m : Nat, m < 50 ∧ k % 50 = m := ⟨(k % 50).toNat, by omega, by omega⟩
  have HK := Lib.hid hk; clear hk
  obtain ⟨s1, s2⟩ := mk_scale (1 + (j : Int)) p q (by omega) h0
  have S1 := Lib.hid s1; have S2 := Lib.hid s2; clear s1 s2
  obtain ⟨n1, n2⟩ := mk_neg p q h0
  have N1 := Lib.hid n1; have N2 := Lib.hid n2; clear n1 n2
  have HMK := Lib.hid (fun w => make_ok p q w hp hq h0)
  have HNG := Lib.hid (fun w => make_ok (-p) (-q) w (by omega) (by omega) (by omega))
  have m1 := mul_bd p (mkQ p q) 1000000000 1000000000 (by omega) (by omega)
  have m2 := mul_bd (mkP p q) q 1000000000 1000000000 (by omega) (by omega)
  have k1 := mul_bd (1 + (j : Int)) p 50 1000000000 (by omega) (by omega)
  have k2 := mul_bd (1 + (j : Int)) q 50 1000000000 (by omega) (by omega)
  have hne : (1 + (j : Int)) * q ≠ 0 := by
    intro h; rcases Int.mul_eq_zero.1 h with h | h <;> omega
  have HNE := Lib.hid hne; clear hne
  have H0 := Lib.hid h0; clear h0
  generalize mkP p q = X at *
  generalize mkQ p q = Y at *
  go_enter Try.func12, Try.ntmps12
  go_wp2_with fail
  refine (ratios_any _).mono ?_; rintro e w1 ⟨rfl, hb⟩
  have HB := Lib.hid hb; clear hb
  go_wp2_with fail
  refine (HMK.out _).mono ?_; rintro e w2 ⟨rfl, hb⟩
  have HB2 := Lib.hid (kin_trans HB.out hb); clear hb
  go_wp2_with fail
  refine (check_ok X Y _ HR.out).mono ?_; rintro e w3 ⟨rfl, hb⟩
  obtain ⟨c0, c1, f0, f1, hz, hk⟩ := res2 hb
  have HB3 := Lib.hid (kin_trans HB2.out hk)
  clear hb hk
  go_wp2_with fail
  refine (within_any _ _ _ (by omega) (by omega)).mono ?_; rintro e w' ⟨rfl, rfl⟩
  rw [HK.out]
  go_wp2_with fail
  generalize hA : (1 + (j : Int)) * p = A at *
  generalize hBq : (1 + (j : Int)) * q = B at *
  have GA := Lib.hid hA; have GB := Lib.hid hBq; clear hA hBq
  by_cases hl : A < -1000000000 ∨ 1000000000 < A ∨ B < -1000000000 ∨ 1000000000 < B
  · have HL := Lib.hid hl; clear hl
    refine (make_large _ _ _ HL.out).mono ?_; rintro e w4 ⟨rfl, hb⟩
    have c0 := keep_cell hb c0 (by simp; omega)
    have c1 := keep_cell hb c1 (by simp; omega)
    have hz := Nat.lt_of_lt_of_le hz hb.size
    have HB4 := Lib.hid (kin_trans HB3.out hb)
    clear hb
    go_wp2_with fail
    refine (HNG.out _).mono ?_; rintro e w5 ⟨rfl, hb⟩
    rw [N1.out, N2.out]
    have c0 := keep_cell hb (v := .int .i64 X) (a := ⟨w2.heap.size, 0, none⟩) (by go_simp) (by simp; omega)
    have c1 := keep_cell hb (v := .int .i64 Y) (a := ⟨w2.heap.size, 1, none⟩) (by go_simp) (by simp; omega)
    have hz5 : w4.heap.size < w5.heap.size := by have := hb.size; simp at this; omega
    have hz6 : w2.heap.size < w5.heap.size := by omega
    have HB5 := Lib.hid (kin_trans (kin_alloc HB4.out _) hb)
    clear hb
    go_wp2_with fail
    go_ret
    exact ⟨rfl, kin_alloc HB5.out _⟩
  · have HL := Lib.hid hl; clear hl
    refine (make_ok _ _ _ (by have := HL.out; omega) (by have := HL.out; omega) HNE.out).mono ?_; rintro e w4 ⟨rfl, hb⟩
    rw [S1.out, S2.out]
    have c0 := keep_cell hb c0 (by simp; omega)
    have c1 := keep_cell hb c1 (by simp; omega)
    have hz := Nat.lt_of_lt_of_le hz hb.size
    have HB4 := Lib.hid (kin_trans HB3.out hb)
    clear hb
    go_wp2_with fail
    refine (HNG.out _).mono ?_; rintro e w5 ⟨rfl, hb⟩
    rw [N1.out, N2.out]
    have c0 := keep_cell hb (v := .int .i64 X) (a := ⟨w2.heap.size, 0, none⟩) (by go_simp) (by simp; omega)
    have c1 := keep_cell hb (v := .int .i64 Y) (a := ⟨w2.heap.size, 1, none⟩) (by go_simp) (by simp; omega)
    have y0 := keep_cell hb (v := .int .i64 X) (a := ⟨w4.heap.size, 0, none⟩) (by go_simp) (by simp)
    have y1 := keep_cell hb (v := .int .i64 Y) (a := ⟨w4.heap.size, 1, none⟩) (by go_simp) (by simp)
    have hz5 : w4.heap.size < w5.heap.size := by have := hb.size; simp at this; omega
    have hz6 : w2.heap.size < w5.heap.size := by omega
    have HB5 := Lib.hid (kin_trans (kin_alloc HB4.out _) hb)
    clear hb
    go_wp2_with fail
    go_ret
    exact ⟨rfl, kin_alloc HB5.out _⟩

theorem ratioOne_any (p q k : Int) (w : World) :
    Calls Try.prog 12 #[.int .i64 p, .int .i64 q, .int .i64 k] w fun e w' => e = .returned (.bool true) ∧ Below w.heap.size w w' := by
  by_cases hl : p < -1000000000 ∨ 1000000000 < p ∨ q < -1000000000 ∨ 1000000000 < q
  · exact ratioOne_bad p q k 1 w (by omega) (fun w => make_large p q w hl)
  · by_cases h0 : q = 0
    · subst h0; exact ratioOne_bad p 0 k 5 w (by omega) (fun w => make_zero p w (by omega))
    · exact ratioOne_ok p q k w (by omega) (by omega) h0
end Go.Proofs.Ytenkeekheaodaaa
