/- The walks of the laws RatioBetween, RatioOrder. -/
import Derived.Test.YtliajiilcicppaaRat4
namespace Go.Proofs.Ytliajiilcicppaa
open Go.RowKit

theorem lt_of_mul {a b c : Int} (hc : 0 < c) (h : a * c < b * c) : a < b := Int.lt_of_mul_lt_mul_right h (by omega)
theorem mediant (x1 x2 y1 y2 z1 z2 : Int) (hx : 0 < x2) (hy : 0 < y2) (hz : 0 < z2) (h : x1 * y2 < y1 * x2) (e : Eqv z1 z2 (x1 + y1) (x2 + y2)) :
    x1 * z2 < z1 * x2 ∧ z1 * y2 < y1 * z2 := by
  unfold Eqv at e
  have hs : 0 < x2 + y2 := by omega
  have hm := Int.mul_lt_mul_of_pos_right h hz
  constructor
  · refine lt_of_mul hs ?_
    have e1 : z1 * x2 * (x2 + y2) = x1 * z2 * x2 + y1 * x2 * z2 := by
      have : z1 * x2 * (x2 + y2) = z1 * (x2 + y2) * x2 := by grind
      rw [this, e]; grind
    have e2 : x1 * z2 * (x2 + y2) = x1 * z2 * x2 + x1 * y2 * z2 := by grind
    rw [e1, e2]; omega
  · refine lt_of_mul hs ?_
    have e1 : z1 * y2 * (x2 + y2) = x1 * y2 * z2 + y1 * z2 * y2 := by
      have : z1 * y2 * (x2 + y2) = z1 * (x2 + y2) * y2 := by grind
      rw [this, e]; grind
    have e2 : y1 * z2 * (x2 + y2) = y1 * x2 * z2 + y1 * z2 * y2 := by grind
    rw [e1, e2]; omega

set_option maxRecDepth 100000 in
set_option maxHeartbeats 1000000 in
theorem between_any (a b c d : Int) (w : World) : 
    Calls Try.prog 5 #[.agg #[.int .i64 a, .int .i64 b], .agg #[.int .i64 c, .int .i64 d]] w fun e w' => e = .returned (.bool true) ∧ Below w.heap.size w w' := by
  go_enter Try.func5, Try.ntmps5
  go_wp2_with fail
  refine (ratios_any _).mono ?_; rintro e w1 ⟨rfl, hb⟩
  have SX := ((St.new w 23 a b).alloc (.cells #[.int .i64 c, .int .i64 d] 23)).keep hb
  have SY := (St.new (w.alloc (.cells #[.int .i64 a, .int .i64 b] 23)) 23 c d).keep hb
  rw [show (w.alloc (.cells #[.int .i64 a, .int .i64 b] 23)).heap.size = w.heap.size + 1 from by simp] at SY
  have HB := Lib.hid (res22 hb).2.2.2.2.2; clear hb
  have x0 := SX.c0; have x1 := SX.c1; have y0 := SY.c0; have y1 := SY.c1
  go_wp2_with fail
  clear x0 x1 y0 y1
  refine (less_any a b c d _).mono ?_; rintro e w2 ⟨l, er, rfl, hl, hb⟩
  replace SX := SX.keep hb
  replace SY := SY.keep hb
  replace HB := Lib.hid (kin_trans HB.out hb); clear hb
  rcases hl with ⟨rfl, rx, ry, rfl⟩ | ⟨he, rfl, -⟩
  · by_cases hlt : a * d < c * b
    · have D := decide_eq_true hlt
      rw [D]
      have hbd : 1 ≤ b ∧ b ≤ 1000000000 ∧ -1000000000 ≤ a ∧ a ≤ 1000000000 := ⟨rx.1, rx.2.1, rx.2.2.1, rx.2.2.2.1⟩
      have hdd : 1 ≤ d ∧ d ≤ 1000000000 ∧ -1000000000 ≤ c ∧ c ≤ 1000000000 := ⟨ry.1, ry.2.1, ry.2.2.1, ry.2.2.2.1⟩
      obtain ⟨b1, b2, b3, b4⟩ := hbd
      obtain ⟨d1, d2, d3, d4⟩ := hdd
      have RX := Lib.hid rx; have RY := Lib.hid ry; have HLT := Lib.hid hlt; clear rx ry hlt D
      have x0 := SX.c0; have x1 := SX.c1; have y0 := SY.c0; have y1 := SY.c1
      go_wp2_with fail
      clear x0 x1 y0 y1
      by_cases hbig : a + c < -1000000000 ∨ 1000000000 < a + c ∨ b + d < -1000000000 ∨ 1000000000 < b + d
      · refine (make_large _ _ _ hbig).mono ?_; rintro e w3 ⟨rfl, hb⟩
        replace HB := Lib.hid (kin_trans HB.out hb); clear hb hbig
        go_wp2_with fail
        go_ret
        exact ⟨rfl, kin_alloc HB.out _⟩
      · obtain ⟨z1, z2, hr, he, -, hz2, gz⟩ := red_small (a + c) (b + d) 1000000000 1000000000 (by omega) (by omega) (by omega)
        have hz := red_rat (a + c) (b + d) (by omega) (by omega)
        rw [hr.1, hr.2] at hz
        obtain ⟨m1, m2⟩ := mediant a b c d z1 z2 (by omega) (by omega) (by omega) HLT.out he
        refine (make_fits _ _ z1 z2 _ (by omega) (by omega) hr).mono ?_; rintro e w3 ⟨rfl, hb⟩
        replace SX := SX.keep hb
        replace SY := SY.keep hb
        replace HB := Lib.hid (kin_trans HB.out hb); clear hb hbig
        have HZ := Lib.hid hz
        have D1 := Lib.hid (decide_eq_true m1); have D2 := Lib.hid (decide_eq_true m2)
        clear hz hr he hz2 gz m1 m2
        have x0 := SX.c0; have x1 := SX.c1; have xl := SX.lt
        go_wp2_with fail
        clear x0 x1 xl
        refine (less_ok _ _ _ _ _ RX.out HZ.out).mono ?_; rintro e w4 ⟨rfl, hb⟩
        rw [D1.out]
        have SZ := (St.new w3 23 z1 z2).keep hb
        replace SY := (SY.alloc (.cells #[.int .i64 z1, .int .i64 z2] 23)).keep hb
        replace HB := Lib.hid (kin_trans (kin_alloc HB.out _) hb); clear hb
        have z0 := SZ.c0; have z1' := SZ.c1; have y0 := SY.c0; have y1 := SY.c1
        go_wp2_with fail
        clear z0 z1' y0 y1
        refine (less_ok _ _ _ _ _ HZ.out RY.out).mono ?_; rintro e w5 ⟨rfl, hb⟩
        rw [D2.out]
        replace HB := Lib.hid (kin_trans HB.out hb); clear hb
        go_wp2_with fail
        refine (good2 _ _).mono ?_; rintro e w' ⟨rfl, rfl⟩
        go_wp2_with fail
        go_ret
        exact ⟨rfl, kin_alloc HB.out _⟩
    · have D := decide_eq_false hlt
      rw [D]
      clear hlt D rx ry
      go_wp2_with fail
      go_ret
      exact ⟨rfl, HB.out⟩
  · have z : (er != 0) = true := by rw [bne_iff_ne]; omega
    clear he
    go_wp2_with fail
    go_ret
    exact ⟨rfl, HB.out⟩
end Go.Proofs.Ytliajiilcicppaa
