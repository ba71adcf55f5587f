/- Contract of ruin.Time, and of the laws' first look. -/
import Derived.Test.YtghobphnjfgjeaaRuin
namespace Go.Proofs.Ytghobphnjfgjeaa
open Go.RowKit

theorem ruins_any (w : World) : Calls Try.prog 15 #[] w fun e w' => e = .returned (.bool true) ∧ Below w.heap.size w w' := by
  have g1 : winP 1 3 2 1 = 4 := by decide +kernel
  have g2 : winQ 1 3 2 1 = 7 := by decide +kernel
  go_enter Try.func15, Try.ntmps15
  go_wp2_with fail
  refine (ruinWin 1 3 2 1 _ (by omega) (by omega) (by omega) (by omega)).mono ?_; rintro e w1 ⟨rfl, hb⟩
  rw [g1, g2]
  have HB := Lib.hid hb; clear hb g1 g2
  go_wp2_with fail
  go_ret
  exact ⟨rfl, kin_alloc HB.out _⟩

set_option maxRecDepth 100000 in
set_option maxHeartbeats 2000000 in
theorem ruinTime (a n p q : Nat) (w : World) (hn : 1 ≤ n ∧ n ≤ 5) (ha : a ≤ n) (hp : 1 ≤ p ∧ p ≤ 5) (hq : 1 ≤ q ∧ q ≤ 5) :
    Calls Try.prog 24 #[.int .i64 a, .int .i64 n, .int .i64 p, .int .i64 q] w fun r w' => r = .returned (.tuple #[.agg #[.int .i64 (tmZ a n p q).1, .int .i64 (tmZ a n p q).2], .int .i64 0]) ∧ Below w.heap.size w w' := by
  obtain ⟨r1, r2, r3⟩ := tim_math a n p q hn hp hq ha
  obtain ⟨n1, n2⟩ := hn
  obtain ⟨p1, p2⟩ := hp
  obtain ⟨q1, q2⟩ := hq
  have m1 : (a : Int) * ((n : Int) - a) = ((a * (n - a) : Nat) : Int) := by rw [Int.natCast_mul, Int.natCast_sub ha]
  have m2 : a * (n - a) ≤ 5 * 5 := Nat.mul_le_mul (by omega) (by omega)
  have R1 := Lib.hid r1; have R2 := Lib.hid r2; have R3 := Lib.hid r3
  have RW := Lib.hid (win_rat a n p q ⟨n1, by omega⟩ ha ⟨p1, by omega⟩ ⟨q1, by omega⟩)
  clear r1 r2 r3
  by_cases hpq : p = q
  · have Z : RedIs ((a : Int) * ((n : Int) - a)) 1 (tmZ a n p q).1 (tmZ a n p q).2 := by unfold tmZ; rw [if_pos hpq]; exact ⟨rfl, rfl⟩
    have HZ := Lib.hid Z; clear Z
    have z : ((p : Int) == (q : Int)) = true := by rw [beq_iff_eq]; omega
    generalize (tmZ a n p q).1 = X at *
    generalize (tmZ a n p q).2 = Y at *
    generalize a * (n - a) = M at *
    clear hpq
    clear R1 R2 RW
    go_enter Try.func24, Try.ntmps24
    go_wp2_with fail
    refine (ruinChk a n p q _ ⟨n1, by omega⟩ ha ⟨p1, by omega⟩ ⟨q1, by omega⟩).mono ?_; rintro e w' ⟨rfl, rfl⟩
    go_wp2_with fail
    refine (make_fits _ _ X Y _ (by omega) (by omega) (by first | exact HZ.out | (rw [← m1]; exact HZ.out))).mono ?_; rintro e w3 ⟨rfl, hb⟩
    obtain ⟨c0, c1, f0, f1, hz, hk⟩ := res2 hb
    have HK := Lib.hid hk; clear hk hb
    go_wp2_with fail
    refine bodyPost_ret (v := .tuple #[.agg #[.int .i64 X, .int .i64 Y], .int .i64 0]) ?_ rfl ⟨rfl, (HK.out.setCell (Nat.le_refl _) _).setCell (Nat.le_refl _) _⟩
    simp [results, Try.results24, go_sem, c0, c1]
  · have z : ((p : Int) == (q : Int)) = false := by rw [beq_eq_false_iff_ne]; omega
    have Z : RedIs ((tmY a n p q).1 * (tmB p q).1) ((tmY a n p q).2 * (tmB p q).2) (tmZ a n p q).1 (tmZ a n p q).2 := by unfold tmZ; rw [if_neg hpq]; exact ⟨rfl, rfl⟩
    have X0 : RedIs (winP a n p q * n) (winQ a n p q * 1) (tmX a n p q).1 (tmX a n p q).2 := ⟨rfl, rfl⟩
    have Y0 : RedIs ((tmX a n p q).1 * 1 + -(a : Int) * (tmX a n p q).2) ((tmX a n p q).2 * 1) (tmY a n p q).1 (tmY a n p q).2 := ⟨rfl, rfl⟩
    have B0 := (mk_rat ((p : Int) + q) ((p : Int) - q) (by omega) (by omega) (by omega)).1
    have B1 : mkP ((p : Int) + q) ((p : Int) - q) = (tmB p q).1 ∧ mkQ ((p : Int) + q) ((p : Int) - q) = (tmB p q).2 := ⟨rfl, rfl⟩
    rw [B1.1, B1.2] at B0
    have HZ := Lib.hid Z; have HX := Lib.hid X0; have HY := Lib.hid Y0; have HB0 := Lib.hid B0; have HB1 := Lib.hid B1
    clear Z X0 Y0 B0 B1
    generalize (tmZ a n p q).1 = X at *
    generalize (tmZ a n p q).2 = Y at *
    generalize (tmX a n p q).1 = X1 at *
    generalize (tmX a n p q).2 = X2 at *
    generalize (tmY a n p q).1 = Y1 at *
    generalize (tmY a n p q).2 = Y2 at *
    generalize (tmB p q).1 = B1 at *
    generalize (tmB p q).2 = B2 at *
    generalize hw1 : winP a n p q = W1 at *
    generalize hw2 : winQ a n p q = W2 at *
    have HPQ := Lib.hid hpq
    have HW1 := Lib.hid hw1; have HW2 := Lib.hid hw2; clear hw1 hw2 m1 m2 hpq
    have RN : Rat1 (n : Int) 1 := by refine ⟨by omega, by omega, by omega, by omega, by simp⟩
    have RA : Rat1 (-(a : Int)) 1 := by refine ⟨by omega, by omega, by omega, by omega, by simp⟩
    have HRN := Lib.hid RN; have HRA := Lib.hid RA; clear RN RA
    go_enter Try.func24, Try.ntmps24
    go_wp2_with fail
    refine (ruinChk a n p q _ ⟨n1, by omega⟩ ha ⟨p1, by omega⟩ ⟨q1, by omega⟩).mono ?_; rintro e w' ⟨rfl, rfl⟩
    have K0 := (Rf.start w).push 0 0
    go_wp2_with fail
    refine (ruinWin a n p q _ ⟨n1, by omega⟩ ha ⟨p1, by omega⟩ ⟨q1, by omega⟩).mono ?_; rintro e w1 ⟨rfl, hb⟩
    rw [HW1.out, HW2.out]
    have z1 := hb.size; simp at z1
    have Z1 := Lib.hid z1; clear z1
    have K1 := (K0.keep hb).push W1 W2
    clear K0 hb
    obtain ⟨u0, u1, uz⟩ := K1.get 0 rfl
    go_wp2_with fail
    refine (mul_fits W1 W2 n 1 X1 X2 _ RW.out HRN.out HX.out R1.out).mono ?_; rintro e w2 ⟨rfl, hb⟩
    have z1 := hb.size; simp at z1
    have Z2 := Lib.hid z1; clear z1
    have K2 := (K1.keep hb).push X1 X2
    clear K1 hb u0 u1 uz
    obtain ⟨u0, u1, uz⟩ := K2.get 0 rfl
    go_wp2_with fail
    refine (add_fits X1 X2 (-(a : Int)) 1 Y1 Y2 _ R1.out HRA.out HY.out R2.out).mono ?_; rintro e w3 ⟨rfl, hb⟩
    have K3 := K2.keep hb
    clear K2 hb u0 u1 uz
    obtain ⟨u0, u1, uz⟩ := K3.get 0 rfl
    obtain ⟨v0, v1⟩ := K3.frz 0 rfl
    have z1 := Z1.out
    have z2 := Z2.out
    have K4 := K3.put Y1 Y2 (by omega) (by intro e he; simp only [List.mem_cons, List.not_mem_nil, or_false] at he; rcases he with rfl | rfl <;> simp only [ne_eq] <;> omega)
    clear z1 z2
    go_wp2_with fail
    refine (make_ok _ _ _ (by omega) (by omega) (by have := HPQ.out; omega)).mono ?_; rintro e w4 ⟨rfl, hb⟩
    rw [HB1.out.1, HB1.out.2]
    have K5 := (K4.keep hb).push B1 B2
    clear K3 K4 hb u0 u1 uz v0 v1
    obtain ⟨u0, u1, uz⟩ := K5.get 0 rfl
    obtain ⟨v0, v1, vz⟩ := K5.get 1 rfl
    go_wp2_with fail
    refine (mul_fits Y1 Y2 B1 B2 X Y _ R2.out HB0.out HZ.out R3.out).mono ?_; rintro e w5 ⟨rfl, hb⟩
    clear u0 u1 uz v0 v1 vz
    have K6 := K5.keep hb
    clear K5 hb
    obtain ⟨u0, u1, uz⟩ := K6.get 3 rfl
    obtain ⟨v0, v1⟩ := K6.frz 3 rfl
    go_wp2_with fail
    refine bodyPost_ret (v := .tuple #[.agg #[.int .i64 X, .int .i64 Y], .int .i64 0]) ?_ rfl ⟨rfl, (K6.bel.setCell (Nat.le_refl _) _).setCell (Nat.le_refl _) _⟩
    simp [results, Try.results24, go_sem, u0, u1]
end Go.Proofs.Ytghobphnjfgjeaa
