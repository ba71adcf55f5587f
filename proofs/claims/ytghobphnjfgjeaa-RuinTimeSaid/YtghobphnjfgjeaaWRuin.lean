/- The walks of the laws RuinStep, RuinOther, RuinTime. -/
import Derived.Test.YtghobphnjfgjeaaRuin2
namespace Go.Proofs.Ytghobphnjfgjeaa
open Go.RowKit

theorem rest_nat (k : Int) (n : Nat) (h : 1 ≤ n) : ∃ m : Nat, k % (n : Int) = m ∧ m < n :=
  ⟨(k % (n : Int)).toNat, by have := Int.emod_nonneg k (b := (n : Int)) (by omega); omega, by have := Int.emod_nonneg k (b := (n : Int)) (by omega); have := Int.emod_lt_of_pos k (b := (n : Int)) (by omega); omega⟩
theorem rest_one (k : Int) (n o : Nat) (h : 1 ≤ n) : ∃ m : Nat, (o : Int) + k % (n : Int) = m ∧ o ≤ m ∧ m < o + n := by
  obtain ⟨m, h1, h2⟩ := rest_nat k n h
  exact ⟨o + m, by rw [h1]; omega, by omega, by omega⟩

set_option maxRecDepth 100000 in
set_option maxHeartbeats 4000000 in
theorem ruinStep_any (a n p q : Int) (w : World) :
    Calls Try.prog 3 #[.int .i64 a, .int .i64 n, .int .i64 p, .int .i64 q] w fun e w' => e = .returned (.bool true) ∧ Below w.heap.size w w' := by
  obtain ⟨N, hN, n1, n2⟩ : ∃ m : Nat, (2 : Int) + n % 5 = m ∧ 2 ≤ m ∧ m < 2 + 5 := rest_one n 5 2 (by omega)
  obtain ⟨P, hP, p1, p2⟩ : ∃ m : Nat, (1 : Int) + p % 6 = m ∧ 1 ≤ m ∧ m < 1 + 6 := rest_one p 6 1 (by omega)
  obtain ⟨Q, hQ, q1, q2⟩ : ∃ m : Nat, (1 : Int) + q % 6 = m ∧ 1 ≤ m ∧ m < 1 + 6 := rest_one q 6 1 (by omega)
  obtain ⟨A0, hA, a0⟩ : ∃ m : Nat, a % ((N : Int) - 1) = m ∧ m < N - 1 := by
    have := rest_nat a (N - 1) (by omega)
    rw [show ((N - 1 : Nat) : Int) = (N : Int) - 1 from by omega] at this
    exact this
  obtain ⟨A, hA1⟩ : ∃ A, A = A0 + 1 := ⟨_, rfl⟩
  have a1 : 1 ≤ A := by omega
  have a2 : A < N := by omega
  have HA1 : Hid ((1 : Int) + (A0 : Int) = (A : Int)) := Lib.hid (by omega)
  clear hA1
  have HN := Lib.hid hN; have HP := Lib.hid hP; have HQ := Lib.hid hQ; have HA := Lib.hid hA
  clear hN hP hQ hA
  obtain ⟨c, d, e_, f, u1, u2, v1, v2, k1, k2, k3, k4, k5, k6, k7, k8, k9, k10, k11, k12⟩ := step_math' A N P Q ⟨n1, by omega⟩ ⟨p1, by omega⟩ ⟨q1, by omega⟩ ⟨a1, by omega⟩
  have W1 := Lib.hid (win_rat A N P Q (by omega) (by omega) (by omega) (by omega))
  have W2 := Lib.hid (win_rat (A + 1) N P Q (by omega) (by omega) (by omega) (by omega))
  have W3 := Lib.hid (win_rat (A - 1) N P Q (by omega) (by omega) (by omega) (by omega))
  have K1 := Lib.hid k1; have K2 := Lib.hid k2; have K3 := Lib.hid k3; have K4 := Lib.hid k4; have K5 := Lib.hid k5; have K6 := Lib.hid k6; have K7 := Lib.hid k7; have K8 := Lib.hid k8; have K9 := Lib.hid k9
  have K10 := Lib.hid k10; have K11 := Lib.hid k11; have K12 := Lib.hid k12
  clear k1 k2 k3 k4 k5 k6 k7 k8 k9 k10 k11 k12
  obtain ⟨x1, hx1⟩ : ∃ z, winP A N P Q = z := ⟨_, rfl⟩
  obtain ⟨x2, hx2⟩ : ∃ z, winQ A N P Q = z := ⟨_, rfl⟩
  obtain ⟨y1, hy1⟩ : ∃ z, winP (A + 1) N P Q = z := ⟨_, rfl⟩
  obtain ⟨y2, hy2⟩ : ∃ z, winQ (A + 1) N P Q = z := ⟨_, rfl⟩
  obtain ⟨z1, hz1⟩ : ∃ z, winP (A - 1) N P Q = z := ⟨_, rfl⟩
  obtain ⟨z2, hz2⟩ : ∃ z, winQ (A - 1) N P Q = z := ⟨_, rfl⟩
  obtain ⟨o2, ho2⟩ : ∃ z, winQ 0 N P Q = z := ⟨_, rfl⟩
  rw [hx1, hx2] at W1 K9
  rw [hy1, hy2] at W2 K5
  rw [hz1, hz2] at W3 K6
  have HX := Lib.hid (And.intro hx1 hx2); have HY := Lib.hid (And.intro hy1 hy2); have HZ := Lib.hid (And.intro hz1 hz2); have HO := Lib.hid ho2
  clear hx1 hx2 hy1 hy2 hz1 hz2 ho2
  go_enter Try.func3, Try.ntmps3
  go_wp2_with fail
  refine (ruins_any _).mono ?_; rintro e w1 ⟨rfl, hb⟩
  have R0 := (Rf.start w).keep hb
  clear hb
  go_wp2_with fail
  refine (ratios_any _).mono ?_; rintro e w1' ⟨rfl, hb⟩
  replace R0 := R0.keep hb
  clear hb
  go_wp2_with fail
  refine (within_any _ _ _ (by omega) (by omega)).mono ?_; rintro e w' ⟨rfl, rfl⟩
  go_wp2_with fail
  refine (within_any _ _ _ (by omega) (by omega)).mono ?_; rintro e w' ⟨rfl, rfl⟩
  go_wp2_with fail
  refine (within_any _ _ _ (by omega) (by omega)).mono ?_; rintro e w' ⟨rfl, rfl⟩
  go_wp2_with fail
  rw [HN.out, HP.out, HQ.out]
  refine (within_any _ _ _ (by omega) (by omega)).mono ?_; rintro e w' ⟨rfl, rfl⟩
  rw [HA.out]
  go_wp2_with fail
  rw [HA1.out]
  refine (ruinWin A N P Q _ (by omega) (by omega) (by omega) (by omega)).mono ?_; rintro e w2 ⟨rfl, hb⟩
  rw [HX.out.1, HX.out.2]
  have R := (R0.keep hb).push x1 x2
  clear R0 hb
  go_wp2_with fail
  rw [show (A : Int) + 1 = ((A + 1 : Nat) : Int) from rfl]
  refine (ruinWin (A + 1) N P Q _ (by omega) (by omega) (by omega) (by omega)).mono ?_; rintro e w3 ⟨rfl, hb⟩
  rw [HY.out.1, HY.out.2]
  replace R := (R.keep hb).push y1 y2
  clear hb
  go_wp2_with fail
  rw [show (A : Int) - 1 = ((A - 1 : Nat) : Int) from by omega]
  refine (ruinWin (A - 1) N P Q _ (by omega) (by omega) (by omega) (by omega)).mono ?_; rintro e w4 ⟨rfl, hb⟩
  rw [HZ.out.1, HZ.out.2]
  replace R := (R.keep hb).push z1 z2
  clear hb
  go_wp2_with fail
  refine (make_fits _ _ c d _ (by omega) (by omega) K1.out).mono ?_; rintro e w5 ⟨rfl, hb⟩
  replace R := (R.keep hb).push c d
  clear hb
  go_wp2_with fail
  refine (make_fits _ _ e_ f _ (by omega) (by omega) K2.out).mono ?_; rintro e w6 ⟨rfl, hb⟩
  replace R := (R.keep hb).push e_ f
  clear hb
  obtain ⟨g1, g2, g3⟩ := R.get 3 rfl
  obtain ⟨g4, g5, g6⟩ := R.get 1 rfl
  go_wp2_with fail
  refine (mul_fits y1 y2 c d u1 u2 _ W2.out K3.out K5.out K7.out).mono ?_; rintro e w7 ⟨rfl, hb⟩
  clear g1 g2 g3 g4 g5 g6
  replace R := (R.keep hb).push u1 u2
  clear hb
  obtain ⟨g1, g2, g3⟩ := R.get 3 rfl
  obtain ⟨g4, g5, g6⟩ := R.get 1 rfl
  go_wp2_with fail
  refine (mul_fits z1 z2 e_ f v1 v2 _ W3.out K4.out K6.out K8.out).mono ?_; rintro e w8 ⟨rfl, hb⟩
  clear g1 g2 g3 g4 g5 g6
  replace R := (R.keep hb).push v1 v2
  clear hb
  obtain ⟨g1, g2, g3⟩ := R.get 1 rfl
  obtain ⟨g4, g5, g6⟩ := R.get 0 rfl
  go_wp2_with fail
  refine (add_fits u1 u2 v1 v2 x1 x2 _ K7.out K8.out K9.out W1.out).mono ?_; rintro e w9 ⟨rfl, hb⟩
  clear g1 g2 g3 g4 g5 g6
  replace R := (R.keep hb).push x1 x2
  clear hb
  go_wp2_with fail
  refine (ruinWin 0 N P Q _ (by omega) (by omega) (by omega) (by omega)).mono ?_; rintro e w10 ⟨rfl, hb⟩
  rw [K10.out, HO.out]
  replace R := (R.keep hb).push 0 o2
  clear hb
  go_wp2_with fail
  refine (ruinWin N N P Q _ (by omega) (by omega) (by omega) (by omega)).mono ?_; rintro e w11 ⟨rfl, hb⟩
  rw [K11.out, K12.out]
  replace R := (R.keep hb).push 1 1
  clear hb
  go_wp2_with fail
  refine (good10b _ (w11.heap.size + 1) _ (by simp)).mono ?_; rintro e w' ⟨rfl, rfl⟩
  have R8 := R.alloc (.cells #[.int .i64 0, .int .i64 0, .int .i64 0, .int .i64 0, .int .i64 0, .int .i64 0, .int .i64 0, .int .i64 0, .int .i64 0, .int .i64 0] 26)
  clear R
  obtain ⟨g1, g2, g3⟩ := R8.get 0 rfl
  obtain ⟨g4, g5, g6⟩ := R8.get 1 rfl
  obtain ⟨g7, g8, g9⟩ := R8.get 2 rfl
  obtain ⟨g10, g11, g12⟩ := R8.get 9 rfl
  go_wp2_with fail
  go_ret
  exact ⟨by simp, R8.bel⟩

set_option maxRecDepth 100000 in
set_option maxHeartbeats 4000000 in
theorem ruinOther_any (a n p q : Int) (w : World) :
    Calls Try.prog 4 #[.int .i64 a, .int .i64 n, .int .i64 p, .int .i64 q] w fun e w' => e = .returned (.bool true) ∧ Below w.heap.size w w' := by
  obtain ⟨N, hN, n1, n2⟩ : ∃ m : Nat, (1 : Int) + n % 7 = m ∧ 1 ≤ m ∧ m < 1 + 7 := rest_one n 7 1 (by omega)
  obtain ⟨P, hP, p1, p2⟩ : ∃ m : Nat, (1 : Int) + p % 6 = m ∧ 1 ≤ m ∧ m < 1 + 6 := rest_one p 6 1 (by omega)
  obtain ⟨Q, hQ, q1, q2⟩ : ∃ m : Nat, (1 : Int) + q % 6 = m ∧ 1 ≤ m ∧ m < 1 + 6 := rest_one q 6 1 (by omega)
  obtain ⟨A, hA, a0⟩ : ∃ m : Nat, a % ((N : Int) + 1) = m ∧ m < N + 1 := rest_nat a (N + 1) (by omega)
  have HN := Lib.hid hN; have HP := Lib.hid hP; have HQ := Lib.hid hQ; have HA := Lib.hid hA
  clear hN hP hQ hA
  obtain ⟨k1, k2, k3⟩ := other_math' A N P Q ⟨n1, by omega⟩ ⟨p1, by omega⟩ ⟨q1, by omega⟩ (by omega)
  have W1 := Lib.hid (win_rat A N P Q (by omega) (by omega) (by omega) (by omega))
  have W2 := Lib.hid (win_rat (N - A) N Q P (by omega) (by omega) (by omega) (by omega))
  have W3 := Lib.hid (win_rat A N (P + 1) Q (by omega) (by omega) (by omega) (by omega))
  have K1 := Lib.hid k1; have K2 := Lib.hid k2; have K3 := Lib.hid k3
  have ONE : Hid (Rat1 1 1) := Lib.hid (by unfold Rat1; decide)
  clear k1 k2 k3
  obtain ⟨x1, hx1⟩ : ∃ z, winP A N P Q = z := ⟨_, rfl⟩
  obtain ⟨x2, hx2⟩ : ∃ z, winQ A N P Q = z := ⟨_, rfl⟩
  obtain ⟨y1, hy1⟩ : ∃ z, winP (N - A) N Q P = z := ⟨_, rfl⟩
  obtain ⟨y2, hy2⟩ : ∃ z, winQ (N - A) N Q P = z := ⟨_, rfl⟩
  obtain ⟨z1, hz1⟩ : ∃ z, winP A N (P + 1) Q = z := ⟨_, rfl⟩
  obtain ⟨z2, hz2⟩ : ∃ z, winQ A N (P + 1) Q = z := ⟨_, rfl⟩
  obtain ⟨o1, ho1⟩ : ∃ z, winP A N P P = z := ⟨_, rfl⟩
  obtain ⟨o2, ho2⟩ : ∃ z, winQ A N P P = z := ⟨_, rfl⟩
  rw [hx1, hx2] at W1
  rw [hy1, hy2] at W2
  rw [hz1, hz2] at W3
  rw [hx1, hx2, hy1, hy2] at K1
  rw [hx1, hx2, hz1, hz2] at K2
  rw [ho1, ho2] at K3
  have HX := Lib.hid (And.intro hx1 hx2); have HY := Lib.hid (And.intro hy1 hy2); have HZ := Lib.hid (And.intro hz1 hz2); have HO := Lib.hid (And.intro ho1 ho2)
  clear hx1 hx2 hy1 hy2 hz1 hz2 ho1 ho2
  go_enter Try.func4, Try.ntmps4
  go_wp2_with fail
  refine (ruins_any _).mono ?_; rintro e w1 ⟨rfl, hb⟩
  have R0 := (Rf.start w).keep hb
  clear hb
  go_wp2_with fail
  refine (ratios_any _).mono ?_; rintro e w1' ⟨rfl, hb⟩
  replace R0 := R0.keep hb
  clear hb
  go_wp2_with fail
  refine (within_any _ _ _ (by omega) (by omega)).mono ?_; rintro e w' ⟨rfl, rfl⟩
  go_wp2_with fail
  refine (within_any _ _ _ (by omega) (by omega)).mono ?_; rintro e w' ⟨rfl, rfl⟩
  go_wp2_with fail
  refine (within_any _ _ _ (by omega) (by omega)).mono ?_; rintro e w' ⟨rfl, rfl⟩
  go_wp2_with fail
  rw [HN.out, HP.out, HQ.out]
  refine (within_any _ _ _ (by omega) (by omega)).mono ?_; rintro e w' ⟨rfl, rfl⟩
  rw [HA.out]
  go_wp2_with fail
  refine (ruinWin A N P Q _ (by omega) (by omega) (by omega) (by omega)).mono ?_; rintro e w2 ⟨rfl, hb⟩
  rw [HX.out.1, HX.out.2]
  have R := (R0.keep hb).push x1 x2
  clear R0 hb
  go_wp2_with fail
  rw [show (N : Int) - (A : Int) = ((N - A : Nat) : Int) from by omega]
  refine (ruinWin (N - A) N Q P _ (by omega) (by omega) (by omega) (by omega)).mono ?_; rintro e w3 ⟨rfl, hb⟩
  rw [HY.out.1, HY.out.2]
  replace R := (R.keep hb).push y1 y2
  clear hb
  obtain ⟨g1, g2, g3⟩ := R.get 1 rfl
  obtain ⟨g4, g5, g6⟩ := R.get 0 rfl
  go_wp2_with fail
  refine (add_fits x1 x2 y1 y2 1 1 _ W1.out W2.out K1.out ONE.out).mono ?_; rintro e w4 ⟨rfl, hb⟩
  clear g1 g2 g3 g4 g5 g6
  replace R := (R.keep hb).push 1 1
  clear hb
  go_wp2_with fail
  rw [show (P : Int) + 1 = ((P + 1 : Nat) : Int) from rfl]
  refine (ruinWin A N (P + 1) Q _ (by omega) (by omega) (by omega) (by omega)).mono ?_; rintro e w5 ⟨rfl, hb⟩
  rw [HZ.out.1, HZ.out.2]
  replace R := (R.keep hb).push z1 z2
  clear hb
  obtain ⟨g1, g2, g3⟩ := R.get 0 rfl
  obtain ⟨g4, g5, g6⟩ := R.get 3 rfl
  go_wp2_with fail
  refine (less_ok z1 z2 x1 x2 _ W3.out W1.out).mono ?_; rintro e w6 ⟨rfl, hb⟩
  rw [show decide (z1 * x2 < x1 * z2) = false from decide_eq_false (by have := K2.out; omega)]
  clear g1 g2 g3 g4 g5 g6
  replace R := R.keep hb
  clear hb
  go_wp2_with fail
  refine (ruinWin A N P P _ (by omega) (by omega) (by omega) (by omega)).mono ?_; rintro e w7 ⟨rfl, hb⟩
  rw [HO.out.1, HO.out.2]
  replace R := (R.keep hb).push o1 o2
  clear hb
  go_wp2_with fail
  refine (make_fits _ _ o1 o2 _ (by omega) (by omega) K3.out).mono ?_; rintro e w8 ⟨rfl, hb⟩
  replace R := (R.keep hb).push o1 o2
  clear hb
  go_wp2_with fail
  refine (good7b _ (w8.heap.size + 1) _ (by simp)).mono ?_; rintro e w' ⟨rfl, rfl⟩
  have R8 := R.alloc (.cells #[.int .i64 0, .int .i64 0, .int .i64 0, .int .i64 0, .int .i64 0, .int .i64 0, .int .i64 0] 26)
  clear R
  obtain ⟨g1, g2, g3⟩ := R8.get 0 rfl
  obtain ⟨g4, g5, g6⟩ := R8.get 1 rfl
  obtain ⟨g7, g8, g9⟩ := R8.get 3 rfl
  go_wp2_with fail
  go_ret
  exact ⟨by simp, R8.bel⟩

set_option maxRecDepth 100000 in
set_option maxHeartbeats 4000000 in
theorem ruinTime_any (a n p q : Int) (w : World) :
    Calls Try.prog 5 #[.int .i64 a, .int .i64 n, .int .i64 p, .int .i64 q] w fun e w' => e = .returned (.bool true) ∧ Below w.heap.size w w' := by
  obtain ⟨N, hN, n1, n2⟩ : ∃ m : Nat, (2 : Int) + n % 4 = m ∧ 2 ≤ m ∧ m < 2 + 4 := rest_one n 4 2 (by omega)
  obtain ⟨P, hP, p1, p2⟩ : ∃ m : Nat, (1 : Int) + p % 5 = m ∧ 1 ≤ m ∧ m < 1 + 5 := rest_one p 5 1 (by omega)
  obtain ⟨Q, hQ, q1, q2⟩ : ∃ m : Nat, (1 : Int) + q % 5 = m ∧ 1 ≤ m ∧ m < 1 + 5 := rest_one q 5 1 (by omega)
  obtain ⟨A0, hA, a0⟩ : ∃ m : Nat, a % ((N : Int) - 1) = m ∧ m < N - 1 := by
    have := rest_nat a (N - 1) (by omega)
    rw [show ((N - 1 : Nat) : Int) = (N : Int) - 1 from by omega] at this
    exact this
  obtain ⟨A, hA1⟩ : ∃ A, A = A0 + 1 := ⟨_, rfl⟩
  have a1 : 1 ≤ A := by omega
  have a2 : A < N := by omega
  have HA1 : Hid ((1 : Int) + (A0 : Int) = (A : Int)) := Lib.hid (by omega)
  clear hA1
  have HN := Lib.hid hN; have HP := Lib.hid hP; have HQ := Lib.hid hQ; have HA := Lib.hid hA
  clear hN hP hQ hA
  obtain ⟨c, d, e_, f, u1, u2, v1, v2, s1, s2, k1, k2, k3, k4, k5, k6, k7, k8, k9, k10, k11⟩ := time_math' A N P Q ⟨n1, by omega⟩ ⟨p1, by omega⟩ ⟨q1, by omega⟩ ⟨a1, by omega⟩
  have W1 := Lib.hid (tim_math A N P Q (by omega) (by omega) (by omega) (by omega)).2.2
  have W2 := Lib.hid (tim_math (A + 1) N P Q (by omega) (by omega) (by omega) (by omega)).2.2
  have W3 := Lib.hid (tim_math (A - 1) N P Q (by omega) (by omega) (by omega) (by omega)).2.2
  have K1 := Lib.hid k1; have K2 := Lib.hid k2; have K3 := Lib.hid k3; have K4 := Lib.hid k4; have K5 := Lib.hid k5; have K6 := Lib.hid k6; have K7 := Lib.hid k7; have K8 := Lib.hid k8; have K9 := Lib.hid k9
  have K10 := Lib.hid k10; have K11 := Lib.hid k11
  clear k1 k2 k3 k4 k5 k6 k7 k8 k9 k10 k11
  have ONE : Hid (Rat1 1 1) := Lib.hid (by unfold Rat1; decide)
  have E13 : Hid ((tmZ 1 3 1 1).1 = 2 ∧ (tmZ 1 3 1 1).2 = 1) := Lib.hid (by decide +kernel)
  obtain ⟨x1, hx1⟩ : ∃ z, (tmZ A N P Q).1 = z := ⟨_, rfl⟩
  obtain ⟨x2, hx2⟩ : ∃ z, (tmZ A N P Q).2 = z := ⟨_, rfl⟩
  obtain ⟨y1, hy1⟩ : ∃ z, (tmZ (A + 1) N P Q).1 = z := ⟨_, rfl⟩
  obtain ⟨y2, hy2⟩ : ∃ z, (tmZ (A + 1) N P Q).2 = z := ⟨_, rfl⟩
  obtain ⟨z1, hz1⟩ : ∃ z, (tmZ (A - 1) N P Q).1 = z := ⟨_, rfl⟩
  obtain ⟨z2, hz2⟩ : ∃ z, (tmZ (A - 1) N P Q).2 = z := ⟨_, rfl⟩
  rw [hx1, hx2] at W1 K11
  rw [hy1, hy2] at W2 K5
  rw [hz1, hz2] at W3 K6
  have HX := Lib.hid (And.intro hx1 hx2); have HY := Lib.hid (And.intro hy1 hy2); have HZ := Lib.hid (And.intro hz1 hz2)
  clear hx1 hx2 hy1 hy2 hz1 hz2
  go_enter Try.func5, Try.ntmps5
  go_wp2_with fail
  refine (ruinTime 1 3 1 1 _ (by omega) (by omega) (by omega) (by omega)).mono ?_; rintro e w1 ⟨rfl, hb⟩
  rw [E13.out.1, E13.out.2]
  have R0 := ((Rf.start w).keep hb).push 2 1
  clear hb
  obtain ⟨g1, g2, g3⟩ := R0.get 0 rfl
  go_wp2_with fail
  refine (ratios_any _).mono ?_; rintro e w1' ⟨rfl, hb⟩
  clear g1 g2 g3
  replace R0 := R0.keep hb
  clear hb
  go_wp2_with fail
  refine (within_any _ _ _ (by omega) (by omega)).mono ?_; rintro e w' ⟨rfl, rfl⟩
  go_wp2_with fail
  refine (within_any _ _ _ (by omega) (by omega)).mono ?_; rintro e w' ⟨rfl, rfl⟩
  go_wp2_with fail
  refine (within_any _ _ _ (by omega) (by omega)).mono ?_; rintro e w' ⟨rfl, rfl⟩
  go_wp2_with fail
  rw [HN.out, HP.out, HQ.out]
  refine (within_any _ _ _ (by omega) (by omega)).mono ?_; rintro e w' ⟨rfl, rfl⟩
  rw [HA.out]
  go_wp2_with fail
  rw [HA1.out]
  refine (ruinTime A N P Q _ (by omega) (by omega) (by omega) (by omega)).mono ?_; rintro e w2 ⟨rfl, hb⟩
  rw [HX.out.1, HX.out.2]
  have R := (R0.keep hb).push x1 x2
  clear R0 hb
  go_wp2_with fail
  rw [show (A : Int) + 1 = ((A + 1 : Nat) : Int) from rfl]
  refine (ruinTime (A + 1) N P Q _ (by omega) (by omega) (by omega) (by omega)).mono ?_; rintro e w3 ⟨rfl, hb⟩
  rw [HY.out.1, HY.out.2]
  replace R := (R.keep hb).push y1 y2
  clear hb
  go_wp2_with fail
  rw [show (A : Int) - 1 = ((A - 1 : Nat) : Int) from by omega]
  refine (ruinTime (A - 1) N P Q _ (by omega) (by omega) (by omega) (by omega)).mono ?_; rintro e w4 ⟨rfl, hb⟩
  rw [HZ.out.1, HZ.out.2]
  replace R := (R.keep hb).push z1 z2
  clear hb
  go_wp2_with fail
  refine (make_fits _ _ c d _ (by omega) (by omega) K1.out).mono ?_; rintro e w5 ⟨rfl, hb⟩
  replace R := (R.keep hb).push c d
  clear hb
  go_wp2_with fail
  refine (make_fits _ _ e_ f _ (by omega) (by omega) K2.out).mono ?_; rintro e w6 ⟨rfl, hb⟩
  replace R := (R.keep hb).push e_ f
  clear hb
  obtain ⟨g1, g2, g3⟩ := R.get 3 rfl
  obtain ⟨g4, g5, g6⟩ := R.get 1 rfl
  go_wp2_with fail
  refine (mul_fits y1 y2 c d u1 u2 _ W2.out K3.out K5.out K7.out).mono ?_; rintro e w7 ⟨rfl, hb⟩
  clear g1 g2 g3 g4 g5 g6
  replace R := (R.keep hb).push u1 u2
  clear hb
  obtain ⟨g1, g2, g3⟩ := R.get 3 rfl
  obtain ⟨g4, g5, g6⟩ := R.get 1 rfl
  go_wp2_with fail
  refine (mul_fits z1 z2 e_ f v1 v2 _ W3.out K4.out K6.out K8.out).mono ?_; rintro e w8 ⟨rfl, hb⟩
  clear g1 g2 g3 g4 g5 g6
  replace R := (R.keep hb).push v1 v2
  clear hb
  obtain ⟨g1, g2, g3⟩ := R.get 1 rfl
  obtain ⟨g4, g5, g6⟩ := R.get 0 rfl
  go_wp2_with fail
  refine (add_fits u1 u2 v1 v2 s1 s2 _ K7.out K8.out K9.out K10.out).mono ?_; rintro e w9 ⟨rfl, hb⟩
  clear g1 g2 g3 g4 g5 g6
  replace R := (R.keep hb).push s1 s2
  clear hb
  obtain ⟨g1, g2, g3⟩ := R.get 0 rfl
  go_wp2_with fail
  refine (add_fits s1 s2 1 1 x1 x2 _ K10.out ONE.out K11.out W1.out).mono ?_; rintro e w10 ⟨rfl, hb⟩
  clear g1 g2 g3
  replace R := (R.keep hb).push x1 x2
  clear hb
  go_wp2_with fail
  refine (good9b _ (w10.heap.size + 1) _ (by simp)).mono ?_; rintro e w' ⟨rfl, rfl⟩
  have R8 := R.alloc (.cells #[.int .i64 0, .int .i64 0, .int .i64 0, .int .i64 0, .int .i64 0, .int .i64 0, .int .i64 0, .int .i64 0, .int .i64 0] 26)
  clear R
  obtain ⟨g1, g2, g3⟩ := R8.get 0 rfl
  obtain ⟨g4, g5, g6⟩ := R8.get 8 rfl
  go_wp2_with fail
  go_ret
  exact ⟨by simp, R8.bel⟩
end Go.Proofs.Ytghobphnjfgjeaa
