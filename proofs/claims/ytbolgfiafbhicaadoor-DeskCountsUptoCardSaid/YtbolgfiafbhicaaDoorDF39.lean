/- Several of my texts in one: Rat2. -/
import Derived.Test.YtbolgfiafbhicaaDoorDF38
/- Contracts of ratio.Make, Add, Mul, Div, Less. -/
namespace Go.Proofs.YtbolgfiafbhicaaDoor
open Go.RowKit

set_option maxHeartbeats 400000 in
theorem add_any (P Q R S : Int) (w : World) (h : Rat1 P Q) (h2 : Rat1 R S) :
    Calls Tryd.prog 40 #[.agg #[.int .i64 P, .int .i64 Q], .agg #[.int .i64 R, .int .i64 S]] w (LowSaid (P * S + R * Q) (Q * S) w) := by
  obtain ⟨⟨a1, a2⟩, ⟨a3, a4⟩, ⟨a5, a6⟩, ⟨a7, a8⟩, ⟨a9, a10⟩⟩ := rat_mul_bd h h2
  have H1 := Lib.hid h; have H2 := Lib.hid h2; clear h h2
  go_enter Tryd.func40, Tryd.ntmps40
  go_wp2_with fail
  refine (both_ok _ _ _ _ _ H1.out H2.out).mono ?_; rintro e w1 ⟨rfl, hb⟩
  obtain ⟨c0, c1, c2, c3, c4, c5, f0, f1, hz, hk⟩ := res222 hb
  have HK := Lib.hid hk; clear hb hk
  go_wp2_with fail
  refine (low_any _ _ _ (by omega) (by omega)).mono ?_; rintro e w2 ⟨X, Y, er, rfl, hl, hb⟩
  have HL := Lib.hid hl; clear hl
  have d4 := keep_cell hb c4 (by simp; omega)
  have d5 := keep_cell hb c5 (by simp; omega)
  have g0 := keep_thaw hb f0 (by simp; omega)
  have g1 := keep_thaw hb f1 (by simp; omega)
  have hz2 := hb.size
  have HB := Lib.hid (kin_trans HK.out hb); clear hb HK c0 c1 c2 c3 c4 c5 f0 f1
  go_wp2_with fail
  exact bodyPost_ret (v := .tuple #[.agg #[.int .i64 X, .int .i64 Y], .int .i64 er]) (by simp [results, Tryd.results40, go_sem, d4, d5]) rfl
    ⟨X, Y, er, rfl, HL.out, (HB.out.setCell (by simp; omega) _).setCell (by simp; omega) _⟩

set_option maxHeartbeats 400000 in
theorem make_pos (p q : Int) (w : World) (hp : -1000000000 ≤ p ∧ p ≤ 1000000000) (hq : 0 < q ∧ q ≤ 1000000000) :
    Calls Tryd.prog 39 #[.int .i64 p, .int .i64 q] w fun e w' => e = .returned (.tuple #[.agg #[.int .i64 (redP p q), .int .i64 (redQ p q)], .int .i64 0]) ∧ Below w.heap.size w w' := by
  have q1 := redQ_le p q hq.1
  have q2 := redP_bdB 1000000000 p q (by omega) hq.1 hp
  have H1 := Lib.hid q1; have H2 := Lib.hid q2; clear q1 q2
  obtain ⟨hp1, hp2⟩ := hp
  obtain ⟨hq1, hq2⟩ := hq
  have d1 : decide (p < -1000000000) = false := by simp; omega
  have d2 : decide (1000000000 < p) = false := by simp; omega
  have d3 : decide (q < -1000000000) = false := by simp; omega
  have d4 : decide (1000000000 < q) = false := by simp; omega
  have z : (q == 0) = false := by simp; omega
  go_enter Tryd.func39, Tryd.ntmps39
  go_wp2_with fail
  refine (low_ok _ _ _ (by omega) (by omega) (by have := H1.out; omega) H2.out.1 H2.out.2).mono ?_; rintro e w1 ⟨rfl, hb⟩
  obtain ⟨c0, c1, f0, f1, hz, hk⟩ := res2 hb
  have HB := Lib.hid hk
  clear hb hk
  go_wp2_with fail
  exact bodyPost_ret (v := .tuple #[.agg #[.int .i64 (redP p q), .int .i64 (redQ p q)], .int .i64 0]) (by simp [results, Tryd.results39, go_sem, c0, c1]) rfl
    ⟨rfl, (HB.out.setCell (Nat.le_refl _) _).setCell (Nat.le_refl _) _⟩
set_option maxHeartbeats 400000 in
theorem make_neg (p q : Int) (w : World) (hp : -1000000000 ≤ p ∧ p ≤ 1000000000) (hq : q < 0 ∧ -1000000000 ≤ q) :
    Calls Tryd.prog 39 #[.int .i64 p, .int .i64 q] w fun e w' => e = .returned (.tuple #[.agg #[.int .i64 (redP (-p) (-q)), .int .i64 (redQ (-p) (-q))], .int .i64 0]) ∧ Below w.heap.size w w' := by
  have q1 := redQ_le (-p) (-q) (by omega)
  have q2 := redP_bdB 1000000000 (-p) (-q) (by omega) (by omega) (by omega)
  have H1 := Lib.hid q1; have H2 := Lib.hid q2; clear q1 q2
  obtain ⟨hp1, hp2⟩ := hp
  obtain ⟨hq1, hq2⟩ := hq
  have d1 : decide (p < -1000000000) = false := by simp; omega
  have d2 : decide (1000000000 < p) = false := by simp; omega
  have d3 : decide (q < -1000000000) = false := by simp; omega
  have d4 : decide (1000000000 < q) = false := by simp; omega
  have z : (q == 0) = false := by simp; omega
  go_enter Tryd.func39, Tryd.ntmps39
  go_wp2_with fail
  refine (low_ok _ _ _ (by omega) (by omega) (by have := H1.out; omega) H2.out.1 H2.out.2).mono ?_; rintro e w1 ⟨rfl, hb⟩
  obtain ⟨c0, c1, f0, f1, hz, hk⟩ := res2 hb
  have HB := Lib.hid hk
  clear hb hk
  go_wp2_with fail
  exact bodyPost_ret (v := .tuple #[.agg #[.int .i64 (redP (-p) (-q)), .int .i64 (redQ (-p) (-q))], .int .i64 0]) (by simp [results, Tryd.results39, go_sem, c0, c1]) rfl
    ⟨rfl, (HB.out.setCell (Nat.le_refl _) _).setCell (Nat.le_refl _) _⟩
theorem make_large (p q : Int) (w : World) (h : p < -1000000000 ∨ 1000000000 < p ∨ q < -1000000000 ∨ 1000000000 < q) :
    Calls Tryd.prog 39 #[.int .i64 p, .int .i64 q] w fun e w' => e = .returned (.tuple #[.agg #[.int .i64 0, .int .i64 0], .int .i64 1]) ∧ Below w.heap.size w w' := by
  have HH := Lib.hid h; clear h
  by_cases h1 : p < -1000000000
  · have d1 : decide (p < -1000000000) = true := by simpa using h1
    go_enter Tryd.func39, Tryd.ntmps39
    go_wp2_with fail
    exact bodyPost_ret (v := .tuple #[.agg #[.int .i64 0, .int .i64 0], .int .i64 1]) (by simp [results, Tryd.results39, go_sem]) rfl ⟨rfl, kin_alloc (Below.refl _ _) _⟩
  · have d1 : decide (p < -1000000000) = false := by simpa using h1
    by_cases h2 : 1000000000 < p
    · have d2 : decide (1000000000 < p) = true := by simpa using h2
      go_enter Tryd.func39, Tryd.ntmps39
      go_wp2_with fail
      exact bodyPost_ret (v := .tuple #[.agg #[.int .i64 0, .int .i64 0], .int .i64 1]) (by simp [results, Tryd.results39, go_sem]) rfl ⟨rfl, kin_alloc (Below.refl _ _) _⟩
    · have d2 : decide (1000000000 < p) = false := by simpa using h2
      by_cases h3 : q < -1000000000
      · have d3 : decide (q < -1000000000) = true := by simpa using h3
        go_enter Tryd.func39, Tryd.ntmps39
        go_wp2_with fail
        exact bodyPost_ret (v := .tuple #[.agg #[.int .i64 0, .int .i64 0], .int .i64 1]) (by simp [results, Tryd.results39, go_sem]) rfl ⟨rfl, kin_alloc (Below.refl _ _) _⟩
      · have d3 : decide (q < -1000000000) = false := by simpa using h3
        have d4 : decide (1000000000 < q) = true := by have := HH.out; simp; omega
        go_enter Tryd.func39, Tryd.ntmps39
        go_wp2_with fail
        exact bodyPost_ret (v := .tuple #[.agg #[.int .i64 0, .int .i64 0], .int .i64 1]) (by simp [results, Tryd.results39, go_sem]) rfl ⟨rfl, kin_alloc (Below.refl _ _) _⟩
theorem make_zero (p : Int) (w : World) (hp : -1000000000 ≤ p ∧ p ≤ 1000000000) :
    Calls Tryd.prog 39 #[.int .i64 p, .int .i64 0] w fun e w' => e = .returned (.tuple #[.agg #[.int .i64 0, .int .i64 0], .int .i64 5]) ∧ Below w.heap.size w w' := by
  have d1 : decide (p < -1000000000) = false := by simp; omega
  have d2 : decide (1000000000 < p) = false := by simp; omega
  go_enter Tryd.func39, Tryd.ntmps39
  go_wp2_with fail
  exact bodyPost_ret (v := .tuple #[.agg #[.int .i64 0, .int .i64 0], .int .i64 5]) (by simp [results, Tryd.results39, go_sem]) rfl ⟨rfl, kin_alloc (Below.refl _ _) _⟩

/-- what Make answers where p by q is told well -/
def mkP (p q : Int) : Int := if q < 0 then redP (-p) (-q) else redP p q
def mkQ (p q : Int) : Int := if q < 0 then redQ (-p) (-q) else redQ p q
theorem make_ok (p q : Int) (w : World) (hp : -1000000000 ≤ p ∧ p ≤ 1000000000) (hq : -1000000000 ≤ q ∧ q ≤ 1000000000) (h0 : q ≠ 0) :
    Calls Tryd.prog 39 #[.int .i64 p, .int .i64 q] w fun e w' => e = .returned (.tuple #[.agg #[.int .i64 (mkP p q), .int .i64 (mkQ p q)], .int .i64 0]) ∧ Below w.heap.size w w' := by
  unfold mkP mkQ
  by_cases h : q < 0
  · rw [if_pos h, if_pos h]; exact make_neg p q w hp ⟨h, hq.1⟩
  · rw [if_neg h, if_neg h]; exact make_pos p q w hp ⟨by omega, hq.2⟩
theorem mk_rat (p q : Int) (hp : -1000000000 ≤ p ∧ p ≤ 1000000000) (hq : -1000000000 ≤ q ∧ q ≤ 1000000000) (h0 : q ≠ 0) : Rat1 (mkP p q) (mkQ p q) ∧ mkP p q * q = p * mkQ p q := by
  unfold mkP mkQ
  by_cases h : q < 0
  · rw [if_pos h, if_pos h]
    have h1 : 0 < -q := by omega
    have b1 := redP_bdB 1000000000 (-p) (-q) (by omega) h1 (by omega)
    have b2 := redQ_le (-p) (-q) h1
    have b3 := redQ_pos (-p) (-q) h1
    refine ⟨⟨by omega, by omega, b1.1, b1.2, red_gcd _ _ h1⟩, ?_⟩
    have := red_cross (-p) (-q)
    generalize redP (-p) (-q) = x at *
    generalize redQ (-p) (-q) = y at *
    grind
  · rw [if_neg h, if_neg h]
    have h1 : 0 < q := by omega
    have b1 := redP_bdB 1000000000 p q (by omega) h1 hp
    have b2 := redQ_le p q h1
    have b3 := redQ_pos p q h1
    exact ⟨⟨by omega, by omega, b1.1, b1.2, red_gcd _ _ h1⟩, red_cross p q⟩
theorem red_scale (k p q : Int) (hk : 0 < k) (hq : 0 < q) : redP (k * p) (k * q) = redP p q ∧ redQ (k * p) (k * q) = redQ p q := by
  have g : redG (k * p) (k * q) = k * redG p q := by
    unfold redG
    rw [Int.gcd_mul_left]
    rw [Int.natCast_mul, Int.natAbs_of_nonneg (by omega)]
  have gp := redG_pos p q hq
  unfold redP redQ
  rw [g]
  exact ⟨Int.mul_ediv_mul_of_pos _ _ hk, Int.mul_ediv_mul_of_pos _ _ hk⟩
theorem mk_scale (k p q : Int) (hk : 0 < k) (hq : q ≠ 0) : mkP (k * p) (k * q) = mkP p q ∧ mkQ (k * p) (k * q) = mkQ p q := by
  unfold mkP mkQ
  by_cases h : q < 0
  · have h1 : k * q < 0 := Int.mul_neg_of_pos_of_neg hk h
    rw [if_pos h, if_pos h, if_pos h1, if_pos h1, ← Int.mul_neg, ← Int.mul_neg]
    exact red_scale k (-p) (-q) hk (by omega)
  · have h1 : 0 < k * q := Int.mul_pos hk (by omega)
    rw [if_neg h, if_neg h, if_neg (by omega), if_neg (by omega)]
    exact red_scale k p q hk (by omega)
theorem mk_neg (p q : Int) (hq : q ≠ 0) : mkP (-p) (-q) = mkP p q ∧ mkQ (-p) (-q) = mkQ p q := by
  unfold mkP mkQ
  by_cases h : q < 0
  · rw [if_pos h, if_pos h, if_neg (by omega), if_neg (by omega)]; exact ⟨rfl, rfl⟩
  · rw [if_neg h, if_neg h, if_pos (by omega), if_pos (by omega), Int.neg_neg, Int.neg_neg]; exact ⟨rfl, rfl⟩
end Go.Proofs.YtbolgfiafbhicaaDoor
