/- Several of my texts in one: Rat2, MathRat. -/
import Derived.Test.YtooghdnlaonkaaaRw02
/- Contracts of ratio.Make, Add, Mul, Div, Less. -/
namespace Go.Proofs.Ytooghdnlaonkaaa
open Go.RowKit


set_option maxHeartbeats 400000 in
theorem mul_any (P Q R S : Int) (w : World) (h : Rat1 P Q) (h2 : Rat1 R S) :
    Calls Try.prog 131 #[.agg #[.int .i64 P, .int .i64 Q], .agg #[.int .i64 R, .int .i64 S]] w (LowSaid (P * R) (Q * S) w) := by
  obtain ⟨⟨a1, a2⟩, ⟨a3, a4⟩, ⟨a5, a6⟩, ⟨a7, a8⟩, ⟨a9, a10⟩⟩ := rat_mul_bd h h2
  have H1 := Lib.hid h; have H2 := Lib.hid h2; clear h h2
  go_enter Try.func131, Try.ntmps131
  go_wp2_with fail
  refine (both_ok _ _ _ _ _ H1.out H2.out).mono ?_; rintro e w1 ⟨rfl, hb⟩
  obtain ⟨c0, c1, c2, c3, c4, c5, f0, f1, hz, hk⟩ := res222 hb
  have HK := Lib.hid hk; clear hb hk
  go_wp2_with fail
  refine (low_any _ _ _ (by omega) (by omega)).mono ?_; rintro e w2 ⟨X, Y, er, rfl, hl, hb⟩
  have HL := Lib.hid hl; clear hl
  have d4 := keep_cell hb c4 (by simp; omega)
  have d5 := keep_cell hb c5 (by simp; omega)
  have g0 := keep_thaw hb f0 (by simp; omega)
  have g1 := keep_thaw hb f1 (by simp; omega)
  have hz2 := hb.size
  have HB := Lib.hid (kin_trans HK.out hb); clear hb HK c0 c1 c2 c3 c4 c5 f0 f1
  go_wp2_with fail
  exact bodyPost_ret (v := .tuple #[.agg #[.int .i64 X, .int .i64 Y], .int .i64 er]) (by simp [results, Try.results131, go_sem, d4, d5]) rfl
    ⟨X, Y, er, rfl, HL.out, (HB.out.setCell (by simp; omega) _).setCell (by simp; omega) _⟩
set_option maxHeartbeats 400000 in
theorem make_pos (p q : Int) (w : World) (hp : -1000000000 ≤ p ∧ p ≤ 1000000000) (hq : 0 < q ∧ q ≤ 1000000000) :
    Calls Try.prog 130 #[.int .i64 p, .int .i64 q] w fun e w' => e = .returned (.tuple #[.agg #[.int .i64 (redP p q), .int .i64 (redQ p q)], .int .i64 0]) ∧ Below w.heap.size w w' := by
  have q1 := redQ_le p q hq.1
  have q2 := redP_bdB 1000000000 p q (by omega) hq.1 hp
  have H1 := Lib.hid q1; have H2 := Lib.hid q2; clear q1 q2
  obtain ⟨hp1, hp2⟩ := hp
  obtain ⟨hq1, hq2⟩ := hq
  have d1 : decide (p < -1000000000) = false := by simp; omega
  have d2 : decide (1000000000 < p) = false := by simp; omega
  have d3 : decide (q < -1000000000) = false := by simp; omega
  have d4 : decide (1000000000 < q) = false := by simp; omega
  have z : (q == 0) = false := by simp; omega
  go_enter Try.func130, Try.ntmps130
  go_wp2_with fail
  refine (low_ok _ _ _ (by omega) (by omega) (by have := H1.out; omega) H2.out.1 H2.out.2).mono ?_; rintro e w1 ⟨rfl, hb⟩
  obtain ⟨c0, c1, f0, f1, hz, hk⟩ := res2 hb
  have HB := Lib.hid hk
  clear hb hk
  go_wp2_with fail
  exact bodyPost_ret (v := .tuple #[.agg #[.int .i64 (redP p q), .int .i64 (redQ p q)], .int .i64 0]) (by simp [results, Try.results130, go_sem, c0, c1]) rfl
    ⟨rfl, (HB.out.setCell (Nat.le_refl _) _).setCell (Nat.le_refl _) _⟩
set_option maxHeartbeats 400000 in
theorem make_neg (p q : Int) (w : World) (hp : -1000000000 ≤ p ∧ p ≤ 1000000000) (hq : q < 0 ∧ -1000000000 ≤ q) :
    Calls Try.prog 130 #[.int .i64 p, .int .i64 q] w fun e w' => e = .returned (.tuple #[.agg #[.int .i64 (redP (-p) (-q)), .int .i64 (redQ (-p) (-q))], .int .i64 0]) ∧ Below w.heap.size w w' := by
  have q1 := redQ_le (-p) (-q) (by omega)
  have q2 := redP_bdB 1000000000 (-p) (-q) (by omega) (by omega) (by omega)
  have H1 := Lib.hid q1; have H2 := Lib.hid q2; clear q1 q2
  obtain ⟨hp1, hp2⟩ := hp
  obtain ⟨hq1, hq2⟩ := hq
  have d1 : decide (p < -1000000000) = false := by simp; omega
  have d2 : decide (1000000000 < p) = false := by simp; omega
  have d3 : decide (q < -1000000000) = false := by simp; omega
  have d4 : decide (1000000000 < q) = false := by simp; omega
  have z : (q == 0) = false := by simp; omega
  go_enter Try.func130, Try.ntmps130
  go_wp2_with fail
  refine (low_ok _ _ _ (by omega) (by omega) (by have := H1.out; omega) H2.out.1 H2.out.2).mono ?_; rintro e w1 ⟨rfl, hb⟩
  obtain ⟨c0, c1, f0, f1, hz, hk⟩ := res2 hb
  have HB := Lib.hid hk
  clear hb hk
  go_wp2_with fail
  exact bodyPost_ret (v := .tuple #[.agg #[.int .i64 (redP (-p) (-q)), .int .i64 (redQ (-p) (-q))], .int .i64 0]) (by simp [results, Try.results130, go_sem, c0, c1]) rfl
    ⟨rfl, (HB.out.setCell (Nat.le_refl _) _).setCell (Nat.le_refl _) _⟩
theorem make_large (p q : Int) (w : World) (h : p < -1000000000 ∨ 1000000000 < p ∨ q < -1000000000 ∨ 1000000000 < q) :
    Calls Try.prog 130 #[.int .i64 p, .int .i64 q] w fun e w' => e = .returned (.tuple #[.agg #[.int .i64 0, .int .i64 0], .int .i64 1]) ∧ Below w.heap.size w w' := by
  have HH := Lib.hid h; clear h
  by_cases h1 : p < -1000000000
  · have d1 : decide (p < -1000000000) = true := by simpa using h1
    go_enter Try.func130, Try.ntmps130
    go_wp2_with fail
    exact bodyPost_ret (v := .tuple #[.agg #[.int .i64 0, .int .i64 0], .int .i64 1]) (by simp [results, Try.results130, go_sem]) rfl ⟨rfl, kin_alloc (Below.refl _ _) _⟩
  · have d1 : decide (p < -1000000000) = false := by simpa using h1
    by_cases h2 : 1000000000 < p
    · have d2 : decide (1000000000 < p) = true := by simpa using h2
      go_enter Try.func130, Try.ntmps130
      go_wp2_with fail
      exact bodyPost_ret (v := .tuple #[.agg #[.int .i64 0, .int .i64 0], .int .i64 1]) (by simp [results, Try.results130, go_sem]) rfl ⟨rfl, kin_alloc (Below.refl _ _) _⟩
    · have d2 : decide (1000000000 < p) = false := by simpa using h2
      by_cases h3 : q < -1000000000
      · have d3 : decide (q < -1000000000) = true := by simpa using h3
        go_enter Try.func130, Try.ntmps130
        go_wp2_with fail
        exact bodyPost_ret (v := .tuple #[.agg #[.int .i64 0, .int .i64 0], .int .i64 1]) (by simp [results, Try.results130, go_sem]) rfl ⟨rfl, kin_alloc (Below.refl _ _) _⟩
      · have d3 : decide (q < -1000000000) = false := by simpa using h3
        have d4 : decide (1000000000 < q) = true := by have := HH.out; simp; omega
        go_enter Try.func130, Try.ntmps130
        go_wp2_with fail
        exact bodyPost_ret (v := .tuple #[.agg #[.int .i64 0, .int .i64 0], .int .i64 1]) (by simp [results, Try.results130, go_sem]) rfl ⟨rfl, kin_alloc (Below.refl _ _) _⟩
theorem make_zero (p : Int) (w : World) (hp : -1000000000 ≤ p ∧ p ≤ 1000000000) :
    Calls Try.prog 130 #[.int .i64 p, .int .i64 0] w fun e w' => e = .returned (.tuple #[.agg #[.int .i64 0, .int .i64 0], .int .i64 5]) ∧ Below w.heap.size w w' := by
  have d1 : decide (p < -1000000000) = false := by simp; omega
  have d2 : decide (1000000000 < p) = false := by simp; omega
  go_enter Try.func130, Try.ntmps130
  go_wp2_with fail
  exact bodyPost_ret (v := .tuple #[.agg #[.int .i64 0, .int .i64 0], .int .i64 5]) (by simp [results, Try.results130, go_sem]) rfl ⟨rfl, kin_alloc (Below.refl _ _) _⟩

/-- what Make answers where p by q is told well -/
def mkP (p q : Int) : Int := if q < 0 then redP (-p) (-q) else redP p q
def mkQ (p q : Int) : Int := if q < 0 then redQ (-p) (-q) else redQ p q
theorem make_ok (p q : Int) (w : World) (hp : -1000000000 ≤ p ∧ p ≤ 1000000000) (hq : -1000000000 ≤ q ∧ q ≤ 1000000000) (h0 : q ≠ 0) :
    Calls Try.prog 130 #[.int .i64 p, .int .i64 q] w fun e w' => e = .returned (.tuple #[.agg #[.int .i64 (mkP p q), .int .i64 (mkQ p q)], .int .i64 0]) ∧ Below w.heap.size w w' := by
  unfold mkP mkQ
  by_cases h : q < 0
  · rw [if_pos h, if_pos h]; exact make_neg p q w hp ⟨h, hq.1⟩
  · rw [if_neg h, if_neg h]; exact make_pos p q w hp ⟨by omega, hq.2⟩
theorem mk_rat (p q : Int) (hp : -1000000000 ≤ p ∧ p ≤ 1000000000) (hq : -1000000000 ≤ q ∧ q ≤ 1000000000) (h0 : q ≠ 0) : Rat1 (mkP p q) (mkQ p q) ∧ mkP p q * q = p * mkQ p q := by
  unfold mkP mkQ
  by_cases h : q < 0
  · rw [if_pos h, if_pos h]
    have h1 : 0 < -q := by omega
    have b1 := redP_bdB 1000000000 (-p) (-q) (by omega) h1 (by omega)
    have b2 := redQ_le (-p) (-q) h1
    have b3 := redQ_pos (-p) (-q) h1
    refine ⟨⟨by omega, by omega, b1.1, b1.2, red_gcd _ _ h1⟩, ?_⟩
    have := red_cross (-p) (-q)
    generalize redP (-p) (-q) = x at *
    generalize redQ (-p) (-q) = y at *
    grind
  · rw [if_neg h, if_neg h]
    have h1 : 0 < q := by omega
    have b1 := redP_bdB 1000000000 p q (by omega) h1 hp
    have b2 := redQ_le p q h1
    have b3 := redQ_pos p q h1
    exact ⟨⟨by omega, by omega, b1.1, b1.2, red_gcd _ _ h1⟩, red_cross p q⟩
theorem red_scale (k p q : Int) (hk : 0 < k) (hq : 0 < q) : redP (k * p) (k * q) = redP p q ∧ redQ (k * p) (k * q) = redQ p q := by
  have g : redG (k * p) (k * q) = k * redG p q := by
    unfold redG
    rw [Int.gcd_mul_left]
    rw [Int.natCast_mul, Int.natAbs_of_nonneg (by omega)]
  have gp := redG_pos p q hq
  unfold redP redQ
  rw [g]
  exact ⟨Int.mul_ediv_mul_of_pos _ _ hk, Int.mul_ediv_mul_of_pos _ _ hk⟩
theorem mk_scale (k p q : Int) (hk : 0 < k) (hq : q ≠ 0) : mkP (k * p) (k * q) = mkP p q ∧ mkQ (k * p) (k * q) = mkQ p q := by
  unfold mkP mkQ
  by_cases h : q < 0
  · have h1 : k * q < 0 := Int.mul_neg_of_pos_of_neg hk h
    rw [if_pos h, if_pos h, if_pos h1, if_pos h1, ← Int.mul_neg, ← Int.mul_neg]
    exact red_scale k (-p) (-q) hk (by omega)
  · have h1 : 0 < k * q := Int.mul_pos hk (by omega)
    rw [if_neg h, if_neg h, if_neg (by omega), if_neg (by omega)]
    exact red_scale k p q hk (by omega)
theorem mk_neg (p q : Int) (hq : q ≠ 0) : mkP (-p) (-q) = mkP p q ∧ mkQ (-p) (-q) = mkQ p q := by
  unfold mkP mkQ
  by_cases h : q < 0
  · rw [if_pos h, if_pos h, if_neg (by omega), if_neg (by omega)]; exact ⟨rfl, rfl⟩
  · rw [if_neg h, if_neg h, if_pos (by omega), if_pos (by omega), Int.neg_neg, Int.neg_neg]; exact ⟨rfl, rfl⟩
end Go.Proofs.Ytooghdnlaonkaaa
/- Plain mathematics: ratios by cross products. -/
namespace Go.Proofs.Ytooghdnlaonkaaa

/-- P by Q and p by q are one number -/
def Eqv (P Q p q : Int) : Prop := P * q = p * Q
theorem eqv_symm {P Q p q : Int} (h : Eqv P Q p q) : Eqv p q P Q := by unfold Eqv at *; exact h.symm
theorem eqv_trans {P Q p q r s : Int} (hq : 0 < q) (h1 : Eqv P Q p q) (h2 : Eqv p q r s) : Eqv P Q r s := by
  unfold Eqv at *
  have : q * (P * s) = q * (r * Q) := by grind
  exact Int.eq_of_mul_eq_mul_left (by omega) this
theorem eqv_add {P Q p q R S r s : Int} (h1 : Eqv P Q p q) (h2 : Eqv R S r s) : Eqv (P * S + R * Q) (Q * S) (p * s + r * q) (q * s) := by
  unfold Eqv at *
  have e1 : P * q * (S * s) = p * Q * (S * s) := by rw [h1]
  have e2 : R * s * (Q * q) = r * S * (Q * q) := by rw [h2]
  grind
theorem eqv_mul {P Q p q R S r s : Int} (h1 : Eqv P Q p q) (h2 : Eqv R S r s) : Eqv (P * R) (Q * S) (p * r) (q * s) := by
  unfold Eqv at *
  have : (P * q) * (R * s) = (p * Q) * (r * S) := by rw [h1, h2]
  grind
theorem eqv_red (p q : Int) : Eqv (redP p q) (redQ p q) p q := red_cross p q
/-- in lowest terms a number is told in one way alone -/
theorem eqv_uniq {P Q R S : Int} (hQ : 0 < Q) (hS : 0 < S) (g1 : Int.gcd P Q = 1) (g2 : Int.gcd R S = 1) (h : Eqv P Q R S) : P = R ∧ Q = S := by
  unfold Eqv at h
  have hn : P.natAbs * S.natAbs = R.natAbs * Q.natAbs := by rw [← Int.natAbs_mul, ← Int.natAbs_mul, h]
  have c1 : Nat.Coprime Q.natAbs P.natAbs := by rw [Nat.coprime_comm]; exact g1
  have c2 : Nat.Coprime S.natAbs R.natAbs := by rw [Nat.coprime_comm]; exact g2
  have d1 : Q.natAbs ∣ S.natAbs := c1.dvd_of_dvd_mul_left (hn ▸ Nat.dvd_mul_left _ _)
  have d2 : S.natAbs ∣ Q.natAbs := c2.dvd_of_dvd_mul_left (hn ▸ Nat.dvd_mul_left _ _)
  have e := Nat.dvd_antisymm d1 d2
  have eQ : Q = S := by omega
  refine ⟨?_, eQ⟩
  subst eQ
  exact Int.eq_of_mul_eq_mul_right (by omega) h
theorem red_eq {p q r s : Int} (hq : 0 < q) (hs : 0 < s) (h : Eqv p q r s) : redP p q = redP r s ∧ redQ p q = redQ r s := by
  refine eqv_uniq (redQ_pos p q hq) (redQ_pos r s hs) (red_gcd p q hq) (red_gcd r s hs) ?_
  exact eqv_trans hq (eqv_red p q) (eqv_trans hs h (eqv_symm (eqv_red r s)))
theorem red_self {P Q : Int} (h : Rat1 P Q) : redP P Q = P ∧ redQ P Q = Q := by
  have g : redG P Q = 1 := by unfold redG; rw [h.2.2.2.2]; rfl
  unfold redP redQ
  rw [g]; simp
theorem red_rat (p q : Int) (hp : -1000000000 ≤ p ∧ p ≤ 1000000000) (hq : 0 < q ∧ q ≤ 1000000000) : Rat1 (redP p q) (redQ p q) := by
  have b1 := redP_bdB 1000000000 p q (by omega) hq.1 hp
  have b2 := redQ_le p q hq.1
  have b3 := redQ_pos p q hq.1
  exact ⟨by omega, by omega, b1.1, b1.2, red_gcd _ _ hq.1⟩
theorem mul_bdI (a b A B : Int) (ha : -A ≤ a ∧ a ≤ A) (hb : -B ≤ b ∧ b ≤ B) : -(A * B) ≤ a * b ∧ a * b ≤ A * B := by
  have := mul_bd a b A.toNat B.toNat (by omega) (by omega)
  rw [Int.natCast_mul, Int.toNat_of_nonneg (by omega), Int.toNat_of_nonneg (by omega)] at this
  exact this

/-- x = p by q in lowest terms, with bounds -/
def RedIs (p q X Y : Int) : Prop := redP p q = X ∧ redQ p q = Y
theorem red_small (p q A B : Int) (hA : 0 ≤ A) (hp : -A ≤ p ∧ p ≤ A) (hq : 0 < q ∧ q ≤ B) :
    ∃ X Y, RedIs p q X Y ∧ Eqv X Y p q ∧ (-A ≤ X ∧ X ≤ A) ∧ (1 ≤ Y ∧ Y ≤ B) ∧ Int.gcd X Y = 1 := by
  have b1 := redP_bdB A p q hA hq.1 hp
  have b2 := redQ_le p q hq.1
  have b3 := redQ_pos p q hq.1
  exact ⟨_, _, ⟨rfl, rfl⟩, eqv_red p q, b1, ⟨by omega, by omega⟩, red_gcd p q hq.1⟩
theorem redIs_of {p q X Y : Int} (hq : 0 < q) (hY : 0 < Y) (g : Int.gcd X Y = 1) (h : Eqv p q X Y) : RedIs p q X Y :=
  eqv_uniq (redQ_pos p q hq) hY (red_gcd p q hq) g (eqv_trans hq (eqv_red p q) h)
theorem rat1_of {X Y A B : Int} (hx : -A ≤ X ∧ X ≤ A) (hy : 1 ≤ Y ∧ Y ≤ B) (g : Int.gcd X Y = 1) (hA : A ≤ 1000000000) (hB : B ≤ 1000000000) : Rat1 X Y :=
  ⟨hy.1, by omega, by omega, by omega, g⟩
theorem field_math (x1 x2 y1 y2 z1 z2 : Int) (bx : -100 ≤ x1 ∧ x1 ≤ 100) (by_ : -100 ≤ y1 ∧ y1 ≤ 100) (bz : -100 ≤ z1 ∧ z1 ≤ 100)
    (cx : 1 ≤ x2 ∧ x2 ≤ 100) (cy : 1 ≤ y2 ∧ y2 ≤ 100) (cz : 1 ≤ z2 ∧ z2 ≤ 100) (gx : Int.gcd x1 x2 = 1) :
    ∃ a1 a2 c1 c2 l1 l2 m1 m2 k1 k2 s1 s2 : Int,
      (RedIs (x1 * y2 + y1 * x2) (x2 * y2) a1 a2 ∧ RedIs (y1 * x2 + x1 * y2) (y2 * x2) a1 a2 ∧ Rat1 a1 a2 ∧ (-20000 ≤ a1 ∧ a1 ≤ 20000) ∧ (1 ≤ a2 ∧ a2 ≤ 10000)) ∧
      (RedIs (y1 * z2 + z1 * y2) (y2 * z2) c1 c2 ∧ Rat1 c1 c2 ∧ (-20000 ≤ c1 ∧ c1 ≤ 20000) ∧ (1 ≤ c2 ∧ c2 ≤ 10000)) ∧
      (RedIs (a1 * z2 + z1 * a2) (a2 * z2) l1 l2 ∧ RedIs (x1 * c2 + c1 * x2) (x2 * c2) l1 l2 ∧ Rat1 l1 l2) ∧
      (RedIs (x1 * y1) (x2 * y2) m1 m2 ∧ Rat1 m1 m2 ∧ (-10000 ≤ m1 ∧ m1 ≤ 10000) ∧ (1 ≤ m2 ∧ m2 ≤ 10000)) ∧
      (RedIs (x1 * z1) (x2 * z2) k1 k2 ∧ Rat1 k1 k2 ∧ (-10000 ≤ k1 ∧ k1 ≤ 10000) ∧ (1 ≤ k2 ∧ k2 ≤ 10000)) ∧
      (RedIs (m1 * k2 + k1 * m2) (m2 * k2) s1 s2 ∧ RedIs (x1 * c1) (x2 * c2) s1 s2 ∧ Rat1 s1 s2) ∧
      (0 < y1 → RedIs (m1 * y2) (m2 * y1) x1 x2) ∧ (y1 < 0 → RedIs (-(m1 * y2)) (-(m2 * y1)) x1 x2) := by
  have p1 := mul_bdI x1 y2 100 100 bx (by omega)
  have p2 := mul_bdI y1 x2 100 100 by_ (by omega)
  have p3 := mul_bdI x2 y2 100 100 (by omega) (by omega)
  have q3 : 0 < x2 * y2 := Int.mul_pos (by omega) (by omega)
  have p4 := mul_bdI y1 z2 100 100 by_ (by omega)
  have p5 := mul_bdI z1 y2 100 100 bz (by omega)
  have p6 := mul_bdI y2 z2 100 100 (by omega) (by omega)
  have q6 : 0 < y2 * z2 := Int.mul_pos (by omega) (by omega)
  have p7 := mul_bdI x1 y1 100 100 bx by_
  have p8 := mul_bdI x1 z1 100 100 bx bz
  have p9 := mul_bdI x2 z2 100 100 (by omega) (by omega)
  have q9 : 0 < x2 * z2 := Int.mul_pos (by omega) (by omega)
  obtain ⟨a1, a2, ra, ea, ba, ca, ga⟩ := red_small (x1 * y2 + y1 * x2) (x2 * y2) 20000 10000 (by omega) (by omega) (by omega)
  obtain ⟨c1, c2, rc, ec, bc, cc, gc⟩ := red_small (y1 * z2 + z1 * y2) (y2 * z2) 20000 10000 (by omega) (by omega) (by omega)
  obtain ⟨m1, m2, rm, em, bm, cm, gm⟩ := red_small (x1 * y1) (x2 * y2) 10000 10000 (by omega) (by omega) (by omega)
  obtain ⟨k1, k2, rk, ek, bk, ck, gk⟩ := red_small (x1 * z1) (x2 * z2) 10000 10000 (by omega) (by omega) (by omega)
  have u1 := mul_bdI a1 z2 20000 100 ba (by omega)
  have u2 := mul_bdI z1 a2 100 10000 bz (by omega)
  have u3 := mul_bdI a2 z2 10000 100 (by omega) (by omega)
  have w3 : 0 < a2 * z2 := Int.mul_pos (by omega) (by omega)
  obtain ⟨l1, l2, rl, el, bl, cl, gl⟩ := red_small (a1 * z2 + z1 * a2) (a2 * z2) 3000000 1000000 (by omega) (by omega) (by omega)
  have v1 := mul_bdI m1 k2 10000 10000 bm (by omega)
  have v2 := mul_bdI k1 m2 10000 10000 bk (by omega)
  have v3 := mul_bdI m2 k2 10000 10000 (by omega) (by omega)
  have w4 : 0 < m2 * k2 := Int.mul_pos (by omega) (by omega)
  obtain ⟨s1, s2, rs, es, bs, cs, gs⟩ := red_small (m1 * k2 + k1 * m2) (m2 * k2) 200000000 100000000 (by omega) (by omega) (by omega)
  have w5 : 0 < x2 * c2 := Int.mul_pos (by omega) (by omega)
  have w6 : 0 < y2 * x2 := Int.mul_pos (by omega) (by omega)
  refine ⟨a1, a2, c1, c2, l1, l2, m1, m2, k1, k2, s1, s2, ⟨ra, ?_, rat1_of ba ca ga (by omega) (by omega), ba, ca⟩, ⟨rc, rat1_of bc cc gc (by omega) (by omega), bc, cc⟩,
    ⟨rl, ?_, rat1_of bl cl gl (by omega) (by omega)⟩, ⟨rm, rat1_of bm cm gm (by omega) (by omega), bm, cm⟩, ⟨rk, rat1_of bk ck gk (by omega) (by omega), bk, ck⟩,
    ⟨rs, ?_, rat1_of bs cs gs (by omega) (by omega)⟩, ?_, ?_⟩
  · refine redIs_of w6 (by omega) ga (eqv_symm (eqv_trans q3 ea ?_))
    unfold Eqv; grind
  · refine redIs_of w5 (by omega) gl (eqv_symm (eqv_trans w3 el ?_))
    have h1 := eqv_add ea (show Eqv z1 z2 z1 z2 from rfl)
    have h2 := eqv_add (show Eqv x1 x2 x1 x2 from rfl) ec
    refine eqv_trans (Int.mul_pos q3 (by omega)) h1 (eqv_symm (eqv_trans (Int.mul_pos (show 0 < x2 by omega) q6) h2 ?_))
    unfold Eqv; grind
  · refine redIs_of w5 (by omega) gs (eqv_symm (eqv_trans w4 es ?_))
    have h1 := eqv_add em ek
    have h2 := eqv_mul (show Eqv x1 x2 x1 x2 from rfl) ec
    refine eqv_trans (Int.mul_pos q3 q9) h1 (eqv_symm (eqv_trans (Int.mul_pos (show 0 < x2 by omega) q6) h2 ?_))
    unfold Eqv; grind
  · intro hy
    refine redIs_of (Int.mul_pos (by omega) hy) (by omega) gx ?_
    unfold Eqv at em ⊢
    have : y2 * (m1 * y2 * x2) = y2 * (x1 * (m2 * y1)) := by grind
    exact Int.eq_of_mul_eq_mul_left (by omega) this
  · intro hy
    have : 0 < m2 * (-y1) := Int.mul_pos (by omega) (by omega)
    rw [Int.mul_neg] at this
    refine redIs_of this (by omega) gx ?_
    unfold Eqv at em ⊢
    have : y2 * (-(m1 * y2) * x2) = y2 * (x1 * -(m2 * y1)) := by grind
    exact Int.eq_of_mul_eq_mul_left (by omega) this
end Go.Proofs.Ytooghdnlaonkaaa
