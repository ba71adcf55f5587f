/- The walk of the law RatioOrder. -/
import Derived.Test.YtliajiilcicppaaRat4
namespace Go.Proofs.Ytliajiilcicppaa
open Go.RowKit

/-- good over a literal slice that holds an error -/
theorem good4bad (e1 e2 e3 e4 : Int) (w : World) (b : Nat) (T : TypeId) (hb : w.heap.size = b) (h : ¬ (e1 = 0 ∧ e2 = 0 ∧ e3 = 0 ∧ e4 = 0)) :
    Calls Try.prog 17 #[.slice (some ⟨b, 0, none⟩) 4 4] (w.alloc (.cells #[.int .i64 e1, .int .i64 e2, .int .i64 e3, .int .i64 e4] T)) fun e w' => e = .returned (.bool false) ∧ w.alloc (.cells #[.int .i64 e1, .int .i64 e2, .int .i64 e3, .int .i64 e4] T) = w' := by
  subst hb
  refine (good_said (fun i => if i = 0 then e1 else if i = 1 then e2 else if i = 2 then e3 else e4) 4 _ 0 4 _ (by omega) (fun i hi => ?_)).mono ?_
  · rw [cell_new]
    match i, hi with
    | 0, _ => rfl
    | 1, _ => rfl
    | 2, _ => rfl
    | 3, _ => rfl
  · rintro e w' ⟨r, rfl, hr, rfl⟩
    refine ⟨ret_bool ?_, rfl⟩
    cases r with
    | false => rfl
    | true =>
      have := hr.1 rfl
      exact absurd ⟨this 0 (by omega), this 1 (by omega), this 2 (by omega), this 3 (by omega)⟩ h
theorem good2bad (e1 e2 : Int) (w : World) (b : Nat) (T : TypeId) (hb : w.heap.size = b) (h : ¬ (e1 = 0 ∧ e2 = 0)) :
    Calls Try.prog 17 #[.slice (some ⟨b, 0, none⟩) 2 2] (w.alloc (.cells #[.int .i64 e1, .int .i64 e2] T)) fun e w' => e = .returned (.bool false) ∧ w.alloc (.cells #[.int .i64 e1, .int .i64 e2] T) = w' := by
  subst hb
  refine (good_said (fun i => if i = 0 then e1 else e2) 2 _ 0 2 _ (by omega) (fun i hi => ?_)).mono ?_
  · rw [cell_new]
    match i, hi with
    | 0, _ => rfl
    | 1, _ => rfl
  · rintro e w' ⟨r, rfl, hr, rfl⟩
    refine ⟨ret_bool ?_, rfl⟩
    cases r with
    | false => rfl
    | true =>
      have := hr.1 rfl
      exact absurd ⟨this 0 (by omega), this 1 (by omega)⟩ h

/-- three structs of two ints in new blocks -/
theorem three_new {w w1 : World} {T : TypeId} {a b c d e f : Int} (hb : Below (((w.alloc (.cells #[.int .i64 a, .int .i64 b] T)).alloc (.cells #[.int .i64 c, .int .i64 d] T)).alloc (.cells #[.int .i64 e, .int .i64 f] T)).heap.size (((w.alloc (.cells #[.int .i64 a, .int .i64 b] T)).alloc (.cells #[.int .i64 c, .int .i64 d] T)).alloc (.cells #[.int .i64 e, .int .i64 f] T)) w1) :
    St w1 w.heap.size T a b ∧ St w1 (w.heap.size + 1) T c d ∧ St w1 (w.heap.size + 1 + 1) T e f ∧ Below w.heap.size w w1 := by
  refine ⟨(((St.new w T a b).alloc _).alloc _).keep hb, ?_, ?_, kin_trans (kin_alloc (kin_alloc (kin_alloc (Below.refl _ _) _) _) _) hb⟩
  · have := ((St.new (w.alloc (.cells #[.int .i64 a, .int .i64 b] T)) T c d).alloc (.cells #[.int .i64 e, .int .i64 f] T)).keep hb
    simpa using this
  · have := (St.new ((w.alloc (.cells #[.int .i64 a, .int .i64 b] T)).alloc (.cells #[.int .i64 c, .int .i64 d] T)) T e f).keep hb
    simpa using this

theorem order_uv (x1 x2 y1 y2 z1 z2 u1 u2 v1 v2 : Int) (hx : 0 < x2) (hy : 0 < y2) (hz : 0 < z2) (hu : 0 < u2) (hv : 0 < v2)
    (eu : Eqv u1 u2 (x1 * z2 + z1 * x2) (x2 * z2)) (ev : Eqv v1 v2 (y1 * z2 + z1 * y2) (y2 * z2)) : u1 * v2 < v1 * u2 ↔ x1 * y2 < y1 * x2 := by
  unfold Eqv at eu ev
  have hp : 0 < x2 * z2 := Int.mul_pos hx hz
  have hq : 0 < y2 * z2 := Int.mul_pos hy hz
  have huv : 0 < u2 * v2 := Int.mul_pos hu hv
  have hpq : 0 < (x2 * z2) * (y2 * z2) := Int.mul_pos hp hq
  have k1 : u1 * v2 * ((x2 * z2) * (y2 * z2)) = (x1 * y2) * (z2 * z2 * (u2 * v2)) + z1 * x2 * y2 * z2 * (u2 * v2) := by
    have : u1 * v2 * ((x2 * z2) * (y2 * z2)) = (u1 * (x2 * z2)) * (v2 * (y2 * z2)) := by grind
    rw [this, eu]; grind
  have k2 : v1 * u2 * ((x2 * z2) * (y2 * z2)) = (y1 * x2) * (z2 * z2 * (u2 * v2)) + z1 * x2 * y2 * z2 * (u2 * v2) := by
    have : v1 * u2 * ((x2 * z2) * (y2 * z2)) = (v1 * (y2 * z2)) * (u2 * (x2 * z2)) := by grind
    rw [this, ev]; grind
  have hm : 0 < z2 * z2 * (u2 * v2) := Int.mul_pos (Int.mul_pos hz hz) huv
  constructor
  · intro h
    have := Int.mul_lt_mul_of_pos_right h hpq
    rw [k1, k2] at this
    exact Int.lt_of_mul_lt_mul_right (a := z2 * z2 * (u2 * v2)) (by omega) (by omega)
  · intro h
    have := Int.mul_lt_mul_of_pos_right h hm
    exact Int.lt_of_mul_lt_mul_right (a := (x2 * z2) * (y2 * z2)) (by rw [k1, k2]; omega) (by omega)
theorem order_trans (x1 x2 y1 y2 z1 z2 : Int) (hx : 0 < x2) (hy : 0 < y2) (hz : 0 < z2) (h1 : x1 * y2 < y1 * x2) (h2 : y1 * z2 < z1 * y2) : x1 * z2 < z1 * x2 := by
  have a1 := Int.mul_lt_mul_of_pos_right h1 hz
  have a2 := Int.mul_lt_mul_of_pos_right h2 hx
  refine Int.lt_of_mul_lt_mul_right (a := y2) ?_ (by omega)
  have e1 : x1 * z2 * y2 = x1 * y2 * z2 := by grind
  have e2 : z1 * x2 * y2 = z1 * y2 * x2 := by grind
  have e3 : y1 * x2 * z2 = y1 * z2 * x2 := by grind
  rw [e1, e2]; omega
theorem order_facts (a b c d : Bool) (x1 x2 y1 y2 z1 z2 : Int) (ha : a = decide (x1 * y2 < y1 * x2)) (hb : b = decide (y1 * x2 < x1 * y2)) (hc : c = decide (y1 * z2 < z1 * y2)) (hd : d = decide (x1 * z2 < z1 * x2))
    (tr : x1 * y2 < y1 * x2 → y1 * z2 < z1 * y2 → x1 * z2 < z1 * x2) (uq : x1 * y2 = y1 * x2 → x1 = y1 ∧ x2 = y2) :
    ¬ (a = true ∧ b = true) ∧ (a = false → b = false → x1 = y1 ∧ x2 = y2) ∧ (a = true ∨ b = true → ¬ (x1 = y1 ∧ x2 = y2)) ∧ (a = true → c = true → d = true) := by
  subst ha; subst hb; subst hc; subst hd
  simp only [decide_eq_true_eq, decide_eq_false_iff_not]
  refine ⟨by omega, fun h1 h2 => uq (by omega), ?_, tr⟩
  rintro h ⟨e1, e2⟩
  subst e1; subst e2; omega

set_option maxRecDepth 100000 in
set_option maxHeartbeats 2000000 in
theorem order_v3 (x1 x2 y1 y2 z1 z2 : Int) (w : World) (h : ¬ (Rat1 x1 x2 ∧ Rat1 y1 y2)) :
    Calls Try.prog 3 #[.agg #[.int .i64 x1, .int .i64 x2], .agg #[.int .i64 y1, .int .i64 y2], .agg #[.int .i64 z1, .int .i64 z2]] w fun e w' => e = .returned (.bool true) ∧ Below w.heap.size w w' := by
  have h' : ¬ (Rat1 y1 y2 ∧ Rat1 x1 x2) := fun k => h ⟨k.2, k.1⟩
  have H1 := Lib.hid h; have H2 := Lib.hid h'; clear h h'
  go_enter Try.func3, Try.ntmps3
  go_wp2_with fail
  refine (less_ok 1 3 1 2 _ (by unfold Rat1; decide) (by unfold Rat1; decide)).mono ?_; rintro e w1 ⟨rfl, hb⟩
  rw [show decide ((1 : Int) * 2 < 1 * 3) = true from by decide]
  obtain ⟨SX, SY, SZ, hk⟩ := three_new hb
  have HB := Lib.hid hk; clear hb hk
  go_wp2_with fail
  refine (ratios_any _).mono ?_; rintro e w2 ⟨rfl, hb⟩
  replace SX := SX.keep hb; replace SY := SY.keep hb; replace SZ := SZ.keep hb
  replace HB := Lib.hid (kin_trans HB.out hb); clear hb
  have x0 := SX.c0; have x1' := SX.c1; have y0 := SY.c0; have y1' := SY.c1
  go_wp2_with fail
  clear x0 x1' y0 y1'
  refine (less_bad _ _ _ _ _ H1.out).mono ?_; rintro e w3 ⟨e1, rfl, he1, hb⟩
  replace SX := SX.keep hb; replace SY := SY.keep hb; replace SZ := SZ.keep hb
  replace HB := Lib.hid (kin_trans HB.out hb); clear hb
  have E1 := Lib.hid he1; clear he1
  have y0 := SY.c0; have y1' := SY.c1; have x0 := SX.c0; have x1' := SX.c1
  go_wp2_with fail
  clear y0 y1' x0 x1'
  refine (less_bad _ _ _ _ _ H2.out).mono ?_; rintro e w4 ⟨e2, rfl, he2, hb⟩
  replace SX := SX.keep hb; replace SY := SY.keep hb; replace SZ := SZ.keep hb
  replace HB := Lib.hid (kin_trans HB.out hb); clear hb
  have E2 := Lib.hid he2; clear he2
  have y0 := SY.c0; have y1' := SY.c1; have z0 := SZ.c0; have z1' := SZ.c1
  go_wp2_with fail
  clear y0 y1' z0 z1'
  refine (less_any _ _ _ _ _).mono ?_; rintro e w5 ⟨l3, e3, rfl, -, hb⟩
  replace SX := SX.keep hb; replace SY := SY.keep hb; replace SZ := SZ.keep hb
  replace HB := Lib.hid (kin_trans HB.out hb); clear hb
  have x0 := SX.c0; have x1' := SX.c1; have z0 := SZ.c0; have z1' := SZ.c1
  go_wp2_with fail
  clear x0 x1' z0 z1'
  refine (less_any _ _ _ _ _).mono ?_; rintro e w6 ⟨l4, e4, rfl, -, hb⟩
  replace SX := SX.keep hb; replace SY := SY.keep hb; replace SZ := SZ.keep hb
  replace HB := Lib.hid (kin_trans HB.out hb); clear hb
  go_wp2_with fail
  refine (good4bad e1 e2 e3 e4 _ _ _ rfl (by have := E1.out; omega)).mono ?_; rintro e w' ⟨rfl, rfl⟩
  go_wp2_with fail
  go_ret
  exact ⟨rfl, kin_alloc HB.out _⟩

set_option maxRecDepth 100000 in
set_option maxHeartbeats 2000000 in
theorem order_v2 (x1 x2 y1 y2 z1 z2 : Int) (w : World) (hx : Rat1 x1 x2) (hy : Rat1 y1 y2) (hz : ¬ Rat1 z1 z2) :
    Calls Try.prog 3 #[.agg #[.int .i64 x1, .int .i64 x2], .agg #[.int .i64 y1, .int .i64 y2], .agg #[.int .i64 z1, .int .i64 z2]] w fun e w' => e = .returned (.bool true) ∧ Below w.heap.size w w' := by
  have H1 := Lib.hid hx; have H2 := Lib.hid hy; have H3 := Lib.hid (fun k : Rat1 y1 y2 ∧ Rat1 z1 z2 => hz k.2); have H4 := Lib.hid (fun k : Rat1 x1 x2 ∧ Rat1 z1 z2 => hz k.2); clear hx hy hz
  go_enter Try.func3, Try.ntmps3
  go_wp2_with fail
  refine (less_ok 1 3 1 2 _ (by unfold Rat1; decide) (by unfold Rat1; decide)).mono ?_; rintro e w1 ⟨rfl, hb⟩
  rw [show decide ((1 : Int) * 2 < 1 * 3) = true from by decide]
  obtain ⟨SX, SY, SZ, hk⟩ := three_new hb
  have HB := Lib.hid hk; clear hb hk
  go_wp2_with fail
  refine (ratios_any _).mono ?_; rintro e w2 ⟨rfl, hb⟩
  replace SX := SX.keep hb; replace SY := SY.keep hb; replace SZ := SZ.keep hb
  replace HB := Lib.hid (kin_trans HB.out hb); clear hb
  have x0 := SX.c0; have x1' := SX.c1; have y0 := SY.c0; have y1' := SY.c1
  go_wp2_with fail
  clear x0 x1' y0 y1'
  refine (less_ok _ _ _ _ _ H1.out H2.out).mono ?_; rintro e w3 ⟨rfl, hb⟩
  replace SX := SX.keep hb; replace SY := SY.keep hb; replace SZ := SZ.keep hb
  replace HB := Lib.hid (kin_trans HB.out hb); clear hb
  have y0 := SY.c0; have y1' := SY.c1; have x0 := SX.c0; have x1' := SX.c1
  go_wp2_with fail
  clear y0 y1' x0 x1'
  refine (less_ok _ _ _ _ _ H2.out H1.out).mono ?_; rintro e w4 ⟨rfl, hb⟩
  replace SX := SX.keep hb; replace SY := SY.keep hb; replace SZ := SZ.keep hb
  replace HB := Lib.hid (kin_trans HB.out hb); clear hb
  have y0 := SY.c0; have y1' := SY.c1; have z0 := SZ.c0; have z1' := SZ.c1
  go_wp2_with fail
  clear y0 y1' z0 z1'
  refine (less_bad _ _ _ _ _ H3.out).mono ?_; rintro e w5 ⟨e3, rfl, he3, hb⟩
  replace SX := SX.keep hb; replace SY := SY.keep hb; replace SZ := SZ.keep hb
  replace HB := Lib.hid (kin_trans HB.out hb); clear hb
  have E3 := Lib.hid he3; clear he3
  have x0 := SX.c0; have x1' := SX.c1; have z0 := SZ.c0; have z1' := SZ.c1
  go_wp2_with fail
  clear x0 x1' z0 z1'
  refine (less_bad _ _ _ _ _ H4.out).mono ?_; rintro e w6 ⟨e4, rfl, he4, hb⟩
  replace SX := SX.keep hb; replace SY := SY.keep hb; replace SZ := SZ.keep hb
  replace HB := Lib.hid (kin_trans HB.out hb); clear hb
  clear he4
  generalize decide (x1 * y2 < y1 * x2) = a
  generalize decide (y1 * x2 < x1 * y2) = b
  go_wp2_with fail
  refine (good4bad 0 0 e3 e4 _ _ _ rfl (by have := E3.out; omega)).mono ?_; rintro e w' ⟨rfl, rfl⟩
  cases a <;> cases b
  all_goals
    go_wp2_with fail
    go_ret
    exact ⟨rfl, kin_alloc HB.out _⟩

set_option maxRecDepth 100000 in
set_option maxHeartbeats 2000000 in
theorem order_v1 (x1 x2 y1 y2 z1 z2 : Int) (w : World) (hx : Rat1 x1 x2) (hy : Rat1 y1 y2) (hz : Rat1 z1 z2) :
    Calls Try.prog 3 #[.agg #[.int .i64 x1, .int .i64 x2], .agg #[.int .i64 y1, .int .i64 y2], .agg #[.int .i64 z1, .int .i64 z2]] w fun e w' => e = .returned (.bool true) ∧ Below w.heap.size w w' := by
  have px : 0 < x2 := by have := hx.1; omega
  have py : 0 < y2 := by have := hy.1; omega
  have pz : 0 < z2 := by have := hz.1; omega
  have tr : x1 * y2 < y1 * x2 → y1 * z2 < z1 * y2 → x1 * z2 < z1 * x2 := order_trans x1 x2 y1 y2 z1 z2 px py pz
  have uq : x1 * y2 = y1 * x2 → x1 = y1 ∧ x2 = y2 := fun h => eqv_uniq px py hx.2.2.2.2 hy.2.2.2.2 h
  have ouv := fun u1 u2 v1 v2 => order_uv x1 x2 y1 y2 z1 z2 u1 u2 v1 v2 px py pz
  have OUV := Lib.hid ouv; have TR := Lib.hid tr; have UQ := Lib.hid uq
  have H1 := Lib.hid hx; have H2 := Lib.hid hy; have H3 := Lib.hid hz; clear hx hy hz ouv tr uq px py pz
  go_enter Try.func3, Try.ntmps3
  go_wp2_with fail
  refine (less_ok 1 3 1 2 _ (by unfold Rat1; decide) (by unfold Rat1; decide)).mono ?_; rintro e w1 ⟨rfl, hb⟩
  rw [show decide ((1 : Int) * 2 < 1 * 3) = true from by decide]
  obtain ⟨SX, SY, SZ, hk⟩ := three_new hb
  have HB := Lib.hid hk; clear hb hk
  go_wp2_with fail
  refine (ratios_any _).mono ?_; rintro e w2 ⟨rfl, hb⟩
  replace SX := SX.keep hb; replace SY := SY.keep hb; replace SZ := SZ.keep hb
  replace HB := Lib.hid (kin_trans HB.out hb); clear hb
  have x0 := SX.c0; have x1' := SX.c1; have y0 := SY.c0; have y1' := SY.c1
  go_wp2_with fail
  clear x0 x1' y0 y1'
  refine (less_ok _ _ _ _ _ H1.out H2.out).mono ?_; rintro e w3 ⟨rfl, hb⟩
  replace SX := SX.keep hb; replace SY := SY.keep hb; replace SZ := SZ.keep hb
  replace HB := Lib.hid (kin_trans HB.out hb); clear hb
  have y0 := SY.c0; have y1' := SY.c1; have x0 := SX.c0; have x1' := SX.c1
  go_wp2_with fail
  clear y0 y1' x0 x1'
  refine (less_ok _ _ _ _ _ H2.out H1.out).mono ?_; rintro e w4 ⟨rfl, hb⟩
  replace SX := SX.keep hb; replace SY := SY.keep hb; replace SZ := SZ.keep hb
  replace HB := Lib.hid (kin_trans HB.out hb); clear hb
  have y0 := SY.c0; have y1' := SY.c1; have z0 := SZ.c0; have z1' := SZ.c1
  go_wp2_with fail
  clear y0 y1' z0 z1'
  refine (less_ok _ _ _ _ _ H2.out H3.out).mono ?_; rintro e w5 ⟨rfl, hb⟩
  replace SX := SX.keep hb; replace SY := SY.keep hb; replace SZ := SZ.keep hb
  replace HB := Lib.hid (kin_trans HB.out hb); clear hb
  have x0 := SX.c0; have x1' := SX.c1; have z0 := SZ.c0; have z1' := SZ.c1
  go_wp2_with fail
  clear x0 x1' z0 z1'
  refine (less_ok _ _ _ _ _ H1.out H3.out).mono ?_; rintro e w6 ⟨rfl, hb⟩
  replace SX := SX.keep hb; replace SY := SY.keep hb; replace SZ := SZ.keep hb
  replace HB := Lib.hid (kin_trans HB.out hb); clear hb
  obtain ⟨a, ha⟩ : ∃ a, a = decide (x1 * y2 < y1 * x2) := ⟨_, rfl⟩
  obtain ⟨b, hb⟩ : ∃ b, b = decide (y1 * x2 < x1 * y2) := ⟨_, rfl⟩
  obtain ⟨c, hc⟩ : ∃ c, c = decide (y1 * z2 < z1 * y2) := ⟨_, rfl⟩
  obtain ⟨d, hd⟩ : ∃ d, d = decide (x1 * z2 < z1 * x2) := ⟨_, rfl⟩
  have K := Lib.hid (order_facts a b c d x1 x2 y1 y2 z1 z2 ha hb hc hd TR.out UQ.out)
  rw [← ha, ← hb, ← hc, ← hd]
  have HA := Lib.hid ha
  clear ha hb hc hd TR UQ
  go_wp2_with fail
  refine (good4b _ _ _ rfl).mono ?_; rintro e w' ⟨rfl, rfl⟩
  obtain ⟨wg, hwg⟩ : ∃ wg, wg = w6.alloc (.cells #[.int .i64 0, .int .i64 0, .int .i64 0, .int .i64 0] 24) := ⟨_, rfl⟩
  replace SX := SX.alloc (.cells #[.int .i64 0, .int .i64 0, .int .i64 0, .int .i64 0] 24)
  replace SY := SY.alloc (.cells #[.int .i64 0, .int .i64 0, .int .i64 0, .int .i64 0] 24)
  replace SZ := SZ.alloc (.cells #[.int .i64 0, .int .i64 0, .int .i64 0, .int .i64 0] 24)
  replace HB := Lib.hid (kin_alloc HB.out (.cells #[.int .i64 0, .int .i64 0, .int .i64 0, .int .i64 0] 24))
  rw [← hwg] at SX SY SZ HB ⊢
  clear hwg
  have x0 := SX.c0; have x1' := SX.c1; have z0 := SZ.c0; have z1' := SZ.c1
  go_wp2_with fail
  clear x0 x1' z0 z1'
  refine (add_any _ _ _ _ _ H1.out H3.out).mono ?_; rintro e w7 ⟨u1, u2, e5, rfl, hu, hb⟩
  replace SX := SX.keep hb; replace SY := SY.keep hb; replace SZ := SZ.keep hb
  replace HB := Lib.hid (kin_trans HB.out hb); clear hb
  have y0 := SY.c0; have y1' := SY.c1; have z0 := SZ.c0; have z1' := SZ.c1; have yl := SY.lt; have zl := SZ.lt
  have HU := Lib.hid hu; clear hu
  go_wp2_with fail
  clear y0 y1' z0 z1' yl zl
  replace SX := SX.alloc (.cells #[.int .i64 u1, .int .i64 u2] 23)
  replace SY := SY.alloc (.cells #[.int .i64 u1, .int .i64 u2] 23)
  have SU := St.new w7 23 u1 u2
  replace HB := Lib.hid (kin_alloc HB.out (.cells #[.int .i64 u1, .int .i64 u2] 23))
  refine (add_any _ _ _ _ _ H2.out H3.out).mono ?_; rintro e w8 ⟨v1, v2, e6, rfl, hv, hb⟩
  replace SX := SX.keep hb; replace SY := SY.keep hb; replace SU := SU.keep hb
  replace HB := Lib.hid (kin_trans HB.out hb); clear hb SZ
  rcases HU.out with ⟨rfl, ru, eu, -, -⟩ | ⟨rfl, -, -, -⟩ <;> rcases hv with ⟨rfl, rv, ev, -, -⟩ | ⟨rfl, -, -, -⟩
  · have L := OUV.out u1 u2 v1 v2 (by have := ru.1; omega) (by have := rv.1; omega) eu ev
    have D : decide (u1 * v2 < v1 * u2) = a := by rw [HA.out]; exact decide_eq_decide.2 L
    have RU := Lib.hid ru; have RV := Lib.hid rv; have HD := Lib.hid D; clear ru rv eu ev L D HU
    have xl := SX.lt; have yl := SY.lt; have ul := SU.lt
    have x0 := SX.c0; have x1' := SX.c1; have y0 := SY.c0; have y1' := SY.c1; have u0 := SU.c0; have u1' := SU.c1
    go_wp2_with fail
    refine (good2b _ _ _ (by simp)).mono ?_; rintro e w' ⟨rfl, rfl⟩
    go_wp2_with fail
    clear x0 x1' y0 y1' u0 u1'
    refine (less_ok _ _ _ _ _ RU.out RV.out).mono ?_; rintro e w9 ⟨rfl, hb⟩
    rw [HD.out]
    replace SX := ((SX.alloc (.cells #[.int .i64 v1, .int .i64 v2] 23)).alloc (.cells #[.int .i64 0, .int .i64 0] 24)).keep hb
    replace SY := ((SY.alloc (.cells #[.int .i64 v1, .int .i64 v2] 23)).alloc (.cells #[.int .i64 0, .int .i64 0] 24)).keep hb
    replace HB := Lib.hid (kin_trans (kin_alloc (kin_alloc HB.out _) _) hb); clear hb
    have x0 := SX.c0; have x1' := SX.c1; have y0 := SY.c0; have y1' := SY.c1
    clear SX SY SU xl yl ul HD HA OUV
    cases a <;> cases b <;> cases c <;> cases d
    all_goals
      first
        | (exfalso; exact K.out.1 ⟨rfl, rfl⟩)
        | (exfalso; exact absurd (K.out.2.2.2 rfl rfl) Bool.false_ne_true)
        | (go_wp2_with fail
           all_goals first
             | (exfalso; have k := K.out.2.1; simp at k; omega)
             | (exfalso; have k := K.out.2.2.1; simp at k; omega)
             | (go_ret; exact ⟨rfl, HB.out⟩))
  all_goals
    clear OUV HA HU
    have xl := SX.lt; have yl := SY.lt
    have x0 := SX.c0; have x1' := SX.c1; have y0 := SY.c0; have y1' := SY.c1
    clear SX SY SU
    go_wp2_with fail
    first
      | (refine (good2bad 0 2 _ _ _ (by simp) (by omega)).mono ?_; rintro e w' ⟨rfl, rfl⟩)
      | (refine (good2bad 2 0 _ _ _ (by simp) (by omega)).mono ?_; rintro e w' ⟨rfl, rfl⟩)
      | (refine (good2bad 2 2 _ _ _ (by simp) (by omega)).mono ?_; rintro e w' ⟨rfl, rfl⟩)
    cases a <;> cases b <;> cases c <;> cases d
    all_goals
      first
        | (exfalso; exact K.out.1 ⟨rfl, rfl⟩)
        | (exfalso; exact absurd (K.out.2.2.2 rfl rfl) Bool.false_ne_true)
        | (go_wp2_with fail
           all_goals first
             | (exfalso; have k := K.out.2.1; simp at k; omega)
             | (exfalso; have k := K.out.2.2.1; simp at k; omega)
             | (go_ret; exact ⟨rfl, kin_alloc (kin_alloc HB.out _) _⟩))

theorem order_any (x1 x2 y1 y2 z1 z2 : Int) (w : World) :
    Calls Try.prog 3 #[.agg #[.int .i64 x1, .int .i64 x2], .agg #[.int .i64 y1, .int .i64 y2], .agg #[.int .i64 z1, .int .i64 z2]] w fun e w' => e = .returned (.bool true) ∧ Below w.heap.size w w' := by
  by_cases hx : Rat1 x1 x2
  · by_cases hy : Rat1 y1 y2
    · by_cases hz : Rat1 z1 z2
      · exact order_v1 x1 x2 y1 y2 z1 z2 w hx hy hz
      · exact order_v2 x1 x2 y1 y2 z1 z2 w hx hy hz
    · exact order_v3 x1 x2 y1 y2 z1 z2 w (fun k => hy k.2)
  · exact order_v3 x1 x2 y1 y2 z1 z2 w (fun k => hx k.1)
end Go.Proofs.Ytliajiilcicppaa
