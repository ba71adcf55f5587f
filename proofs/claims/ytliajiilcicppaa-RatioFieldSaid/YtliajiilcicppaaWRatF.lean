/- The walk of the law RatioField. -/
import Derived.Test.YtliajiilcicppaaRat3
import Derived.Test.YtliajiilcicppaaGood
namespace Go.Proofs.Ytliajiilcicppaa
open Go.RowKit

set_option maxRecDepth 100000 in
set_option maxHeartbeats 4000000 in
theorem ratioField_any (a b c d e f : Int) (w : World) :
    Calls Try.prog 4 #[.int .i64 a, .int .i64 b, .int .i64 c, .int .i64 d, .int .i64 e, .int .i64 f] w fun e w' => e = .returned (.bool true) ∧ Below w.heap.size w w' := by
  obtain ⟨xp, hxp, exp⟩ : ∃ m : Nat, m < 201 ∧ a % 201 = m := ⟨(a % 201).toNat, by omega, by omega⟩
  obtain ⟨xq, hxq, exq⟩ : ∃ m : Nat, m < 100 ∧ b % 100 = m := ⟨(b % 100).toNat, by omega, by omega⟩
  have Exp := Lib.hid exp; have Exq := Lib.hid exq; clear exp exq
  obtain ⟨x1, x2, rx, -, bx, cx, gx⟩ := red_small ((xp : Int) - 100) (1 + (xq : Int)) 100 100 (by omega) (by omega) (by omega)
  have Rx := Lib.hid rx; clear rx
  obtain ⟨yp, hyp, eyp⟩ : ∃ m : Nat, m < 201 ∧ c % 201 = m := ⟨(c % 201).toNat, by omega, by omega⟩
  obtain ⟨yq, hyq, eyq⟩ : ∃ m : Nat, m < 100 ∧ d % 100 = m := ⟨(d % 100).toNat, by omega, by omega⟩
  have Eyp := Lib.hid eyp; have Eyq := Lib.hid eyq; clear eyp eyq
  obtain ⟨y1, y2, ry, -, by_, cy, gy⟩ := red_small ((yp : Int) - 100) (1 + (yq : Int)) 100 100 (by omega) (by omega) (by omega)
  have Ry := Lib.hid ry; clear ry
  obtain ⟨zp, hzp, ezp⟩ : ∃ m : Nat, m < 201 ∧ e % 201 = m := ⟨(e % 201).toNat, by omega, by omega⟩
  obtain ⟨zq, hzq, ezq⟩ : ∃ m : Nat, m < 100 ∧ f % 100 = m := ⟨(f % 100).toNat, by omega, by omega⟩
  have Ezp := Lib.hid ezp; have Ezq := Lib.hid ezq; clear ezp ezq
  obtain ⟨z1, z2, rz, -, bz, cz, gz⟩ := red_small ((zp : Int) - 100) (1 + (zq : Int)) 100 100 (by omega) (by omega) (by omega)
  have Rz := Lib.hid rz; clear rz
  have X1 := Lib.hid (rat1_of bx cx gx (by omega) (by omega)); have Y1 := Lib.hid (rat1_of by_ cy gy (by omega) (by omega)); have Z1 := Lib.hid (rat1_of bz cz gz (by omega) (by omega))
  obtain ⟨a1, a2, c1, c2, l1, l2, m1, m2, k1, k2, s1, s2, ⟨ra, ra', ta, -, -⟩, ⟨rc, tc, -, -⟩, ⟨rl, rl', tl⟩, ⟨rm, tm, -, -⟩, ⟨rk, tk, -, -⟩, ⟨rs, rs', ts⟩, rd, rd'⟩ := field_math x1 x2 y1 y2 z1 z2 bx by_ bz cx cy cz gx
  have Hra := Lib.hid ra; have Hra' := Lib.hid ra'; have Hta := Lib.hid ta; have Hrc := Lib.hid rc; have Htc := Lib.hid tc; have Hrl := Lib.hid rl; have Hrl' := Lib.hid rl'; have Htl := Lib.hid tl; have Hrm := Lib.hid rm; have Htm := Lib.hid tm; have Hrk := Lib.hid rk; have Htk := Lib.hid tk; have Hrs := Lib.hid rs; have Hrs' := Lib.hid rs'; have Hts := Lib.hid ts; have Hrd := Lib.hid rd; have Hrd' := Lib.hid rd'
  clear ra ra' ta rc tc rl rl' tl rm tm rk tk rs rs' ts rd rd' gx gy gz
  clear bx cx cy bz cz
  go_enter Try.func4, Try.ntmps4
  go_wp2_with fail
  refine (ratios_any _).mono ?_; rintro e w1 ⟨rfl, hb⟩
  have HB := Lib.hid hb; clear hb
  go_wp2_with fail
  refine (within_any _ _ _ (by omega) (by omega)).mono ?_; rintro e w' ⟨rfl, rfl⟩
  rw [Exp.out]
  go_wp2_with fail
  refine (within_any _ _ _ (by omega) (by omega)).mono ?_; rintro e w' ⟨rfl, rfl⟩
  rw [Exq.out]
  go_wp2_with fail
  refine (make_fits _ _ x1 x2 _ (by omega) (by omega) Rx.out).mono ?_; rintro e w2 ⟨rfl, hb⟩
  replace HB := Lib.hid (kin_trans HB.out hb); clear hb
  go_wp2_with fail
  have Sx := St.new w2 23 x1 x2
  replace HB := Lib.hid (kin_alloc HB.out (.cells #[.int .i64 x1, .int .i64 x2] 23))
  refine (within_any _ _ _ (by omega) (by omega)).mono ?_; rintro e w' ⟨rfl, rfl⟩
  rw [Eyp.out]
  go_wp2_with fail
  refine (within_any _ _ _ (by omega) (by omega)).mono ?_; rintro e w' ⟨rfl, rfl⟩
  rw [Eyq.out]
  go_wp2_with fail
  refine (make_fits _ _ y1 y2 _ (by omega) (by omega) Ry.out).mono ?_; rintro e w3 ⟨rfl, hb⟩
  replace Sx := Sx.keep hb
  replace HB := Lib.hid (kin_trans HB.out hb); clear hb
  go_wp2_with fail
  replace Sx := Sx.alloc (.cells #[.int .i64 y1, .int .i64 y2] 23)
  have Sy := St.new w3 23 y1 y2
  replace HB := Lib.hid (kin_alloc HB.out (.cells #[.int .i64 y1, .int .i64 y2] 23))
  refine (within_any _ _ _ (by omega) (by omega)).mono ?_; rintro e w' ⟨rfl, rfl⟩
  rw [Ezp.out]
  go_wp2_with fail
  refine (within_any _ _ _ (by omega) (by omega)).mono ?_; rintro e w' ⟨rfl, rfl⟩
  rw [Ezq.out]
  go_wp2_with fail
  refine (make_fits _ _ z1 z2 _ (by omega) (by omega) Rz.out).mono ?_; rintro e w4 ⟨rfl, hb⟩
  replace Sx := Sx.keep hb
  replace Sy := Sy.keep hb
  replace HB := Lib.hid (kin_trans HB.out hb); clear hb
  have Sx0 := Sx.c0; have Sx1 := Sx.c1; have Sxl := Sx.lt
  have Sy0 := Sy.c0; have Sy1 := Sy.c1; have Syl := Sy.lt
  go_wp2_with fail
  clear Sx0 Sx1 Sxl Sy0 Sy1 Syl
  replace Sx := Sx.alloc (.cells #[.int .i64 z1, .int .i64 z2] 23)
  replace Sy := Sy.alloc (.cells #[.int .i64 z1, .int .i64 z2] 23)
  have Sz := St.new w4 23 z1 z2
  replace HB := Lib.hid (kin_alloc HB.out (.cells #[.int .i64 z1, .int .i64 z2] 23))
  refine (add_fits _ _ _ _ a1 a2 _ X1.out Y1.out Hra.out Hta.out).mono ?_; rintro e w5 ⟨rfl, hb⟩
  replace Sx := Sx.keep hb
  replace Sy := Sy.keep hb
  replace Sz := Sz.keep hb
  replace HB := Lib.hid (kin_trans HB.out hb); clear hb
  have Sy0 := Sy.c0; have Sy1 := Sy.c1; have Syl := Sy.lt
  have Sx0 := Sx.c0; have Sx1 := Sx.c1; have Sxl := Sx.lt
  go_wp2_with fail
  clear Sy0 Sy1 Syl Sx0 Sx1 Sxl
  replace Sx := Sx.alloc (.cells #[.int .i64 a1, .int .i64 a2] 23)
  replace Sy := Sy.alloc (.cells #[.int .i64 a1, .int .i64 a2] 23)
  replace Sz := Sz.alloc (.cells #[.int .i64 a1, .int .i64 a2] 23)
  have Sxy := St.new w5 23 a1 a2
  replace HB := Lib.hid (kin_alloc HB.out (.cells #[.int .i64 a1, .int .i64 a2] 23))
  refine (add_fits _ _ _ _ a1 a2 _ Y1.out X1.out Hra'.out Hta.out).mono ?_; rintro e w6 ⟨rfl, hb⟩
  replace Sx := Sx.keep hb
  replace Sy := Sy.keep hb
  replace Sz := Sz.keep hb
  replace Sxy := Sxy.keep hb
  replace HB := Lib.hid (kin_trans HB.out hb); clear hb
  have Sxy0 := Sxy.c0; have Sxy1 := Sxy.c1; have Sxyl := Sxy.lt
  have Sz0 := Sz.c0; have Sz1 := Sz.c1; have Szl := Sz.lt
  go_wp2_with fail
  clear Sxy0 Sxy1 Sxyl Sz0 Sz1 Szl
  replace Sx := Sx.alloc (.cells #[.int .i64 a1, .int .i64 a2] 23)
  replace Sy := Sy.alloc (.cells #[.int .i64 a1, .int .i64 a2] 23)
  replace Sz := Sz.alloc (.cells #[.int .i64 a1, .int .i64 a2] 23)
  replace Sxy := Sxy.alloc (.cells #[.int .i64 a1, .int .i64 a2] 23)
  have Syx := St.new w6 23 a1 a2
  replace HB := Lib.hid (kin_alloc HB.out (.cells #[.int .i64 a1, .int .i64 a2] 23))
  refine (add_fits _ _ _ _ l1 l2 _ Hta.out Z1.out Hrl.out Htl.out).mono ?_; rintro e w7 ⟨rfl, hb⟩
  replace Sx := Sx.keep hb
  replace Sy := Sy.keep hb
  replace Sz := Sz.keep hb
  replace Sxy := Sxy.keep hb
  replace Syx := Syx.keep hb
  replace HB := Lib.hid (kin_trans HB.out hb); clear hb
  have Sy0 := Sy.c0; have Sy1 := Sy.c1; have Syl := Sy.lt
  have Sz0 := Sz.c0; have Sz1 := Sz.c1; have Szl := Sz.lt
  go_wp2_with fail
  clear Sy0 Sy1 Syl Sz0 Sz1 Szl
  replace Sx := Sx.alloc (.cells #[.int .i64 l1, .int .i64 l2] 23)
  replace Sy := Sy.alloc (.cells #[.int .i64 l1, .int .i64 l2] 23)
  replace Sz := Sz.alloc (.cells #[.int .i64 l1, .int .i64 l2] 23)
  replace Sxy := Sxy.alloc (.cells #[.int .i64 l1, .int .i64 l2] 23)
  replace Syx := Syx.alloc (.cells #[.int .i64 l1, .int .i64 l2] 23)
  have Sl := St.new w7 23 l1 l2
  replace HB := Lib.hid (kin_alloc HB.out (.cells #[.int .i64 l1, .int .i64 l2] 23))
  refine (add_fits _ _ _ _ c1 c2 _ Y1.out Z1.out Hrc.out Htc.out).mono ?_; rintro e w8 ⟨rfl, hb⟩
  replace Sx := Sx.keep hb
  replace Sy := Sy.keep hb
  replace Sz := Sz.keep hb
  replace Sxy := Sxy.keep hb
  replace Syx := Syx.keep hb
  replace Sl := Sl.keep hb
  replace HB := Lib.hid (kin_trans HB.out hb); clear hb
  have Sx0 := Sx.c0; have Sx1 := Sx.c1; have Sxl := Sx.lt
  go_wp2_with fail
  clear Sx0 Sx1 Sxl
  replace Sx := Sx.alloc (.cells #[.int .i64 c1, .int .i64 c2] 23)
  replace Sy := Sy.alloc (.cells #[.int .i64 c1, .int .i64 c2] 23)
  replace Sz := Sz.alloc (.cells #[.int .i64 c1, .int .i64 c2] 23)
  replace Sxy := Sxy.alloc (.cells #[.int .i64 c1, .int .i64 c2] 23)
  replace Syx := Syx.alloc (.cells #[.int .i64 c1, .int .i64 c2] 23)
  replace Sl := Sl.alloc (.cells #[.int .i64 c1, .int .i64 c2] 23)
  have Syz := St.new w8 23 c1 c2
  replace HB := Lib.hid (kin_alloc HB.out (.cells #[.int .i64 c1, .int .i64 c2] 23))
  refine (add_fits _ _ _ _ l1 l2 _ X1.out Htc.out Hrl'.out Htl.out).mono ?_; rintro e w9 ⟨rfl, hb⟩
  replace Sx := Sx.keep hb
  replace Sy := Sy.keep hb
  replace Sz := Sz.keep hb
  replace Sxy := Sxy.keep hb
  replace Syx := Syx.keep hb
  replace Sl := Sl.keep hb
  replace Syz := Syz.keep hb
  replace HB := Lib.hid (kin_trans HB.out hb); clear hb
  have Sxy0 := Sxy.c0; have Sxy1 := Sxy.c1; have Sxyl := Sxy.lt
  have Syx0 := Syx.c0; have Syx1 := Syx.c1; have Syxl := Syx.lt
  have Sl0 := Sl.c0; have Sl1 := Sl.c1; have Sll := Sl.lt
  have Sx0 := Sx.c0; have Sx1 := Sx.c1; have Sxl := Sx.lt
  have Sy0 := Sy.c0; have Sy1 := Sy.c1; have Syl := Sy.lt
  go_wp2_with fail
  refine (good8b _ _ _ (by simp)).mono ?_; rintro e w' ⟨rfl, rfl⟩
  go_wp2_with fail
  clear Sxy0 Sxy1 Sxyl Syx0 Syx1 Syxl Sl0 Sl1 Sll Sx0 Sx1 Sxl Sy0 Sy1 Syl
  replace Sx := Sx.alloc (.cells #[.int .i64 l1, .int .i64 l2] 23)
  replace Sy := Sy.alloc (.cells #[.int .i64 l1, .int .i64 l2] 23)
  replace Sz := Sz.alloc (.cells #[.int .i64 l1, .int .i64 l2] 23)
  replace Sxy := Sxy.alloc (.cells #[.int .i64 l1, .int .i64 l2] 23)
  replace Syx := Syx.alloc (.cells #[.int .i64 l1, .int .i64 l2] 23)
  replace Sl := Sl.alloc (.cells #[.int .i64 l1, .int .i64 l2] 23)
  replace Syz := Syz.alloc (.cells #[.int .i64 l1, .int .i64 l2] 23)
  have Sr := St.new w9 23 l1 l2
  replace HB := Lib.hid (kin_alloc HB.out (.cells #[.int .i64 l1, .int .i64 l2] 23))
  replace Sx := Sx.alloc (.cells #[.int .i64 0, .int .i64 0, .int .i64 0, .int .i64 0, .int .i64 0, .int .i64 0, .int .i64 0, .int .i64 0] 24)
  replace Sy := Sy.alloc (.cells #[.int .i64 0, .int .i64 0, .int .i64 0, .int .i64 0, .int .i64 0, .int .i64 0, .int .i64 0, .int .i64 0] 24)
  replace Sz := Sz.alloc (.cells #[.int .i64 0, .int .i64 0, .int .i64 0, .int .i64 0, .int .i64 0, .int .i64 0, .int .i64 0, .int .i64 0] 24)
  replace Sxy := Sxy.alloc (.cells #[.int .i64 0, .int .i64 0, .int .i64 0, .int .i64 0, .int .i64 0, .int .i64 0, .int .i64 0, .int .i64 0] 24)
  replace Syx := Syx.alloc (.cells #[.int .i64 0, .int .i64 0, .int .i64 0, .int .i64 0, .int .i64 0, .int .i64 0, .int .i64 0, .int .i64 0] 24)
  replace Sl := Sl.alloc (.cells #[.int .i64 0, .int .i64 0, .int .i64 0, .int .i64 0, .int .i64 0, .int .i64 0, .int .i64 0, .int .i64 0] 24)
  replace Syz := Syz.alloc (.cells #[.int .i64 0, .int .i64 0, .int .i64 0, .int .i64 0, .int .i64 0, .int .i64 0, .int .i64 0, .int .i64 0] 24)
  replace Sr := Sr.alloc (.cells #[.int .i64 0, .int .i64 0, .int .i64 0, .int .i64 0, .int .i64 0, .int .i64 0, .int .i64 0, .int .i64 0] 24)
  replace HB := Lib.hid (kin_alloc HB.out (.cells #[.int .i64 0, .int .i64 0, .int .i64 0, .int .i64 0, .int .i64 0, .int .i64 0, .int .i64 0, .int .i64 0] 24))
  refine (mul_fits _ _ _ _ m1 m2 _ X1.out Y1.out Hrm.out Htm.out).mono ?_; rintro e w10 ⟨rfl, hb⟩
  replace Sx := Sx.keep hb
  replace Sy := Sy.keep hb
  replace Sz := Sz.keep hb
  replace Sxy := Sxy.keep hb
  replace Syx := Syx.keep hb
  replace Sl := Sl.keep hb
  replace Syz := Syz.keep hb
  replace Sr := Sr.keep hb
  replace HB := Lib.hid (kin_trans HB.out hb); clear hb
  have Sx0 := Sx.c0; have Sx1 := Sx.c1; have Sxl := Sx.lt
  have Sz0 := Sz.c0; have Sz1 := Sz.c1; have Szl := Sz.lt
  go_wp2_with fail
  clear Sx0 Sx1 Sxl Sz0 Sz1 Szl
  replace Sx := Sx.alloc (.cells #[.int .i64 m1, .int .i64 m2] 23)
  replace Sy := Sy.alloc (.cells #[.int .i64 m1, .int .i64 m2] 23)
  replace Sz := Sz.alloc (.cells #[.int .i64 m1, .int .i64 m2] 23)
  replace Sxy := Sxy.alloc (.cells #[.int .i64 m1, .int .i64 m2] 23)
  replace Syx := Syx.alloc (.cells #[.int .i64 m1, .int .i64 m2] 23)
  replace Sl := Sl.alloc (.cells #[.int .i64 m1, .int .i64 m2] 23)
  replace Syz := Syz.alloc (.cells #[.int .i64 m1, .int .i64 m2] 23)
  replace Sr := Sr.alloc (.cells #[.int .i64 m1, .int .i64 m2] 23)
  have Sm := St.new w10 23 m1 m2
  replace HB := Lib.hid (kin_alloc HB.out (.cells #[.int .i64 m1, .int .i64 m2] 23))
  refine (mul_fits _ _ _ _ k1 k2 _ X1.out Z1.out Hrk.out Htk.out).mono ?_; rintro e w11 ⟨rfl, hb⟩
  replace Sx := Sx.keep hb
  replace Sy := Sy.keep hb
  replace Sz := Sz.keep hb
  replace Sxy := Sxy.keep hb
  replace Syx := Syx.keep hb
  replace Sl := Sl.keep hb
  replace Syz := Syz.keep hb
  replace Sr := Sr.keep hb
  replace Sm := Sm.keep hb
  replace HB := Lib.hid (kin_trans HB.out hb); clear hb
  have Sm0 := Sm.c0; have Sm1 := Sm.c1; have Sml := Sm.lt
  go_wp2_with fail
  clear Sm0 Sm1 Sml
  replace Sx := Sx.alloc (.cells #[.int .i64 k1, .int .i64 k2] 23)
  replace Sy := Sy.alloc (.cells #[.int .i64 k1, .int .i64 k2] 23)
  replace Sz := Sz.alloc (.cells #[.int .i64 k1, .int .i64 k2] 23)
  replace Sxy := Sxy.alloc (.cells #[.int .i64 k1, .int .i64 k2] 23)
  replace Syx := Syx.alloc (.cells #[.int .i64 k1, .int .i64 k2] 23)
  replace Sl := Sl.alloc (.cells #[.int .i64 k1, .int .i64 k2] 23)
  replace Syz := Syz.alloc (.cells #[.int .i64 k1, .int .i64 k2] 23)
  replace Sr := Sr.alloc (.cells #[.int .i64 k1, .int .i64 k2] 23)
  replace Sm := Sm.alloc (.cells #[.int .i64 k1, .int .i64 k2] 23)
  have Sk := St.new w11 23 k1 k2
  replace HB := Lib.hid (kin_alloc HB.out (.cells #[.int .i64 k1, .int .i64 k2] 23))
  refine (add_fits _ _ _ _ s1 s2 _ Htm.out Htk.out Hrs.out Hts.out).mono ?_; rintro e w12 ⟨rfl, hb⟩
  replace Sx := Sx.keep hb
  replace Sy := Sy.keep hb
  replace Sz := Sz.keep hb
  replace Sxy := Sxy.keep hb
  replace Syx := Syx.keep hb
  replace Sl := Sl.keep hb
  replace Syz := Syz.keep hb
  replace Sr := Sr.keep hb
  replace Sm := Sm.keep hb
  replace Sk := Sk.keep hb
  replace HB := Lib.hid (kin_trans HB.out hb); clear hb
  have Sx0 := Sx.c0; have Sx1 := Sx.c1; have Sxl := Sx.lt
  have Syz0 := Syz.c0; have Syz1 := Syz.c1; have Syzl := Syz.lt
  go_wp2_with fail
  clear Sx0 Sx1 Sxl Syz0 Syz1 Syzl
  replace Sx := Sx.alloc (.cells #[.int .i64 s1, .int .i64 s2] 23)
  replace Sy := Sy.alloc (.cells #[.int .i64 s1, .int .i64 s2] 23)
  replace Sz := Sz.alloc (.cells #[.int .i64 s1, .int .i64 s2] 23)
  replace Sxy := Sxy.alloc (.cells #[.int .i64 s1, .int .i64 s2] 23)
  replace Syx := Syx.alloc (.cells #[.int .i64 s1, .int .i64 s2] 23)
  replace Sl := Sl.alloc (.cells #[.int .i64 s1, .int .i64 s2] 23)
  replace Syz := Syz.alloc (.cells #[.int .i64 s1, .int .i64 s2] 23)
  replace Sr := Sr.alloc (.cells #[.int .i64 s1, .int .i64 s2] 23)
  replace Sm := Sm.alloc (.cells #[.int .i64 s1, .int .i64 s2] 23)
  replace Sk := Sk.alloc (.cells #[.int .i64 s1, .int .i64 s2] 23)
  have Ss := St.new w12 23 s1 s2
  replace HB := Lib.hid (kin_alloc HB.out (.cells #[.int .i64 s1, .int .i64 s2] 23))
  refine (mul_fits _ _ _ _ s1 s2 _ X1.out Htc.out Hrs'.out Hts.out).mono ?_; rintro e w13 ⟨rfl, hb⟩
  replace Sx := Sx.keep hb
  replace Sy := Sy.keep hb
  replace Sz := Sz.keep hb
  replace Sxy := Sxy.keep hb
  replace Syx := Syx.keep hb
  replace Sl := Sl.keep hb
  replace Syz := Syz.keep hb
  replace Sr := Sr.keep hb
  replace Sm := Sm.keep hb
  replace Sk := Sk.keep hb
  replace Ss := Ss.keep hb
  replace HB := Lib.hid (kin_trans HB.out hb); clear hb
  have Ss0 := Ss.c0; have Ss1 := Ss.c1; have Ssl := Ss.lt
  have Sm0 := Sm.c0; have Sm1 := Sm.c1; have Sml := Sm.lt
  have Sy0 := Sy.c0; have Sy1 := Sy.c1; have Syl := Sy.lt
  go_wp2_with fail
  clear Ss0 Ss1 Ssl Sm0 Sm1 Sml Sy0 Sy1 Syl
  replace Sx := Sx.alloc (.cells #[.int .i64 s1, .int .i64 s2] 23)
  replace Sy := Sy.alloc (.cells #[.int .i64 s1, .int .i64 s2] 23)
  replace Sz := Sz.alloc (.cells #[.int .i64 s1, .int .i64 s2] 23)
  replace Sxy := Sxy.alloc (.cells #[.int .i64 s1, .int .i64 s2] 23)
  replace Syx := Syx.alloc (.cells #[.int .i64 s1, .int .i64 s2] 23)
  replace Sl := Sl.alloc (.cells #[.int .i64 s1, .int .i64 s2] 23)
  replace Syz := Syz.alloc (.cells #[.int .i64 s1, .int .i64 s2] 23)
  replace Sr := Sr.alloc (.cells #[.int .i64 s1, .int .i64 s2] 23)
  replace Sm := Sm.alloc (.cells #[.int .i64 s1, .int .i64 s2] 23)
  replace Sk := Sk.alloc (.cells #[.int .i64 s1, .int .i64 s2] 23)
  replace Ss := Ss.alloc (.cells #[.int .i64 s1, .int .i64 s2] 23)
  have St_ := St.new w13 23 s1 s2
  replace HB := Lib.hid (kin_alloc HB.out (.cells #[.int .i64 s1, .int .i64 s2] 23))
  rcases Int.lt_trichotomy y1 0 with hy | hy | hy
  · have z1 : (y1 == 0) = false := by simp; omega
    have z2 : (y1 != 0) = true := by simp; omega
    refine (div_neg _ _ _ _ x1 x2 _ Htm.out Y1.out hy (Hrd'.out hy) X1.out).mono ?_; rintro e w14 ⟨rfl, hb⟩
    replace Sx := Sx.keep hb
    replace Sy := Sy.keep hb
    replace Sz := Sz.keep hb
    replace Sxy := Sxy.keep hb
    replace Syx := Syx.keep hb
    replace Sl := Sl.keep hb
    replace Syz := Syz.keep hb
    replace Sr := Sr.keep hb
    replace Sm := Sm.keep hb
    replace Sk := Sk.keep hb
    replace Ss := Ss.keep hb
    replace St_ := St_.keep hb
    replace HB := Lib.hid (kin_trans HB.out hb); clear hb
    have Sx0 := Sx.c0; have Sx1 := Sx.c1; have Sxl := Sx.lt
    have Sy0 := Sy.c0; have Sy1 := Sy.c1; have Syl := Sy.lt
    go_wp2_with fail
    go_ret
    exact ⟨rfl, kin_alloc HB.out _⟩
  · subst hy
    refine (div_zero _ _ _ _ Htm.out Y1.out).mono ?_; rintro e w14 ⟨rfl, hb⟩
    replace Sx := Sx.keep hb
    replace Sy := Sy.keep hb
    replace Sz := Sz.keep hb
    replace Sxy := Sxy.keep hb
    replace Syx := Syx.keep hb
    replace Sl := Sl.keep hb
    replace Syz := Syz.keep hb
    replace Sr := Sr.keep hb
    replace Sm := Sm.keep hb
    replace Sk := Sk.keep hb
    replace Ss := Ss.keep hb
    replace St_ := St_.keep hb
    replace HB := Lib.hid (kin_trans HB.out hb); clear hb
    have Sx0 := Sx.c0; have Sx1 := Sx.c1; have Sxl := Sx.lt
    have Sy0 := Sy.c0; have Sy1 := Sy.c1; have Syl := Sy.lt
    go_wp2_with fail
    go_ret
    exact ⟨rfl, kin_alloc HB.out _⟩
  · have z1 : (y1 == 0) = false := by simp; omega
    have z2 : (y1 != 0) = true := by simp; omega
    refine (div_pos _ _ _ _ x1 x2 _ Htm.out Y1.out hy (Hrd.out hy) X1.out).mono ?_; rintro e w14 ⟨rfl, hb⟩
    replace Sx := Sx.keep hb
    replace Sy := Sy.keep hb
    replace Sz := Sz.keep hb
    replace Sxy := Sxy.keep hb
    replace Syx := Syx.keep hb
    replace Sl := Sl.keep hb
    replace Syz := Syz.keep hb
    replace Sr := Sr.keep hb
    replace Sm := Sm.keep hb
    replace Sk := Sk.keep hb
    replace Ss := Ss.keep hb
    replace St_ := St_.keep hb
    replace HB := Lib.hid (kin_trans HB.out hb); clear hb
    have Sx0 := Sx.c0; have Sx1 := Sx.c1; have Sxl := Sx.lt
    have Sy0 := Sy.c0; have Sy1 := Sy.c1; have Syl := Sy.lt
    go_wp2_with fail
    go_ret
    exact ⟨rfl, kin_alloc HB.out _⟩
end Go.Proofs.Ytliajiilcicppaa
