/- Several of my texts in one: MathRat, HalN. -/
import Derived.Test.YtbolgfiafbhicaaDoorDF38
import Derived.Test.YtbolgfiafbhicaaDoorDF33
import Derived.Test.YtbolgfiafbhicaaDoorDF32
import Derived.Test.YtbolgfiafbhicaaDoorDF17
/- Plain mathematics: ratios by cross products. -/
namespace Go.Proofs.YtbolgfiafbhicaaDoor

/-- P by Q and p by q are one number -/
def Eqv (P Q p q : Int) : Prop := P * q = p * Q
theorem eqv_symm {P Q p q : Int} (h : Eqv P Q p q) : Eqv p q P Q := by unfold Eqv at *; exact h.symm
theorem eqv_trans {P Q p q r s : Int} (hq : 0 < q) (h1 : Eqv P Q p q) (h2 : Eqv p q r s) : Eqv P Q r s := by
  unfold Eqv at *
  have : q * (P * s) = q * (r * Q) := by grind
  exact Int.eq_of_mul_eq_mul_left (by omega) this
theorem eqv_add {P Q p q R S r s : Int} (h1 : Eqv P Q p q) (h2 : Eqv R S r s) : Eqv (P * S + R * Q) (Q * S) (p * s + r * q) (q * s) := by
  unfold Eqv at *
  have e1 : P * q * (S * s) = p * Q * (S * s) := by rw [h1]
  have e2 : R * s * (Q * q) = r * S * (Q * q) := by rw [h2]
  grind
theorem eqv_mul {P Q p q R S r s : Int} (h1 : Eqv P Q p q) (h2 : Eqv R S r s) : Eqv (P * R) (Q * S) (p * r) (q * s) := by
  unfold Eqv at *
  have : (P * q) * (R * s) = (p * Q) * (r * S) := by rw [h1, h2]
  grind
theorem eqv_red (p q : Int) : Eqv (redP p q) (redQ p q) p q := red_cross p q
/-- in lowest terms a number is told in one way alone -/
theorem eqv_uniq {P Q R S : Int} (hQ : 0 < Q) (hS : 0 < S) (g1 : Int.gcd P Q = 1) (g2 : Int.gcd R S = 1) (h : Eqv P Q R S) : P = R ∧ Q = S := by
  unfold Eqv at h
  have hn : P.natAbs * S.natAbs = R.natAbs * Q.natAbs := by rw [← Int.natAbs_mul, ← Int.natAbs_mul, h]
  have c1 : Nat.Coprime Q.natAbs P.natAbs := by rw [Nat.coprime_comm]; exact g1
  have c2 : Nat.Coprime S.natAbs R.natAbs := by rw [Nat.coprime_comm]; exact g2
  have d1 : Q.natAbs ∣ S.natAbs := c1.dvd_of_dvd_mul_left (hn ▸ Nat.dvd_mul_left _ _)
  have d2 : S.natAbs ∣ Q.natAbs := c2.dvd_of_dvd_mul_left (hn ▸ Nat.dvd_mul_left _ _)
  have e := Nat.dvd_antisymm d1 d2
  have eQ : Q = S := by omega
  refine ⟨?_, eQ⟩
  subst eQ
  exact Int.eq_of_mul_eq_mul_right (by omega) h
theorem red_eq {p q r s : Int} (hq : 0 < q) (hs : 0 < s) (h : Eqv p q r s) : redP p q = redP r s ∧ redQ p q = redQ r s := by
  refine eqv_uniq (redQ_pos p q hq) (redQ_pos r s hs) (red_gcd p q hq) (red_gcd r s hs) ?_
  exact eqv_trans hq (eqv_red p q) (eqv_trans hs h (eqv_symm (eqv_red r s)))
theorem red_self {P Q : Int} (h : Rat1 P Q) : redP P Q = P ∧ redQ P Q = Q := by
  have g : redG P Q = 1 := by unfold redG; rw [h.2.2.2.2]; rfl
  unfold redP redQ
  rw [g]; simp
theorem red_rat (p q : Int) (hp : -1000000000 ≤ p ∧ p ≤ 1000000000) (hq : 0 < q ∧ q ≤ 1000000000) : Rat1 (redP p q) (redQ p q) := by
  have b1 := redP_bdB 1000000000 p q (by omega) hq.1 hp
  have b2 := redQ_le p q hq.1
  have b3 := redQ_pos p q hq.1
  exact ⟨by omega, by omega, b1.1, b1.2, red_gcd _ _ hq.1⟩
theorem mul_bdI (a b A B : Int) (ha : -A ≤ a ∧ a ≤ A) (hb : -B ≤ b ∧ b ≤ B) : -(A * B) ≤ a * b ∧ a * b ≤ A * B := by
  have := mul_bd a b A.toNat B.toNat (by omega) (by omega)
  rw [Int.natCast_mul, Int.toNat_of_nonneg (by omega), Int.toNat_of_nonneg (by omega)] at this
  exact this

/-- x = p by q in lowest terms, with bounds -/
def RedIs (p q X Y : Int) : Prop := redP p q = X ∧ redQ p q = Y
theorem red_small (p q A B : Int) (hA : 0 ≤ A) (hp : -A ≤ p ∧ p ≤ A) (hq : 0 < q ∧ q ≤ B) :
    ∃ X Y, RedIs p q X Y ∧ Eqv X Y p q ∧ (-A ≤ X ∧ X ≤ A) ∧ (1 ≤ Y ∧ Y ≤ B) ∧ Int.gcd X Y = 1 := by
  have b1 := redP_bdB A p q hA hq.1 hp
  have b2 := redQ_le p q hq.1
  have b3 := redQ_pos p q hq.1
  exact ⟨_, _, ⟨rfl, rfl⟩, eqv_red p q, b1, ⟨by omega, by omega⟩, red_gcd p q hq.1⟩
theorem redIs_of {p q X Y : Int} (hq : 0 < q) (hY : 0 < Y) (g : Int.gcd X Y = 1) (h : Eqv p q X Y) : RedIs p q X Y :=
  eqv_uniq (redQ_pos p q hq) hY (red_gcd p q hq) g (eqv_trans hq (eqv_red p q) h)
theorem rat1_of {X Y A B : Int} (hx : -A ≤ X ∧ X ≤ A) (hy : 1 ≤ Y ∧ Y ≤ B) (g : Int.gcd X Y = 1) (hA : A ≤ 1000000000) (hB : B ≤ 1000000000) : Rat1 X Y :=
  ⟨hy.1, by omega, by omega, by omega, g⟩
theorem field_math (x1 x2 y1 y2 z1 z2 : Int) (bx : -100 ≤ x1 ∧ x1 ≤ 100) (by_ : -100 ≤ y1 ∧ y1 ≤ 100) (bz : -100 ≤ z1 ∧ z1 ≤ 100)
    (cx : 1 ≤ x2 ∧ x2 ≤ 100) (cy : 1 ≤ y2 ∧ y2 ≤ 100) (cz : 1 ≤ z2 ∧ z2 ≤ 100) (gx : Int.gcd x1 x2 = 1) :
    ∃ a1 a2 c1 c2 l1 l2 m1 m2 k1 k2 s1 s2 : Int,
      (RedIs (x1 * y2 + y1 * x2) (x2 * y2) a1 a2 ∧ RedIs (y1 * x2 + x1 * y2) (y2 * x2) a1 a2 ∧ Rat1 a1 a2 ∧ (-20000 ≤ a1 ∧ a1 ≤ 20000) ∧ (1 ≤ a2 ∧ a2 ≤ 10000)) ∧
      (RedIs (y1 * z2 + z1 * y2) (y2 * z2) c1 c2 ∧ Rat1 c1 c2 ∧ (-20000 ≤ c1 ∧ c1 ≤ 20000) ∧ (1 ≤ c2 ∧ c2 ≤ 10000)) ∧
      (RedIs (a1 * z2 + z1 * a2) (a2 * z2) l1 l2 ∧ RedIs (x1 * c2 + c1 * x2) (x2 * c2) l1 l2 ∧ Rat1 l1 l2) ∧
      (RedIs (x1 * y1) (x2 * y2) m1 m2 ∧ Rat1 m1 m2 ∧ (-10000 ≤ m1 ∧ m1 ≤ 10000) ∧ (1 ≤ m2 ∧ m2 ≤ 10000)) ∧
      (RedIs (x1 * z1) (x2 * z2) k1 k2 ∧ Rat1 k1 k2 ∧ (-10000 ≤ k1 ∧ k1 ≤ 10000) ∧ (1 ≤ k2 ∧ k2 ≤ 10000)) ∧
      (RedIs (m1 * k2 + k1 * m2) (m2 * k2) s1 s2 ∧ RedIs (x1 * c1) (x2 * c2) s1 s2 ∧ Rat1 s1 s2) ∧
      (0 < y1 → RedIs (m1 * y2) (m2 * y1) x1 x2) ∧ (y1 < 0 → RedIs (-(m1 * y2)) (-(m2 * y1)) x1 x2) := by
  have p1 := mul_bdI x1 y2 100 100 bx (by omega)
  have p2 := mul_bdI y1 x2 100 100 by_ (by omega)
  have p3 := mul_bdI x2 y2 100 100 (by omega) (by omega)
  have q3 : 0 < x2 * y2 := Int.mul_pos (by omega) (by omega)
  have p4 := mul_bdI y1 z2 100 100 by_ (by omega)
  have p5 := mul_bdI z1 y2 100 100 bz (by omega)
  have p6 := mul_bdI y2 z2 100 100 (by omega) (by omega)
  have q6 : 0 < y2 * z2 := Int.mul_pos (by omega) (by omega)
  have p7 := mul_bdI x1 y1 100 100 bx by_
  have p8 := mul_bdI x1 z1 100 100 bx bz
  have p9 := mul_bdI x2 z2 100 100 (by omega) (by omega)
  have q9 : 0 < x2 * z2 := Int.mul_pos (by omega) (by omega)
  obtain ⟨a1, a2, ra, ea, ba, ca, ga⟩ := red_small (x1 * y2 + y1 * x2) (x2 * y2) 20000 10000 (by omega) (by omega) (by omega)
  obtain ⟨c1, c2, rc, ec, bc, cc, gc⟩ := red_small (y1 * z2 + z1 * y2) (y2 * z2) 20000 10000 (by omega) (by omega) (by omega)
  obtain ⟨m1, m2, rm, em, bm, cm, gm⟩ := red_small (x1 * y1) (x2 * y2) 10000 10000 (by omega) (by omega) (by omega)
  obtain ⟨k1, k2, rk, ek, bk, ck, gk⟩ := red_small (x1 * z1) (x2 * z2) 10000 10000 (by omega) (by omega) (by omega)
  have u1 := mul_bdI a1 z2 20000 100 ba (by omega)
  have u2 := mul_bdI z1 a2 100 10000 bz (by omega)
  have u3 := mul_bdI a2 z2 10000 100 (by omega) (by omega)
  have w3 : 0 < a2 * z2 := Int.mul_pos (by omega) (by omega)
  obtain ⟨l1, l2, rl, el, bl, cl, gl⟩ := red_small (a1 * z2 + z1 * a2) (a2 * z2) 3000000 1000000 (by omega) (by omega) (by omega)
  have v1 := mul_bdI m1 k2 10000 10000 bm (by omega)
  have v2 := mul_bdI k1 m2 10000 10000 bk (by omega)
  have v3 := mul_bdI m2 k2 10000 10000 (by omega) (by omega)
  have w4 : 0 < m2 * k2 := Int.mul_pos (by omega) (by omega)
  obtain ⟨s1, s2, rs, es, bs, cs, gs⟩ := red_small (m1 * k2 + k1 * m2) (m2 * k2) 200000000 100000000 (by omega) (by omega) (by omega)
  have w5 : 0 < x2 * c2 := Int.mul_pos (by omega) (by omega)
  have w6 : 0 < y2 * x2 := Int.mul_pos (by omega) (by omega)
  refine ⟨a1, a2, c1, c2, l1, l2, m1, m2, k1, k2, s1, s2, ⟨ra, ?_, rat1_of ba ca ga (by omega) (by omega), ba, ca⟩, ⟨rc, rat1_of bc cc gc (by omega) (by omega), bc, cc⟩,
    ⟨rl, ?_, rat1_of bl cl gl (by omega) (by omega)⟩, ⟨rm, rat1_of bm cm gm (by omega) (by omega), bm, cm⟩, ⟨rk, rat1_of bk ck gk (by omega) (by omega), bk, ck⟩,
    ⟨rs, ?_, rat1_of bs cs gs (by omega) (by omega)⟩, ?_, ?_⟩
  · refine redIs_of w6 (by omega) ga (eqv_symm (eqv_trans q3 ea ?_))
    unfold Eqv; grind
  · refine redIs_of w5 (by omega) gl (eqv_symm (eqv_trans w3 el ?_))
    have h1 := eqv_add ea (show Eqv z1 z2 z1 z2 from rfl)
    have h2 := eqv_add (show Eqv x1 x2 x1 x2 from rfl) ec
    refine eqv_trans (Int.mul_pos q3 (by omega)) h1 (eqv_symm (eqv_trans (Int.mul_pos (show 0 < x2 by omega) q6) h2 ?_))
    unfold Eqv; grind
  · refine redIs_of w5 (by omega) gs (eqv_symm (eqv_trans w4 es ?_))
    have h1 := eqv_add em ek
    have h2 := eqv_mul (show Eqv x1 x2 x1 x2 from rfl) ec
    refine eqv_trans (Int.mul_pos q3 q9) h1 (eqv_symm (eqv_trans (Int.mul_pos (show 0 < x2 by omega) q6) h2 ?_))
    unfold Eqv; grind
  · intro hy
    refine redIs_of (Int.mul_pos (by omega) hy) (by omega) gx ?_
    unfold Eqv at em ⊢
    have : y2 * (m1 * y2 * x2) = y2 * (x1 * (m2 * y1)) := by grind
    exact Int.eq_of_mul_eq_mul_left (by omega) this
  · intro hy
    have : 0 < m2 * (-y1) := Int.mul_pos (by omega) (by omega)
    rw [Int.mul_neg] at this
    refine redIs_of this (by omega) gx ?_
    unfold Eqv at em ⊢
    have : y2 * (-(m1 * y2) * x2) = y2 * (x1 * -(m2 * y1)) := by grind
    exact Int.eq_of_mul_eq_mul_left (by omega) this
end Go.Proofs.YtbolgfiafbhicaaDoor
/- hall.New, Names; a hall beside other things (no law's own part). -/
namespace Go.Proofs.YtbolgfiafbhicaaDoor
open Go.RowKit

theorem nmsL_strVN (M : List Mem) : nmsL M = strV (nmsM M) := by unfold nmsL strV nmsM; rw [List.map_map]; rfl
def NewWN (w : World) (e : Ending) (w' : World) : Prop := ∃ H, e = .returned (.pointer (some ⟨H, 0, .none⟩)) ∧ Hw w w' H ⟨[], []⟩ []
set_option maxRecDepth 100000 in
theorem halNewN (w : World) : Calls Tryd.prog 11 #[] w (NewWN w) := by
  have b1 := (Fg.start w).new 43 #[.slice none 0 0, .slice none 0 0] [.slice none 0 0, .slice none 0 0] rfl w.heap.size rfl 2 rfl (by omega)
  have b2 := (b1.nilSlice 125 3).nilSlice 65 3
  have HB : Hid (Hw w (w.alloc (.cells #[.slice none 0 0, .slice none 0 0] 43)) w.heap.size ⟨[], []⟩ []) := Lib.hid ⟨none, 0, none, 0, b2.perm ((List.Perm.cons _ (.swap _ _ _)).trans (.swap _ _ _))⟩
  clear b1 b2
  go_enter Tryd.func11, Tryd.ntmps11
  go_wp2_with fail
  go_ret
  exact ⟨_, rfl, HB.out⟩
theorem hok0N (K : Nat) : HOk ⟨[], []⟩ K := by
  refine ⟨⟨?_, fun k hk => ?_⟩, fun m hm => ?_, fun l hl => ?_, Nat.zero_le _, List.nodup_nil⟩
  · exact Nat.zero_le _
  · exact absurd hk (Nat.not_lt_zero k)
  · cases hm
  · cases hl
theorem Hw.belowN {w0 w : World} {H : Nat} {s : HSt} {B : List Big} (h : Hw w0 w H s B) : Below w0.heap.size w0 w := by
  obtain ⟨am, cm, al, cl, hf⟩ := h
  exact hf.bel
theorem Hw.allocN {w0 w : World} {H : Nat} {s : HSt} {B : List Big} (h : Hw w0 w H s B) (o : Obj) : Hw w0 (w.alloc o) H s B := h.keep ((Fr.start w).alloc o).bel
theorem Hw.newToldN {w0 w : World} {H : Nat} {s : HSt} {B : List Big} (h : Hw w0 w H s B) (nm : ByteArray) (n : Int) {N : Nat} (hN : w.heap.size = N) : Hw w0 (w.alloc (.cells #[.string nm, .int .i64 n] 71)) H s (eT N nm n :: B) := by
  obtain ⟨am, cm, al, cl, hf⟩ := h
  exact Hw.into (hf.new 71 #[.string nm, .int .i64 n] [.string nm, .int .i64 n] rfl N hN 2 rfl (by omega))
theorem Hw.newDeedN {w0 w : World} {H : Nat} {s : HSt} {B : List Big} (h : Hw w0 w H s B) (k n : Int) (nm to : ByteArray) {N : Nat} (hN : w.heap.size = N) : Hw w0 (w.alloc (.cells #[.int .i64 k, .int .i64 n, .string nm, .string to] 68)) H s (eD N k n nm to :: B) := by
  obtain ⟨am, cm, al, cl, hf⟩ := h
  exact Hw.into (hf.new 68 #[.int .i64 k, .int .i64 n, .string nm, .string to] [.int .i64 k, .int .i64 n, .string nm, .string to] rfl N hN 4 rfl (by omega))
theorem Hw.saN {w0 w : World} {H : Nat} {s : HSt} {B : List Big} (h : Hw w0 w H s B) {T : TypeId} {c n cap : Nat} {ad : Option Addr} {xs : List Value} (he : (⟨T, c, n, .slice ad n cap, xs⟩ : Big) ∈ B) : Sa w ad xs := by
  obtain ⟨am, cm, al, cl, hf⟩ := h
  exact hf.sa (T := T) (c := c) (n := n) (cap := cap) (by simp [hallE, he])
theorem halNmWN {w0 w : World} {H : Nat} {s : HSt} {B : List Big} (h : Hw w0 w H s B) (h8 : s.M.length ≤ 8) :
    Calls Tryd.prog 20 #[.pointer (some ⟨H, 0, .none⟩)] w fun e w' => ∃ ad cp, e = .returned (.slice ad s.M.length cp) ∧ s.M.length ≤ cp ∧ Fr w w' [⟨9, .slice ad s.M.length cp, strV (nmsM s.M)⟩] ∧ Hw w0 w' H s B := by
  obtain ⟨am, cm, c0, hS, hHl⟩ := h.hall
  refine (halNames s.M s.M.length am cm H w hS rfl (by omega) c0).mono ?_
  rintro e w' ⟨ad, cp, rfl, hc, hf⟩
  rw [nmsL_strVN] at hf
  exact ⟨ad, cp, rfl, hc, hf, h.keep hf.bel⟩
end Go.Proofs.YtbolgfiafbhicaaDoor
