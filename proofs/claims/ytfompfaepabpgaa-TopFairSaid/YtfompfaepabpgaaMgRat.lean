/- Several of my texts in one: Rat, Rat2, MathRat, Rat3, Ord, Top. -/
import Derived.Test.YtfompfaepabpgaaBase
import Derived.RegionTactic
import Derived.Test.YtfompfaepabpgaaPerm
namespace Go.Proofs.Ytfompfaepabpgaa
open Go.RowKit

set_option maxHeartbeats 400000 in
theorem gcd_any (a b : Int) (w : World) (ha : -4000000000000000000 ≤ a ∧ a ≤ 4000000000000000000) (hb : 0 ≤ b ∧ b ≤ 4000000000000000000) :
    Calls Try.prog 110 #[.int .i64 a, .int .i64 b] w fun e w' => e = .returned (.int .i64 ((Int.gcd a b : Nat) : Int)) ∧ Below w.heap.size w w' := by
  obtain ⟨ha1, ha2⟩ := ha
  obtain ⟨hb1, hb2⟩ := hb
  have hg : Int.gcd a b = Nat.gcd a.natAbs b.toNat := by
    rw [show b.toNat = b.natAbs from by omega]; rfl
  have HG := Lib.hid hg; clear hg
  obtain ⟨c, rfl⟩ : ∃ c : Nat, b = c := ⟨b.toNat, by omega⟩
  by_cases h0 : a < 0
  all_goals
    go_enter Try.func110, Try.ntmps110
    go_wp2_with fail
    go_loopw [0, 1] (fun x y wr => ∃ s t : Nat, s ≤ 4000000000000000000 ∧ t ≤ 4000000000000000000 ∧ Hid (Nat.gcd s t = Int.gcd a c) ∧ x = .int .i64 s ∧ y = .int .i64 t ∧ Below w.heap.size w wr) (fun _ y _ => (intOf y).toNat)
    case atStart => exact ⟨a.natAbs, c, by omega, by omega, Lib.hid HG.out.symm, val_int (by omega), rfl, Below.refl _ _⟩
    case round =>
      obtain ⟨s, t, hs, ht, hgc, rfl, rfl, hbel⟩ := hrel
      have HB := Lib.hid hbel; clear hbel
      by_cases ht0 : 0 < t
      · have hne : ((t : Int) == 0) = false := by simp; omega
        have hlt := Nat.mod_lt s ht0
        go_wp2_with fail
        go_region
        go_wp2_with fail
        go_roundw
        case rel =>
          refine ⟨t, s % t, ht, by omega, Lib.hid ?_, rfl, val_int (by simp), HB.out.drew⟩
          rw [← hgc.out, Nat.gcd_comm s t, Nat.gcd_rec t s, Nat.gcd_comm]
        case measure => simp [intOf]; omega
      · obtain rfl : t = 0 := by omega
        go_wp2_with fail
        go_ret
        exact ⟨ret_int (by rw [← hgc.out, Nat.gcd_zero_right]), HB.out⟩

def redG (p q : Int) : Int := ((Int.gcd p q : Nat) : Int)
theorem redG_pos (p q : Int) (h : 0 < q) : 0 < redG p q := by
  unfold redG
  have : 0 < Int.gcd p q := Int.gcd_pos_of_ne_zero_right _ (by omega)
  omega
theorem redG_le (p q : Int) (h : 0 < q) : redG p q ≤ q := by
  unfold redG
  have := Int.gcd_dvd_right p q
  exact Int.le_of_dvd h this
def redP (p q : Int) : Int := p / redG p q
def redQ (p q : Int) : Int := q / redG p q
theorem redP_mul (p q : Int) : redP p q * redG p q = p := by
  unfold redP redG
  exact Int.ediv_mul_cancel (Int.gcd_dvd_left p q)
theorem redQ_mul (p q : Int) : redQ p q * redG p q = q := by
  unfold redQ redG
  exact Int.ediv_mul_cancel (Int.gcd_dvd_right p q)
theorem redP_tdiv (p q : Int) : p.tdiv (redG p q) = redP p q := by
  unfold redP redG
  exact Int.tdiv_eq_ediv_of_dvd (Int.gcd_dvd_left p q)
theorem redP_bdB (B p q : Int) (hB : 0 ≤ B) (h : 0 < q) (hp : -B ≤ p ∧ p ≤ B) : -B ≤ redP p q ∧ redP p q ≤ B := by
  have h1 := redP_mul p q
  have h2 := redG_pos p q h
  obtain ⟨g, hg⟩ : ∃ g, g = redG p q := ⟨_, rfl⟩
  obtain ⟨x, hx⟩ : ∃ x, x = redP p q := ⟨_, rfl⟩
  rw [← hg, ← hx] at h1
  rw [← hg] at h2
  rw [← hx]
  clear hg hx
  constructor
  · rcases Int.le_total 0 x with h3 | h3
    · omega
    · have := Int.mul_le_mul_of_nonneg_left (c := -x) (show (1 : Int) ≤ g by omega) (by omega); rw [Int.neg_mul, Int.neg_mul] at this; omega
  · rcases Int.le_total 0 x with h3 | h3
    · have := Int.mul_le_mul_of_nonneg_left (c := x) (show (1 : Int) ≤ g by omega) h3; omega
    · omega
theorem redP_bd (p q : Int) (h : 0 < q) (hp : -4000000000000000000 ≤ p ∧ p ≤ 4000000000000000000) : -4000000000000000000 ≤ redP p q ∧ redP p q ≤ 4000000000000000000 :=
  redP_bdB 4000000000000000000 p q (by omega) h hp
theorem redQ_pos (p q : Int) (h : 0 < q) : 0 < redQ p q := by
  have h1 := redQ_mul p q
  have h2 := redG_pos p q h
  rcases Int.lt_trichotomy 0 (redQ p q) with h3 | h3 | h3
  · exact h3
  · rw [← h3] at h1; omega
  · have := Int.mul_neg_of_neg_of_pos h3 h2; omega

/-- a struct of two ints in a new block, behind a callee that leaves it alone -/
theorem res2 {w w1 : World} {a b : Value} {T : TypeId} (hb : Below (w.alloc (.cells #[a, b] T)).heap.size (w.alloc (.cells #[a, b] T)) w1) :
    w1.cell? ⟨w.heap.size, 0, none⟩ = some a ∧ w1.cell? ⟨w.heap.size, 1, none⟩ = some b ∧ w1.frozen? ⟨w.heap.size, 0, none⟩ = false ∧ w1.frozen? ⟨w.heap.size, 1, none⟩ = false ∧ w.heap.size < w1.heap.size ∧ Below w.heap.size w w1 := by
  obtain ⟨hc, hf⟩ := bcell hb
  refine ⟨by rw [hc _ _ (by simp)]; go_simp, by rw [hc _ _ (by simp)]; go_simp, by rw [hf _ _ (by simp)]; go_simp, by rw [hf _ _ (by simp)]; go_simp, ?_, kin_trans (kin_alloc (Below.refl _ _) _) hb⟩
  have := hb.size; simp at this; omega

theorem redQ_le (p q : Int) (h : 0 < q) : redQ p q ≤ q := by
  have h1 := redQ_mul p q
  have h2 := redG_pos p q h
  have h3 := redQ_pos p q h
  have := Int.mul_le_mul_of_nonneg_left (c := redQ p q) (show (1 : Int) ≤ redG p q by omega) (by omega)
  rw [h1] at this; omega
theorem red_gcd (p q : Int) (h : 0 < q) : Int.gcd (redP p q) (redQ p q) = 1 := by
  have hne : 0 < Int.gcd p q := Int.gcd_pos_of_ne_zero_right _ (by omega)
  exact Int.gcd_ediv_gcd_ediv_gcd hne
set_option maxHeartbeats 400000 in
theorem low_ok (p q : Int) (w : World) (hp : -4000000000000000000 ≤ p ∧ p ≤ 4000000000000000000) (hq : 0 < q ∧ q ≤ 4000000000000000000)
    (h1 : redQ p q ≤ 1000000000) (h2 : -1000000000 ≤ redP p q) (h3 : redP p q ≤ 1000000000) :
    Calls Try.prog 97 #[.int .i64 p, .int .i64 q] w fun e w' => e = .returned (.tuple #[.agg #[.int .i64 (redP p q), .int .i64 (redQ p q)], .int .i64 0]) ∧ Below w.heap.size w w' := by
  have gp := redG_pos p q hq.1
  have gl := redG_le p q hq.1
  have qp := redQ_pos p q hq.1
  obtain ⟨hp1, hp2⟩ := hp
  obtain ⟨hq1, hq2⟩ := hq
  have e1 := redP_tdiv p q
  have e2 : q / redG p q = redQ p q := rfl
  have gz : (redG p q == 0) = false := by simp; omega
  go_enter Try.func97, Try.ntmps97
  go_wp2_with fail
  refine (gcd_any _ _ _ ⟨hp1, hp2⟩ ⟨by omega, hq2⟩).mono ?_; rintro e w1 ⟨rfl, hb⟩
  rw [show ((Int.gcd p q : Nat) : Int) = redG p q from rfl]
  obtain ⟨c0, c1, f0, f1, hz, hk⟩ := res2 hb
  have HB := Lib.hid hk
  clear hb hk
  go_wp2_with fail
  go_region
  go_wp2_with fail
  exact bodyPost_ret (v := .tuple #[.agg #[.int .i64 (redP p q), .int .i64 (redQ p q)], .int .i64 0]) (by simp [results, Try.results97, go_sem, c0, c1, hz]) rfl
    ⟨rfl, (((HB.out.setCell (Nat.le_refl _) _).setCell (Nat.le_refl _) _).alloc (by simp; omega) _).drew⟩

set_option maxHeartbeats 400000 in
theorem low_big (p q : Int) (w : World) (hp : -4000000000000000000 ≤ p ∧ p ≤ 4000000000000000000) (hq : 0 < q ∧ q ≤ 4000000000000000000)
    (h : ¬ (redQ p q ≤ 1000000000 ∧ -1000000000 ≤ redP p q ∧ redP p q ≤ 1000000000)) :
    Calls Try.prog 97 #[.int .i64 p, .int .i64 q] w fun e w' => e = .returned (.tuple #[.agg #[.int .i64 0, .int .i64 0], .int .i64 2]) ∧ Below w.heap.size w w' := by
  have gp := redG_pos p q hq.1
  have gl := redG_le p q hq.1
  have qp := redQ_pos p q hq.1
  obtain ⟨pb1, pb2⟩ := redP_bd p q hq.1 hp
  obtain ⟨hp1, hp2⟩ := hp
  obtain ⟨hq1, hq2⟩ := hq
  have e1 := redP_tdiv p q
  have e2 : q / redG p q = redQ p q := rfl
  have gz : (redG p q == 0) = false := by simp; omega
  have HH := Lib.hid h; clear h
  go_enter Try.func97, Try.ntmps97
  go_wp2_with fail
  refine (gcd_any _ _ _ ⟨hp1, hp2⟩ ⟨by omega, hq2⟩).mono ?_; rintro e w1 ⟨rfl, hb⟩
  rw [show ((Int.gcd p q : Nat) : Int) = redG p q from rfl]
  obtain ⟨c0, c1, f0, f1, hz, hk⟩ := res2 hb
  have HB := Lib.hid hk
  clear hb hk
  go_wp2_with fail
  go_region
  go_wp2_with fail
  all_goals first
    | (exfalso; have := HH.out; omega)
    | (exact bodyPost_ret (v := .tuple #[.agg #[.int .i64 0, .int .i64 0], .int .i64 2]) (by simp [results, Try.results97, go_sem, c0, c1, hz]) rfl
        ⟨rfl, (((HB.out.setCell (Nat.le_refl _) _).setCell (Nat.le_refl _) _).alloc (by simp; omega) _).drew⟩)

/-! Check -/
/-- a ratio in lowest terms that fits -/
def Rat1 (P Q : Int) : Prop := 1 ≤ Q ∧ Q ≤ 1000000000 ∧ -1000000000 ≤ P ∧ P ≤ 1000000000 ∧ Int.gcd P Q = 1

theorem check_ok (P Q : Int) (w : World) (h : Rat1 P Q) :
    Calls Try.prog 109 #[.agg #[.int .i64 P, .int .i64 Q]] w fun e w' => e = .returned (.int .i64 0) ∧ Below w.heap.size w w' := by
  obtain ⟨h1, h2, h3, h4, h5⟩ := h
  have H5 := Lib.hid h5; clear h5
  go_enter Try.func109, Try.ntmps109
  go_wp2_with fail
  refine (gcd_any _ _ _ ⟨by omega, by omega⟩ ⟨by omega, by omega⟩).mono ?_; rintro e w1 ⟨rfl, hb⟩
  rw [H5.out]
  have HB := Lib.hid (res2 hb).2.2.2.2.2
  clear hb
  go_wp2_with fail
  go_ret
  exact ⟨rfl, HB.out⟩

theorem keep_cell {W w1 : World} {a : Addr} {v : Value} (hb : Below W.heap.size W w1) (hc : W.cell? a = some v) (ha : a.block < W.heap.size) : w1.cell? a = some v := by
  rw [hb.cell ha, hc]
theorem keep_thaw {W w1 : World} {a : Addr} (hb : Below W.heap.size W w1) (hc : W.frozen? a = false) (ha : a.block < W.heap.size) : w1.frozen? a = false := by
  rw [hb.frozen ha, hc]

/-- two structs of two ints in new blocks, behind a callee that leaves them alone -/
theorem res22 {w w1 : World} {a b c d : Value} {T U : TypeId} (hb : Below ((w.alloc (.cells #[a, b] T)).alloc (.cells #[c, d] U)).heap.size ((w.alloc (.cells #[a, b] T)).alloc (.cells #[c, d] U)) w1) :
    w1.cell? ⟨w.heap.size, 0, none⟩ = some a ∧ w1.cell? ⟨w.heap.size, 1, none⟩ = some b ∧ w1.cell? ⟨w.heap.size + 1, 0, none⟩ = some c ∧ w1.cell? ⟨w.heap.size + 1, 1, none⟩ = some d ∧ w.heap.size + 1 < w1.heap.size ∧ Below w.heap.size w w1 := by
  refine ⟨keep_cell hb (by go_simp) (by simp; omega), keep_cell hb (by go_simp) (by simp; omega), keep_cell hb (by go_simp) (by simp), keep_cell hb (by go_simp) (by simp), ?_, kin_trans (kin_alloc (kin_alloc (Below.refl _ _) _) _) hb⟩
  have := hb.size; simp at this; omega

theorem both_ok (P Q R S : Int) (w : World) (h : Rat1 P Q) (h2 : Rat1 R S) :
    Calls Try.prog 96 #[.agg #[.int .i64 P, .int .i64 Q], .agg #[.int .i64 R, .int .i64 S]] w fun e w' => e = .returned (.int .i64 0) ∧ Below w.heap.size w w' := by
  have H1 := Lib.hid h; have H2 := Lib.hid h2; clear h h2
  go_enter Try.func96, Try.ntmps96
  go_wp2_with fail
  refine (check_ok _ _ _ H1.out).mono ?_; rintro e w1 ⟨rfl, hb⟩
  obtain ⟨c0, c1, c2, c3, hz, hk⟩ := res22 hb
  have HK := Lib.hid hk; clear hb hk
  go_wp2_with fail
  refine (check_ok _ _ _ H2.out).mono ?_; rintro e w2 ⟨rfl, hb⟩
  have HB := Lib.hid (kin_trans HK.out hb); clear hb
  go_wp2_with fail
  go_ret
  exact ⟨rfl, HB.out⟩

/-- what low answers for p by q -/
def LowSaid (p q : Int) (w : World) (e : Ending) (w' : World) : Prop :=
  ∃ P Q er : Int, e = .returned (.tuple #[.agg #[.int .i64 P, .int .i64 Q], .int .i64 er]) ∧
    ((er = 0 ∧ Rat1 P Q ∧ P * q = p * Q ∧ P = redP p q ∧ Q = redQ p q) ∨ (er = 2 ∧ P = 0 ∧ Q = 0 ∧ ¬ (redQ p q ≤ 1000000000 ∧ -1000000000 ≤ redP p q ∧ redP p q ≤ 1000000000))) ∧ Below w.heap.size w w'
theorem red_cross (p q : Int) : redP p q * q = p * redQ p q := by
  have h1 := redP_mul p q
  have h2 := redQ_mul p q
  generalize redG p q = g at *
  generalize redP p q = x at *
  generalize redQ p q = y at *
  rw [← h1, ← h2]; grind
theorem low_any (p q : Int) (w : World) (hp : -4000000000000000000 ≤ p ∧ p ≤ 4000000000000000000) (hq : 0 < q ∧ q ≤ 4000000000000000000) :
    Calls Try.prog 97 #[.int .i64 p, .int .i64 q] w (LowSaid p q w) := by
  by_cases h : redQ p q ≤ 1000000000 ∧ -1000000000 ≤ redP p q ∧ redP p q ≤ 1000000000
  · refine (low_ok p q w hp hq h.1 h.2.1 h.2.2).mono fun e w' ⟨he, hb⟩ => ⟨_, _, _, he, .inl ⟨rfl, ⟨?_, h.1, h.2.1, h.2.2, red_gcd p q hq.1⟩, red_cross p q, rfl, rfl⟩, hb⟩
    have := redQ_pos p q hq.1; omega
  · exact (low_big p q w hp hq h).mono fun e w' ⟨he, hb⟩ => ⟨_, _, _, he, .inr ⟨rfl, rfl, rfl, h⟩, hb⟩

theorem mul_bdR (a b : Int) (A B : Nat) (ha : -(A : Int) ≤ a ∧ a ≤ A) (hb : -(B : Int) ≤ b ∧ b ≤ B) : -((A * B : Nat) : Int) ≤ a * b ∧ a * b ≤ ((A * B : Nat) : Int) := by
  have h1 : (a * b).natAbs ≤ A * B := by
    rw [Int.natAbs_mul]; exact Nat.mul_le_mul (by omega) (by omega)
  omega
theorem rat_mul_bd {P Q R S : Int} (h : Rat1 P Q) (h2 : Rat1 R S) :
    (-1000000000000000000 ≤ P * S ∧ P * S ≤ 1000000000000000000) ∧ (-1000000000000000000 ≤ R * Q ∧ R * Q ≤ 1000000000000000000) ∧ (0 < Q * S ∧ Q * S ≤ 1000000000000000000) ∧ (-1000000000000000000 ≤ P * R ∧ P * R ≤ 1000000000000000000) ∧ (-1000000000000000000 ≤ Q * R ∧ Q * R ≤ 1000000000000000000) := by
  obtain ⟨a1, a2, a3, a4, _⟩ := h
  obtain ⟨b1, b2, b3, b4, _⟩ := h2
  have e : (1000000000 * 1000000000 : Nat) = 1000000000000000000 := rfl
  refine ⟨?_, ?_, ⟨Int.mul_pos (by omega) (by omega), ?_⟩, ?_, ?_⟩
  · have := mul_bdR P S 1000000000 1000000000 (by omega) (by omega); rw [e] at this; omega
  · have := mul_bdR R Q 1000000000 1000000000 (by omega) (by omega); rw [e] at this; omega
  · have := mul_bdR Q S 1000000000 1000000000 (by omega) (by omega); rw [e] at this; omega
  · have := mul_bdR P R 1000000000 1000000000 (by omega) (by omega); rw [e] at this; omega
  · have := mul_bdR Q R 1000000000 1000000000 (by omega) (by omega); rw [e] at this; omega
/-- three structs of two ints in new blocks, behind a callee that leaves them alone -/
theorem res222 {w w1 : World} {a b c d f g : Value} {T U V : TypeId} (hb : Below (((w.alloc (.cells #[a, b] T)).alloc (.cells #[c, d] U)).alloc (.cells #[f, g] V)).heap.size (((w.alloc (.cells #[a, b] T)).alloc (.cells #[c, d] U)).alloc (.cells #[f, g] V)) w1) :
    w1.cell? ⟨w.heap.size, 0, none⟩ = some a ∧ w1.cell? ⟨w.heap.size, 1, none⟩ = some b ∧ w1.cell? ⟨w.heap.size + 1, 0, none⟩ = some c ∧ w1.cell? ⟨w.heap.size + 1, 1, none⟩ = some d ∧
    w1.cell? ⟨w.heap.size + 1 + 1, 0, none⟩ = some f ∧ w1.cell? ⟨w.heap.size + 1 + 1, 1, none⟩ = some g ∧ w1.frozen? ⟨w.heap.size + 1 + 1, 0, none⟩ = false ∧ w1.frozen? ⟨w.heap.size + 1 + 1, 1, none⟩ = false ∧ w.heap.size + 1 + 1 < w1.heap.size ∧ Below w.heap.size w w1 := by
  refine ⟨keep_cell hb (by go_simp) (by simp; omega), keep_cell hb (by go_simp) (by simp; omega), keep_cell hb (by go_simp) (by simp), keep_cell hb (by go_simp) (by simp), keep_cell hb (by go_simp) (by simp), keep_cell hb (by go_simp) (by simp),
    keep_thaw hb (by go_simp) (by simp), keep_thaw hb (by go_simp) (by simp), ?_, kin_trans (kin_alloc (kin_alloc (kin_alloc (Below.refl _ _) _) _) _) hb⟩
  have := hb.size; simp at this; omega

end Go.Proofs.Ytfompfaepabpgaa
namespace Go.Proofs.Ytfompfaepabpgaa
open Go.RowKit

set_option maxHeartbeats 400000 in
theorem add_any (P Q R S : Int) (w : World) (h : Rat1 P Q) (h2 : Rat1 R S) :
    Calls Try.prog 65 #[.agg #[.int .i64 P, .int .i64 Q], .agg #[.int .i64 R, .int .i64 S]] w (LowSaid (P * S + R * Q) (Q * S) w) := by
  obtain ⟨⟨a1, a2⟩, ⟨a3, a4⟩, ⟨a5, a6⟩, ⟨a7, a8⟩, ⟨a9, a10⟩⟩ := rat_mul_bd h h2
  have H1 := Lib.hid h; have H2 := Lib.hid h2; clear h h2
  go_enter Try.func65, Try.ntmps65
  go_wp2_with fail
  refine (both_ok _ _ _ _ _ H1.out H2.out).mono ?_; rintro e w1 ⟨rfl, hb⟩
  obtain ⟨c0, c1, c2, c3, c4, c5, f0, f1, hz, hk⟩ := res222 hb
  have HK := Lib.hid hk; clear hb hk
  go_wp2_with fail
  refine (low_any _ _ _ (by omega) (by omega)).mono ?_; rintro e w2 ⟨X, Y, er, rfl, hl, hb⟩
  have HL := Lib.hid hl; clear hl
  have d4 := keep_cell hb c4 (by simp; omega)
  have d5 := keep_cell hb c5 (by simp; omega)
  have g0 := keep_thaw hb f0 (by simp; omega)
  have g1 := keep_thaw hb f1 (by simp; omega)
  have hz2 := hb.size
  have HB := Lib.hid (kin_trans HK.out hb); clear hb HK c0 c1 c2 c3 c4 c5 f0 f1
  go_wp2_with fail
  exact bodyPost_ret (v := .tuple #[.agg #[.int .i64 X, .int .i64 Y], .int .i64 er]) (by simp [results, Try.results65, go_sem, d4, d5]) rfl
    ⟨X, Y, er, rfl, HL.out, (HB.out.setCell (by simp; omega) _).setCell (by simp; omega) _⟩

/-- what Make answers where p by q is told well -/
def mkP (p q : Int) : Int := if q < 0 then redP (-p) (-q) else redP p q
def mkQ (p q : Int) : Int := if q < 0 then redQ (-p) (-q) else redQ p q
theorem mk_rat (p q : Int) (hp : -1000000000 ≤ p ∧ p ≤ 1000000000) (hq : -1000000000 ≤ q ∧ q ≤ 1000000000) (h0 : q ≠ 0) : Rat1 (mkP p q) (mkQ p q) ∧ mkP p q * q = p * mkQ p q := by
  unfold mkP mkQ
  by_cases h : q < 0
  · rw [if_pos h, if_pos h]
    have h1 : 0 < -q := by omega
    have b1 := redP_bdB 1000000000 (-p) (-q) (by omega) h1 (by omega)
    have b2 := redQ_le (-p) (-q) h1
    have b3 := redQ_pos (-p) (-q) h1
    refine ⟨⟨by omega, by omega, b1.1, b1.2, red_gcd _ _ h1⟩, ?_⟩
    have := red_cross (-p) (-q)
    generalize redP (-p) (-q) = x at *
    generalize redQ (-p) (-q) = y at *
    grind
  · rw [if_neg h, if_neg h]
    have h1 : 0 < q := by omega
    have b1 := redP_bdB 1000000000 p q (by omega) h1 hp
    have b2 := redQ_le p q h1
    have b3 := redQ_pos p q h1
    exact ⟨⟨by omega, by omega, b1.1, b1.2, red_gcd _ _ h1⟩, red_cross p q⟩
theorem red_scale (k p q : Int) (hk : 0 < k) (hq : 0 < q) : redP (k * p) (k * q) = redP p q ∧ redQ (k * p) (k * q) = redQ p q := by
  have g : redG (k * p) (k * q) = k * redG p q := by
    unfold redG
    rw [Int.gcd_mul_left]
    rw [Int.natCast_mul, Int.natAbs_of_nonneg (by omega)]
  have gp := redG_pos p q hq
  unfold redP redQ
  rw [g]
  exact ⟨Int.mul_ediv_mul_of_pos _ _ hk, Int.mul_ediv_mul_of_pos _ _ hk⟩
theorem mk_scale (k p q : Int) (hk : 0 < k) (hq : q ≠ 0) : mkP (k * p) (k * q) = mkP p q ∧ mkQ (k * p) (k * q) = mkQ p q := by
  unfold mkP mkQ
  by_cases h : q < 0
  · have h1 : k * q < 0 := Int.mul_neg_of_pos_of_neg hk h
    rw [if_pos h, if_pos h, if_pos h1, if_pos h1, ← Int.mul_neg, ← Int.mul_neg]
    exact red_scale k (-p) (-q) hk (by omega)
  · have h1 : 0 < k * q := Int.mul_pos hk (by omega)
    rw [if_neg h, if_neg h, if_neg (by omega), if_neg (by omega)]
    exact red_scale k p q hk (by omega)
theorem mk_neg (p q : Int) (hq : q ≠ 0) : mkP (-p) (-q) = mkP p q ∧ mkQ (-p) (-q) = mkQ p q := by
  unfold mkP mkQ
  by_cases h : q < 0
  · rw [if_pos h, if_pos h, if_neg (by omega), if_neg (by omega)]; exact ⟨rfl, rfl⟩
  · rw [if_neg h, if_neg h, if_pos (by omega), if_pos (by omega), Int.neg_neg, Int.neg_neg]; exact ⟨rfl, rfl⟩
end Go.Proofs.Ytfompfaepabpgaa
namespace Go.Proofs.Ytfompfaepabpgaa

/-- P by Q and p by q are one number -/
def Eqv (P Q p q : Int) : Prop := P * q = p * Q
theorem eqv_symm {P Q p q : Int} (h : Eqv P Q p q) : Eqv p q P Q := by unfold Eqv at *; exact h.symm
theorem eqv_trans {P Q p q r s : Int} (hq : 0 < q) (h1 : Eqv P Q p q) (h2 : Eqv p q r s) : Eqv P Q r s := by
  unfold Eqv at *
  have : q * (P * s) = q * (r * Q) := by grind
  exact Int.eq_of_mul_eq_mul_left (by omega) this
theorem eqv_add {P Q p q R S r s : Int} (h1 : Eqv P Q p q) (h2 : Eqv R S r s) : Eqv (P * S + R * Q) (Q * S) (p * s + r * q) (q * s) := by
  unfold Eqv at *
  have e1 : P * q * (S * s) = p * Q * (S * s) := by rw [h1]
  have e2 : R * s * (Q * q) = r * S * (Q * q) := by rw [h2]
  grind
theorem eqv_mul {P Q p q R S r s : Int} (h1 : Eqv P Q p q) (h2 : Eqv R S r s) : Eqv (P * R) (Q * S) (p * r) (q * s) := by
  unfold Eqv at *
  have : (P * q) * (R * s) = (p * Q) * (r * S) := by rw [h1, h2]
  grind
theorem eqv_red (p q : Int) : Eqv (redP p q) (redQ p q) p q := red_cross p q
/-- in lowest terms a number is told in one way alone -/
theorem eqv_uniq {P Q R S : Int} (hQ : 0 < Q) (hS : 0 < S) (g1 : Int.gcd P Q = 1) (g2 : Int.gcd R S = 1) (h : Eqv P Q R S) : P = R ∧ Q = S := by
  unfold Eqv at h
  have hn : P.natAbs * S.natAbs = R.natAbs * Q.natAbs := by rw [← Int.natAbs_mul, ← Int.natAbs_mul, h]
  have c1 : Nat.Coprime Q.natAbs P.natAbs := by rw [Nat.coprime_comm]; exact g1
  have c2 : Nat.Coprime S.natAbs R.natAbs := by rw [Nat.coprime_comm]; exact g2
  have d1 : Q.natAbs ∣ S.natAbs := c1.dvd_of_dvd_mul_left (hn ▸ Nat.dvd_mul_left _ _)
  have d2 : S.natAbs ∣ Q.natAbs := c2.dvd_of_dvd_mul_left (hn ▸ Nat.dvd_mul_left _ _)
  have e := Nat.dvd_antisymm d1 d2
  have eQ : Q = S := by omega
  refine ⟨?_, eQ⟩
  subst eQ
  exact Int.eq_of_mul_eq_mul_right (by omega) h
theorem red_eq {p q r s : Int} (hq : 0 < q) (hs : 0 < s) (h : Eqv p q r s) : redP p q = redP r s ∧ redQ p q = redQ r s := by
  refine eqv_uniq (redQ_pos p q hq) (redQ_pos r s hs) (red_gcd p q hq) (red_gcd r s hs) ?_
  exact eqv_trans hq (eqv_red p q) (eqv_trans hs h (eqv_symm (eqv_red r s)))
theorem red_self {P Q : Int} (h : Rat1 P Q) : redP P Q = P ∧ redQ P Q = Q := by
  have g : redG P Q = 1 := by unfold redG; rw [h.2.2.2.2]; rfl
  unfold redP redQ
  rw [g]; simp
theorem red_rat (p q : Int) (hp : -1000000000 ≤ p ∧ p ≤ 1000000000) (hq : 0 < q ∧ q ≤ 1000000000) : Rat1 (redP p q) (redQ p q) := by
  have b1 := redP_bdB 1000000000 p q (by omega) hq.1 hp
  have b2 := redQ_le p q hq.1
  have b3 := redQ_pos p q hq.1
  exact ⟨by omega, by omega, b1.1, b1.2, red_gcd _ _ hq.1⟩
theorem mul_bdI (a b A B : Int) (ha : -A ≤ a ∧ a ≤ A) (hb : -B ≤ b ∧ b ≤ B) : -(A * B) ≤ a * b ∧ a * b ≤ A * B := by
  have := mul_bdR a b A.toNat B.toNat (by omega) (by omega)
  rw [Int.natCast_mul, Int.toNat_of_nonneg (by omega), Int.toNat_of_nonneg (by omega)] at this
  exact this

/-- x = p by q in lowest terms, with bounds -/
def RedIs (p q X Y : Int) : Prop := redP p q = X ∧ redQ p q = Y
theorem red_small (p q A B : Int) (hA : 0 ≤ A) (hp : -A ≤ p ∧ p ≤ A) (hq : 0 < q ∧ q ≤ B) :
    ∃ X Y, RedIs p q X Y ∧ Eqv X Y p q ∧ (-A ≤ X ∧ X ≤ A) ∧ (1 ≤ Y ∧ Y ≤ B) ∧ Int.gcd X Y = 1 := by
  have b1 := redP_bdB A p q hA hq.1 hp
  have b2 := redQ_le p q hq.1
  have b3 := redQ_pos p q hq.1
  exact ⟨_, _, ⟨rfl, rfl⟩, eqv_red p q, b1, ⟨by omega, by omega⟩, red_gcd p q hq.1⟩
theorem redIs_of {p q X Y : Int} (hq : 0 < q) (hY : 0 < Y) (g : Int.gcd X Y = 1) (h : Eqv p q X Y) : RedIs p q X Y :=
  eqv_uniq (redQ_pos p q hq) hY (red_gcd p q hq) g (eqv_trans hq (eqv_red p q) h)
theorem rat1_of {X Y A B : Int} (hx : -A ≤ X ∧ X ≤ A) (hy : 1 ≤ Y ∧ Y ≤ B) (g : Int.gcd X Y = 1) (hA : A ≤ 1000000000) (hB : B ≤ 1000000000) : Rat1 X Y :=
  ⟨hy.1, by omega, by omega, by omega, g⟩
theorem field_math (x1 x2 y1 y2 z1 z2 : Int) (bx : -100 ≤ x1 ∧ x1 ≤ 100) (by_ : -100 ≤ y1 ∧ y1 ≤ 100) (bz : -100 ≤ z1 ∧ z1 ≤ 100)
    (cx : 1 ≤ x2 ∧ x2 ≤ 100) (cy : 1 ≤ y2 ∧ y2 ≤ 100) (cz : 1 ≤ z2 ∧ z2 ≤ 100) (gx : Int.gcd x1 x2 = 1) :
    ∃ a1 a2 c1 c2 l1 l2 m1 m2 k1 k2 s1 s2 : Int,
      (RedIs (x1 * y2 + y1 * x2) (x2 * y2) a1 a2 ∧ RedIs (y1 * x2 + x1 * y2) (y2 * x2) a1 a2 ∧ Rat1 a1 a2 ∧ (-20000 ≤ a1 ∧ a1 ≤ 20000) ∧ (1 ≤ a2 ∧ a2 ≤ 10000)) ∧
      (RedIs (y1 * z2 + z1 * y2) (y2 * z2) c1 c2 ∧ Rat1 c1 c2 ∧ (-20000 ≤ c1 ∧ c1 ≤ 20000) ∧ (1 ≤ c2 ∧ c2 ≤ 10000)) ∧
      (RedIs (a1 * z2 + z1 * a2) (a2 * z2) l1 l2 ∧ RedIs (x1 * c2 + c1 * x2) (x2 * c2) l1 l2 ∧ Rat1 l1 l2) ∧
      (RedIs (x1 * y1) (x2 * y2) m1 m2 ∧ Rat1 m1 m2 ∧ (-10000 ≤ m1 ∧ m1 ≤ 10000) ∧ (1 ≤ m2 ∧ m2 ≤ 10000)) ∧
      (RedIs (x1 * z1) (x2 * z2) k1 k2 ∧ Rat1 k1 k2 ∧ (-10000 ≤ k1 ∧ k1 ≤ 10000) ∧ (1 ≤ k2 ∧ k2 ≤ 10000)) ∧
      (RedIs (m1 * k2 + k1 * m2) (m2 * k2) s1 s2 ∧ RedIs (x1 * c1) (x2 * c2) s1 s2 ∧ Rat1 s1 s2) ∧
      (0 < y1 → RedIs (m1 * y2) (m2 * y1) x1 x2) ∧ (y1 < 0 → RedIs (-(m1 * y2)) (-(m2 * y1)) x1 x2) := by
  have p1 := mul_bdI x1 y2 100 100 bx (by omega)
  have p2 := mul_bdI y1 x2 100 100 by_ (by omega)
  have p3 := mul_bdI x2 y2 100 100 (by omega) (by omega)
  have q3 : 0 < x2 * y2 := Int.mul_pos (by omega) (by omega)
  have p4 := mul_bdI y1 z2 100 100 by_ (by omega)
  have p5 := mul_bdI z1 y2 100 100 bz (by omega)
  have p6 := mul_bdI y2 z2 100 100 (by omega) (by omega)
  have q6 : 0 < y2 * z2 := Int.mul_pos (by omega) (by omega)
  have p7 := mul_bdI x1 y1 100 100 bx by_
  have p8 := mul_bdI x1 z1 100 100 bx bz
  have p9 := mul_bdI x2 z2 100 100 (by omega) (by omega)
  have q9 : 0 < x2 * z2 := Int.mul_pos (by omega) (by omega)
  obtain ⟨a1, a2, ra, ea, ba, ca, ga⟩ := red_small (x1 * y2 + y1 * x2) (x2 * y2) 20000 10000 (by omega) (by omega) (by omega)
  obtain ⟨c1, c2, rc, ec, bc, cc, gc⟩ := red_small (y1 * z2 + z1 * y2) (y2 * z2) 20000 10000 (by omega) (by omega) (by omega)
  obtain ⟨m1, m2, rm, em, bm, cm, gm⟩ := red_small (x1 * y1) (x2 * y2) 10000 10000 (by omega) (by omega) (by omega)
  obtain ⟨k1, k2, rk, ek, bk, ck, gk⟩ := red_small (x1 * z1) (x2 * z2) 10000 10000 (by omega) (by omega) (by omega)
  have u1 := mul_bdI a1 z2 20000 100 ba (by omega)
  have u2 := mul_bdI z1 a2 100 10000 bz (by omega)
  have u3 := mul_bdI a2 z2 10000 100 (by omega) (by omega)
  have w3 : 0 < a2 * z2 := Int.mul_pos (by omega) (by omega)
  obtain ⟨l1, l2, rl, el, bl, cl, gl⟩ := red_small (a1 * z2 + z1 * a2) (a2 * z2) 3000000 1000000 (by omega) (by omega) (by omega)
  have v1 := mul_bdI m1 k2 10000 10000 bm (by omega)
  have v2 := mul_bdI k1 m2 10000 10000 bk (by omega)
  have v3 := mul_bdI m2 k2 10000 10000 (by omega) (by omega)
  have w4 : 0 < m2 * k2 := Int.mul_pos (by omega) (by omega)
  obtain ⟨s1, s2, rs, es, bs, cs, gs⟩ := red_small (m1 * k2 + k1 * m2) (m2 * k2) 200000000 100000000 (by omega) (by omega) (by omega)
  have w5 : 0 < x2 * c2 := Int.mul_pos (by omega) (by omega)
  have w6 : 0 < y2 * x2 := Int.mul_pos (by omega) (by omega)
  refine ⟨a1, a2, c1, c2, l1, l2, m1, m2, k1, k2, s1, s2, ⟨ra, ?_, rat1_of ba ca ga (by omega) (by omega), ba, ca⟩, ⟨rc, rat1_of bc cc gc (by omega) (by omega), bc, cc⟩,
    ⟨rl, ?_, rat1_of bl cl gl (by omega) (by omega)⟩, ⟨rm, rat1_of bm cm gm (by omega) (by omega), bm, cm⟩, ⟨rk, rat1_of bk ck gk (by omega) (by omega), bk, ck⟩,
    ⟨rs, ?_, rat1_of bs cs gs (by omega) (by omega)⟩, ?_, ?_⟩
  · refine redIs_of w6 (by omega) ga (eqv_symm (eqv_trans q3 ea ?_))
    unfold Eqv; grind
  · refine redIs_of w5 (by omega) gl (eqv_symm (eqv_trans w3 el ?_))
    have h1 := eqv_add ea (show Eqv z1 z2 z1 z2 from rfl)
    have h2 := eqv_add (show Eqv x1 x2 x1 x2 from rfl) ec
    refine eqv_trans (Int.mul_pos q3 (by omega)) h1 (eqv_symm (eqv_trans (Int.mul_pos (show 0 < x2 by omega) q6) h2 ?_))
    unfold Eqv; grind
  · refine redIs_of w5 (by omega) gs (eqv_symm (eqv_trans w4 es ?_))
    have h1 := eqv_add em ek
    have h2 := eqv_mul (show Eqv x1 x2 x1 x2 from rfl) ec
    refine eqv_trans (Int.mul_pos q3 q9) h1 (eqv_symm (eqv_trans (Int.mul_pos (show 0 < x2 by omega) q6) h2 ?_))
    unfold Eqv; grind
  · intro hy
    refine redIs_of (Int.mul_pos (by omega) hy) (by omega) gx ?_
    unfold Eqv at em ⊢
    have : y2 * (m1 * y2 * x2) = y2 * (x1 * (m2 * y1)) := by grind
    exact Int.eq_of_mul_eq_mul_left (by omega) this
  · intro hy
    have : 0 < m2 * (-y1) := Int.mul_pos (by omega) (by omega)
    rw [Int.mul_neg] at this
    refine redIs_of this (by omega) gx ?_
    unfold Eqv at em ⊢
    have : y2 * (-(m1 * y2) * x2) = y2 * (x1 * -(m2 * y1)) := by grind
    exact Int.eq_of_mul_eq_mul_left (by omega) this
end Go.Proofs.Ytfompfaepabpgaa
namespace Go.Proofs.Ytfompfaepabpgaa
open Go.RowKit

/-- what low answers where it fits -/
theorem low_fits {p q X Y : Int} {w : World} {e : Ending} {w' : World} (h : LowSaid p q w e w') (hr : RedIs p q X Y) (hx : Rat1 X Y) :
    e = .returned (.tuple #[.agg #[.int .i64 X, .int .i64 Y], .int .i64 0]) ∧ Below w.heap.size w w' := by
  obtain ⟨P, Q, er, he, hl, hb⟩ := h
  refine ⟨?_, hb⟩
  rcases hl with ⟨h1, _, _, h2, h3⟩ | ⟨_, _, _, h⟩
  · rw [he, h1, h2, h3, hr.1, hr.2]
  · exfalso; apply h; rw [hr.1, hr.2]; exact ⟨hx.2.1, hx.2.2.1, hx.2.2.2.1⟩
theorem add_fits (P Q R S X Y : Int) (w : World) (h : Rat1 P Q) (h2 : Rat1 R S) (hr : RedIs (P * S + R * Q) (Q * S) X Y) (hx : Rat1 X Y) :
    Calls Try.prog 65 #[.agg #[.int .i64 P, .int .i64 Q], .agg #[.int .i64 R, .int .i64 S]] w fun e w' => e = .returned (.tuple #[.agg #[.int .i64 X, .int .i64 Y], .int .i64 0]) ∧ Below w.heap.size w w' :=
  (add_any P Q R S w h h2).mono fun _ _ hl => low_fits hl hr hx

/-- block B is a struct of two ints -/
def St (w : World) (B T : Nat) (X Y : Int) : Prop := w.heap[B]? = some (.cells #[.int .i64 X, .int .i64 Y] T)
theorem St.lt {w : World} {B T : Nat} {X Y : Int} (h : St w B T X Y) : B < w.heap.size := by
  unfold St at h; exact (Array.getElem?_eq_some_iff.1 h).1
theorem St.new (w : World) (T : Nat) (X Y : Int) : St (w.alloc (.cells #[.int .i64 X, .int .i64 Y] T)) w.heap.size T X Y := by
  show (w.heap.push _)[w.heap.size]? = _
  exact Array.getElem?_push_size
theorem St.keep {w w' : World} {B T : Nat} {X Y : Int} (h : St w B T X Y) (b : Below w.heap.size w w') : St w' B T X Y := by
  have := h.lt; unfold St at *; rw [b.block B this, h]
theorem St.alloc {w : World} {B T : Nat} {X Y : Int} (h : St w B T X Y) (o : Obj) : St (w.alloc o) B T X Y := h.keep (kin_alloc (Below.refl _ _) o)
theorem St.c0 {w : World} {B T : Nat} {X Y : Int} (h : St w B T X Y) : w.cell? ⟨B, 0, none⟩ = some (.int .i64 X) := by
  unfold St at h; unfold World.cell?
  rw [show ((⟨B, 0, none⟩ : Addr).block) = B from rfl, h]; rfl
theorem St.c1 {w : World} {B T : Nat} {X Y : Int} (h : St w B T X Y) : w.cell? ⟨B, 1, none⟩ = some (.int .i64 Y) := by
  unfold St at h; unfold World.cell?
  rw [show ((⟨B, 1, none⟩ : Addr).block) = B from rfl, h]; rfl
end Go.Proofs.Ytfompfaepabpgaa
namespace Go.Proofs.Ytfompfaepabpgaa
open Go.RowKit

set_option maxRecDepth 100000 in
set_option maxHeartbeats 1000000 in
theorem insOne (ad : Option Addr) (cp : Nat) (fv : Value) (w : World) :
    Calls Try.prog 124 #[.slice ad 1 cp, .int .i64 0, .int .i64 1, fv] w fun e w' => e = .returned (.tuple #[]) ∧ w = w' := by
  go_enter Try.func124, Try.ntmps124
  go_wp2_with fail
  go_loop [8] (fun i => i = .int .i64 1) (fun _ => 0)
  case atStart => rfl
  case round =>
    subst hrel
    go_wp2_with fail
    go_end0
    exact ⟨rfl, rfl⟩
set_option maxRecDepth 100000 in
set_option maxHeartbeats 1000000 in
theorem pdqOne (ad : Option Addr) (cp : Nat) (fv : Value) (L : Int) (w : World) :
    Calls Try.prog 120 #[.slice ad 1 cp, .int .i64 0, .int .i64 1, .int .i64 L, fv] w fun e w' => e = .returned (.tuple #[]) ∧ w = w' := by
  go_enter Try.func120, Try.ntmps120
  go_wp2_with fail
  go_loop [1, 2, 3] (fun a b l => a = .int .i64 0 ∧ b = .int .i64 1) (fun _ _ _ => 0)
  case atStart => exact ⟨rfl, rfl⟩
  case round =>
    obtain ⟨rfl, rfl⟩ := hrel
    go_wp2_with fail
    refine (insOne _ _ _ _).mono ?_; rintro e w' ⟨rfl, rfl⟩
    go_wp2_with fail
    refine bodyPost_ret (results_none rfl _ _ _) rfl ?_
    exact ⟨rfl, rfl⟩
set_option maxRecDepth 100000 in
theorem len64One (w : World) : Calls Try.prog 94 #[.int .u64 1] w fun e w' => (∃ L, e = .returned (.int .i64 L)) ∧ w = w' := by
  go_enter Try.func94, Try.ntmps94
  go_wp2_with fail
  go_ret
  exact ⟨⟨_, rfl⟩, rfl⟩
set_option maxRecDepth 100000 in
theorem lenOne (w : World) : Calls Try.prog 63 #[.int .u64 1] w fun e w' => (∃ L, e = .returned (.int .i64 L)) ∧ w = w' := by
  go_enter Try.func63, Try.ntmps63
  go_wp2_with fail
  refine (len64One _).mono ?_; rintro e w' ⟨⟨L, rfl⟩, rfl⟩
  go_wp2_with fail
  go_ret
  exact ⟨⟨_, rfl⟩, rfl⟩
set_option maxRecDepth 100000 in
theorem sortOne (ad : Option Addr) (cp : Nat) (fv : Value) (w : World) :
    Calls Try.prog 107 #[.slice ad 1 cp, fv] w fun e w' => e = .returned (.tuple #[]) ∧ w = w' := by
  go_enter Try.func107, Try.ntmps107
  go_wp2_with fail
  refine (lenOne _).mono ?_; rintro e w' ⟨⟨L, rfl⟩, rfl⟩
  go_wp2_with fail
  refine (pdqOne _ _ _ _ _).mono ?_; rintro e w' ⟨rfl, rfl⟩
  go_wp2_with fail
  go_end0
  exact ⟨rfl, rfl⟩

/-! one turn of three -/
def p120 : List Int := [1, 2, 0]
def seen10 (j : Nat) : List Value := (List.range 10).map (fun t => .bool (decide (t < j)))
theorem seen10_len (j : Nat) : (seen10 j).length = 10 := by simp [seen10]
theorem seen10_set (j : Nat) (h : j < 10) : (seen10 j).set j (.bool true) = seen10 (j + 1) := by
  refine List.ext_getElem? (fun i => ?_)
  rw [List.getElem?_set, seen10_len]
  unfold seen10
  by_cases e : j = i
  · subst e; rw [if_pos rfl, if_pos h]; simp [h]
  · rw [if_neg e, List.getElem?_map, List.getElem?_map]
    by_cases hi : i < 10
    · rw [List.getElem?_range hi]; simp
      by_cases h1 : i < j
      · simp [h1, show i < j + 1 from by omega]
      · simp [h1, show ¬ i < j + 1 from by omega]
    · rw [List.getElem?_eq_none (by simp; omega)]; rfl
theorem seen10_get (j i : Nat) (h : i < 10) : (seen10 j)[i]? = some (.bool (decide (i < j))) := by
  unfold seen10
  rw [List.getElem?_map, List.getElem?_range h]; rfl
set_option maxRecDepth 100000 in
set_option maxHeartbeats 4000000 in
theorem cycles120 (a : Option Addr) (cap : Nat) (w : World) (h : Sa w a (ints p120)) :
    Calls Try.prog 95 #[.slice a 3 cap] w fun e w' => ∃ ad cp, e = .returned (.tuple #[.slice ad 1 cp, .int .i64 0]) ∧ Fr w w' [⟨3, .slice ad 1 cp, ints [3]⟩] := by
  have HS := Lib.hid h
  have HP := Lib.hid (show IsP p120 from isP_lit _ (by decide) (by decide))
  obtain ⟨b0, off, rfl, hb0, -⟩ := h.int 0 (by decide)
  clear h
  go_enter Try.func95, Try.ntmps95
  go_wp2_with fail
  refine (permChk p120 3 _ _ _ HS.out rfl HP.out (by omega)).mono ?_; rintro e w1 ⟨rfl, F1⟩
  go_wp2_with fail
  have F2 := F1.new 161 #[.bool false, .bool false, .bool false, .bool false, .bool false, .bool false, .bool false, .bool false, .bool false, .bool false] (seen10 0) rfl 10 rfl (by omega)
  obtain ⟨B, hB⟩ : ∃ B, w1.heap.size = B := ⟨_, rfl⟩
  rw [hB] at F2 ⊢
  go_loopw [6, 17] (fun o i wr => ∃ (k : Nat) (ad : Option Addr) (cp : Nat), k ≤ 3 ∧ i = .int .i64 k ∧ o = .slice ad (if k = 0 then 0 else 1) cp ∧ Fr w wr [⟨3, .slice ad (if k = 0 then 0 else 1) cp, ints (if k = 0 then [] else [3])⟩, ⟨161, .slice (some ⟨B, 0, none⟩) 10 10, seen10 (if k = 0 then 0 else 3)⟩]) (fun _ i _ => 3 - (intOf i).toNat)
  case atStart => exact ⟨0, none, 0, by omega, rfl, rfl, F2.nilSlice _⟩
  case round =>
    obtain ⟨k, ad, cp, hk, rfl, rfl, hfr⟩ := hrel
    clear F2
    rcases k with _ | k
    · rw [if_pos rfl] at hfr ⊢
      simp only [if_true] at hfr
      have nth3 : ∀ j, j < 3 → nth p120 j = ((j + 1) % 3 : Nat) := by decide
      go_wp2_with fail
      go_loopw [8, 9] (fun n k wr => ∃ (j : Nat), j ≤ 3 ∧ n = .int .i64 j ∧ k = .int .i64 (j % 3 : Nat) ∧ Fr w wr [⟨3, .slice ad 0 cp, ints []⟩, ⟨161, .slice (some ⟨B, 0, none⟩) 10 10, seen10 j⟩]) (fun n _ _ => 3 - (intOf n).toNat)
      case atStart => exact ⟨0, by omega, rfl, rfl, hfr⟩
      case round =>
        obtain ⟨j, hj, rfl, rfl, hfr⟩ := hrel
        have hm : j % 3 < 3 := Nat.mod_lt _ (by omega)
        obtain ⟨g, e, _, _, hcell, hz⟩ := hfr.swap.open (by rw [seen10_len]; omega)
        cases e
        have c1 := hcell (j % 3) (by rw [seen10_len]; omega)
        rw [seen10_get _ _ (by omega)] at c1
        have z1 := hz (j % 3)
        clear hcell hz
        by_cases hlt : j < 3
        · have hjm : j % 3 = j := Nat.mod_eq_of_lt hlt
          rw [hjm] at c1 z1 hm ⊢
          rw [decide_eq_false (by omega)] at c1
          obtain ⟨b', o', e, hb', c2⟩ := (hfr.old HS.out).int j (by exact hlt)
          cases e
          rw [nth3 j hlt] at c2
          have F3 := Fr.swap (hfr.swap.set j (.bool true))
          rw [seen10_set j (by omega)] at F3
          have HF3 := Lib.hid F3
          have d1 : (0 : Int) ≤ (j : Int) := by omega
          have d2 : (j : Int) < 10 := by omega
          have d3 : (j : Int) < 3 := by omega
          have nb : b0 ≠ B := by omega
          clear hfr hjm F3 nth3
          obtain ⟨y, hy⟩ : ∃ y, (j + 1) % 3 = y := ⟨_, rfl⟩
          rw [hy] at c2
          have HY := Lib.hid hy
          clear hy
          go_wp2_with fail
          exact ⟨⟨j + 1, by omega, by simp, by rw [HY.out], HF3.out⟩, by simp only [intOf]; omega⟩
        · obtain rfl : j = 3 := by omega
          have c1' : wr.cell? ⟨B, 0, none⟩ = some (.bool true) := c1
          clear c1 z1
          go_wp2_with (with_reducible refine at_slot 38 ?_; go_must (refine wpList_pushInt rfl _ _ rfl ad 0 cp _ 3 _ rfl hfr rfl ?_ ?_); rotate_left; intro ad' cp' w2 hf2 hlt2)
          · go_wp2_with fail
            exact ⟨⟨1, ad', cp', by omega, rfl, rfl, hf2⟩, by simp only [intOf]; omega⟩
          · omega
    · simp only [if_neg (show ¬ k + 1 = 0 by omega)] at hfr ⊢
      obtain ⟨g, e, _, _, hcell, hz⟩ := hfr.swap.open (by rw [seen10_len]; omega)
      cases e
      by_cases hlt : k + 1 < 3
      · have c1 := hcell (k + 1) (by rw [seen10_len]; omega)
        rw [seen10_get _ _ (by omega), decide_eq_true hlt] at c1
        have d1 : (0 : Int) ≤ ((k + 1 : Nat) : Int) := by omega
        have d2 : ((k + 1 : Nat) : Int) < 10 := by omega
        have d3 : ((k + 1 : Nat) : Int) < 3 := by omega
        obtain ⟨m, hm⟩ : ∃ m, k + 1 = m := ⟨_, rfl⟩
        rw [hm] at c1 d1 d2 d3 hlt hk ⊢
        have m0 : ¬ m = 0 := by omega
        clear hcell hz hm
        go_wp2_with fail
        go_loopw [8, 9] (fun n k wr' => n = .int .i64 0 ∧ k = .int .i64 m ∧ wr' = wr) (fun _ _ _ => 0)
        case atStart => exact ⟨rfl, rfl, rfl⟩
        case round =>
          obtain ⟨rfl, rfl, rfl⟩ := hrel
          go_wp2_with fail
          exact ⟨⟨m + 1, ad, cp, by omega, by simp, by rw [if_neg (by omega)], by simp only [if_neg (show ¬ m + 1 = 0 by omega)]; exact hfr⟩, by simp only [intOf]; omega⟩
      · obtain rfl : k = 2 := by omega
        clear hcell hz
        go_wp2_with fail
        refine (sortOne _ _ _ _).mono ?_; rintro e w' ⟨rfl, rfl⟩
        go_wp2_with fail
        go_ret2
        exact ⟨ad, cp, rfl, hfr.sub (by simp)⟩

set_option maxRecDepth 100000 in
set_option maxHeartbeats 4000000 in
theorem order120 (a : Option Addr) (cap : Nat) (w : World) (h : Sa w a (ints p120)) :
    Calls Try.prog 64 #[.slice a 3 cap] w fun e w' => e = .returned (.tuple #[.int .i64 3, .int .i64 0]) ∧ Below w.heap.size w w' := by
  have HS := Lib.hid h
  clear h
  go_enter Try.func64, Try.ntmps64
  go_wp2_with fail
  refine (cycles120 _ _ _ HS.out).mono ?_; rintro e w1 ⟨ad, cp, rfl, F1⟩
  obtain ⟨G, e, -, -, -⟩ := F1.openI 0 (by decide)
  subst e
  go_wp2_with fail
  go_loopw [6, 21] (fun o i wr => ∃ t : Nat, t ≤ 1 ∧ i = .int .i64 t ∧ o = .int .i64 (if t = 0 then 1 else 3) ∧ Fr w wr [⟨3, .slice (some ⟨G, 0, none⟩) 1 cp, ints [3]⟩]) (fun _ i _ => 1 - (intOf i).toNat)
  case atStart => exact ⟨0, by omega, rfl, rfl, F1⟩
  case round =>
    obtain ⟨t, ht, rfl, rfl, hfr⟩ := hrel
    clear F1
    rcases t with _ | t
    · rw [if_pos rfl]
      obtain ⟨_, e, _, c0, -⟩ := hfr.openI 0 (by decide)
      cases e
      have c0' : wr.cell? ⟨G, 0, none⟩ = some (.int .i64 3) := c0
      clear c0
      go_wp2_with fail
      go_loopw [9, 10] (fun a b wr => (a = .int .i64 1 ∧ b = .int .i64 3 ∨ a = .int .i64 3 ∧ b = .int .i64 1 ∨ a = .int .i64 1 ∧ b = .int .i64 0) ∧ Fr w wr [⟨3, .slice (some ⟨G, 0, none⟩) 1 cp, ints [3]⟩]) (fun _ b _ => (intOf b).toNat)
      case atStart => exact ⟨.inl ⟨rfl, rfl⟩, hfr⟩
      case round =>
        obtain ⟨hab, hfr⟩ := hrel
        rcases hab with ⟨rfl, rfl⟩ | ⟨rfl, rfl⟩ | ⟨rfl, rfl⟩
        · go_wp2_with fail
          go_region
          go_wp2_with fail
          exact ⟨⟨.inr (.inl ⟨rfl, rfl⟩), hfr.drew⟩, by simp [intOf]⟩
        · go_wp2_with fail
          go_region
          go_wp2_with fail
          exact ⟨⟨.inr (.inr ⟨rfl, rfl⟩), hfr.drew⟩, by simp [intOf]⟩
        · go_wp2_with fail
          exact ⟨⟨1, by omega, rfl, rfl, hfr⟩, by simp [intOf]⟩
    · obtain rfl : t = 0 := by omega
      rw [if_neg (by omega)]
      go_wp2_with fail
      go_ret2
      exact ⟨rfl, hfr.bel⟩
end Go.Proofs.Ytfompfaepabpgaa
namespace Go.Proofs.Ytfompfaepabpgaa
open Go.RowKit

theorem goodneqT (x : Int) (w : World) :
    Calls Try.prog 66 #[.int .i64 x] w fun e w' => e = .returned (.bool (x != 0)) ∧ w = w' := by
  go_enter Try.func66, Try.ntmps66
  go_wp2
  go_ret
  exact ⟨rfl, rfl⟩

set_option maxHeartbeats 1000000 in
theorem indexT (f : Nat → Int) (n b off cap : Nat) (w : World) (hl : n ≤ 1000000)
    (hc : ∀ i, i < n → w.cell? ⟨b, off + i, none⟩ = some (.int .i64 (f i))) :
    Calls Try.prog 82 #[.slice (some ⟨b, off, none⟩) n cap, .func (.func 66) #[] #[]] w
      (IdxSaid f n w) := by
  have HC := Lib.hid hc; clear hc
  go_enter Try.func82, Try.ntmps82
  go_wp2_with fail
  go_loop [8] (fun i => ∃ k : Nat, k ≤ n ∧ Hid (∀ i, i < k → f i = 0) ∧ i = .int .i64 k) (fun i => n - (intOf i).toNat)
  case atStart => exact ⟨0, Nat.zero_le _, Lib.hid (by intro i hi; omega), rfl⟩
  case round =>
    obtain ⟨k, hk, hz, rfl⟩ := hrel
    by_cases hlt : k < n
    · have hcell := HC.out k hlt
      cases hx : (f k != 0)
      · have HX := Lib.hid hx
        go_wp2_with (go_at_call 66; refine (goodneqT _ _).mono ?_; rintro e w' ⟨rfl, rfl⟩)
        go_round
        case rel =>
          refine ⟨k + 1, by omega, Lib.hid ?_, by go_num⟩
          intro i hi
          by_cases h : i = k
          · subst h; simpa using HX.out
          · exact hz.out i (by omega)
        case measure => simp [intOf]; omega
      · have HX := Lib.hid hx
        go_wp2_with (go_at_call 66; refine (goodneqT _ _).mono ?_; rintro e w' ⟨rfl, rfl⟩)
        go_ret
        exact ⟨k, rfl, .inr ⟨by omega, by omega, k, hlt, by simpa using HX.out⟩, rfl⟩
    · obtain rfl : k = n := by omega
      go_wp2_with fail
      go_ret
      exact ⟨-1, rfl, .inl ⟨rfl, hz.out⟩, rfl⟩

set_option maxHeartbeats 400000 in
theorem containsT (f : Nat → Int) (n b off cap : Nat) (w : World) (hl : n ≤ 1000000)
    (hc : ∀ i, i < n → w.cell? ⟨b, off + i, none⟩ = some (.int .i64 (f i))) :
    Calls Try.prog 55 #[.slice (some ⟨b, off, none⟩) n cap, .func (.func 66) #[] #[]] w
      fun e w' => ∃ r : Bool, e = .returned (.bool (!r)) ∧ IffAll r f n ∧ w = w' := by
  have HC := Lib.hid hc; clear hc
  go_enter Try.func55, Try.ntmps55
  go_wp2_with fail
  refine (indexT f n b off cap w hl HC.out).mono ?_
  rintro e w' ⟨r, rfl, hr, rfl⟩
  rcases hr with ⟨hr, hz⟩ | ⟨hr, hr2, i, hi, hne⟩
  · have HZ := Lib.hid hz; clear hz
    subst hr
    go_wp2_with fail
    go_ret
    exact ⟨true, rfl, ⟨fun _ => HZ.out, fun _ => rfl⟩, rfl⟩
  · have HI : Hid (i < n ∧ f i ≠ 0) := Lib.hid ⟨hi, hne⟩; clear hi hne
    go_wp2_with fail
    go_ret
    exact ⟨false, rfl, ⟨fun h => by simp at h, fun h => absurd (h i HI.out.1) HI.out.2⟩, rfl⟩

set_option maxHeartbeats 400000 in
theorem goodT_said (f : Nat → Int) (n b off cap : Nat) (w : World) (hl : n ≤ 1000000)
    (hc : ∀ i, i < n → w.cell? ⟨b, off + i, none⟩ = some (.int .i64 (f i))) :
    Calls Try.prog 34 #[.slice (some ⟨b, off, none⟩) n cap] w (GoodSaid f n w) := by
  have HC := Lib.hid hc; clear hc
  go_enter Try.func34, Try.ntmps34
  go_wp2_with fail
  refine (containsT f n b off cap w hl HC.out).mono ?_
  rintro e w' ⟨r, rfl, hr, rfl⟩
  cases r
  all_goals
    go_wp2_with fail
    go_ret
  · exact ⟨false, rfl, hr, rfl⟩
  · exact ⟨true, rfl, hr, rfl⟩

/-- all errors are nil -/
theorem goodT_yes (n b off cap : Nat) (w : World) (hl : n ≤ 1000000)
    (hc : ∀ i, i < n → w.cell? ⟨b, off + i, none⟩ = some (.int .i64 0)) :
    Calls Try.prog 34 #[.slice (some ⟨b, off, none⟩) n cap] w fun e w' => e = .returned (.bool true) ∧ w = w' :=
  (goodT_said (fun _ => 0) n b off cap w hl hc).mono fun _ _ ⟨r, he, hr, hw⟩ => ⟨by rw [he, hr.2 (fun _ _ => rfl)], hw⟩

theorem goodT (n : Nat) (w : World) (b : Nat) (T : TypeId) (hb : w.heap.size = b) (cs : Array Value) (hcs : cs.toList = ints (List.replicate n 0)) (hn : n ≤ 1000) :
    Calls Try.prog 34 #[.slice (some ⟨b, 0, none⟩) n n] (w.alloc (.cells cs T)) fun e w' => e = .returned (.bool true) ∧ w.alloc (.cells cs T) = w' := by
  subst hb
  refine goodT_yes n w.heap.size 0 n _ (by omega) (fun i hi => ?_)
  rw [cell_new, ← Array.getElem?_toList, hcs, ints_get _ _ (by simpa using hi), nth_rep _ _ _ hi]

set_option maxRecDepth 100000 in
set_option maxHeartbeats 1000000 in
theorem works_any (w : World) : Calls Try.prog 33 #[] w fun e w' => e = .returned (.bool true) ∧ Below w.heap.size w w' := by
  go_enter Try.func33, Try.ntmps33
  go_wp2_with fail
  have F1 := (Fr.start w).lit p120 #[.int .i64 1, .int .i64 2, .int .i64 0] rfl 3 rfl (by omega) 3
  refine (order120 _ _ _ (F1.get 0 rfl)).mono ?_; rintro e w1 ⟨rfl, hb⟩
  have F2 := F1.below.keep hb
  clear F1 hb
  go_wp2_with fail
  have g : redP (1 * 3 + 1 * 2) (2 * 3) = 5 ∧ redQ (1 * 3 + 1 * 2) (2 * 3) = 6 := by decide
  refine (add_any 1 2 1 3 _ (by unfold Rat1; decide) (by unfold Rat1; decide)).mono ?_; rintro e w2 ⟨X, Y, er, rfl, hl, hb⟩
  obtain ⟨rfl, rfl, rfl⟩ : er = 0 ∧ X = 5 ∧ Y = 6 := by
    rcases hl with ⟨h1, _, _, h2, h3⟩ | ⟨_, _, _, h⟩
    · exact ⟨h1, h2.trans g.1, h3.trans g.2⟩
    · exfalso; apply h; rw [g.1, g.2]; omega
  clear g hl
  have F3 := F2.keep hb
  clear F2 hb
  have F4 := Lib.hid (F3.alloc (.cells #[.int .i64 5, .int .i64 6] 113))
  clear F3
  go_wp2_with fail
  go_ret
  exact ⟨rfl, F4.out.bel⟩
end Go.Proofs.Ytfompfaepabpgaa
