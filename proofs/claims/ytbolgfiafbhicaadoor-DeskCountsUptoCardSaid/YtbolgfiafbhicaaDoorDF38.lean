/- Several of my texts in one: Rat. -/
import Derived.Test.YtbolgfiafbhicaaDoorDF01
import Derived.RegionTactic
/- Contracts of package ratio: gcd, low, Make, Check, both. -/
namespace Go.Proofs.YtbolgfiafbhicaaDoor
open Go.RowKit

set_option maxHeartbeats 400000 in
theorem gcd_any (a b : Int) (w : World) (ha : -4000000000000000000 ≤ a ∧ a ≤ 4000000000000000000) (hb : 0 ≤ b ∧ b ≤ 4000000000000000000) :
    Calls Tryd.prog 90 #[.int .i64 a, .int .i64 b] w fun e w' => e = .returned (.int .i64 ((Int.gcd a b : Nat) : Int)) ∧ Below w.heap.size w w' := by
  obtain ⟨ha1, ha2⟩ := ha
  obtain ⟨hb1, hb2⟩ := hb
  have hg : Int.gcd a b = Nat.gcd a.natAbs b.toNat := by
    rw [show b.toNat = b.natAbs from by omega]; rfl
  have HG := Lib.hid hg; clear hg
  obtain ⟨c, rfl⟩ : ∃ c : Nat, b = c := ⟨b.toNat, by omega⟩
  by_cases h0 : a < 0
  all_goals
    go_enter Tryd.func90, Tryd.ntmps90
    go_wp2_with fail
    go_loopw [0, 1] (fun x y wr => ∃ s t : Nat, s ≤ 4000000000000000000 ∧ t ≤ 4000000000000000000 ∧ Hid (Nat.gcd s t = Int.gcd a c) ∧ x = .int .i64 s ∧ y = .int .i64 t ∧ Below w.heap.size w wr) (fun _ y _ => (intOf y).toNat)
    case atStart => exact ⟨a.natAbs, c, by omega, by omega, Lib.hid HG.out.symm, val_int (by omega), rfl, Below.refl _ _⟩
    case round =>
      obtain ⟨s, t, hs, ht, hgc, rfl, rfl, hbel⟩ := hrel
      have HB := Lib.hid hbel; clear hbel
      by_cases ht0 : 0 < t
      · have hne : ((t : Int) == 0) = false := by simp; omega
        have hlt := Nat.mod_lt s ht0
        go_wp2_with fail
        go_region
        go_wp2_with fail
        go_roundw
        case rel =>
          refine ⟨t, s % t, ht, by omega, Lib.hid ?_, rfl, val_int (by simp), HB.out.drew⟩
          rw [← hgc.out, Nat.gcd_comm s t, Nat.gcd_rec t s, Nat.gcd_comm]
        case measure => simp [intOf]; omega
      · obtain rfl : t = 0 := by omega
        go_wp2_with fail
        go_ret
        exact ⟨ret_int (by rw [← hgc.out, Nat.gcd_zero_right]), HB.out⟩

def redG (p q : Int) : Int := ((Int.gcd p q : Nat) : Int)
theorem redG_pos (p q : Int) (h : 0 < q) : 0 < redG p q := by
  unfold redG
  have : 0 < Int.gcd p q := Int.gcd_pos_of_ne_zero_right _ (by omega)
  omega
theorem redG_le (p q : Int) (h : 0 < q) : redG p q ≤ q := by
  unfold redG
  have := Int.gcd_dvd_right p q
  exact Int.le_of_dvd h this
def redP (p q : Int) : Int := p / redG p q
def redQ (p q : Int) : Int := q / redG p q
theorem redP_mul (p q : Int) : redP p q * redG p q = p := by
  unfold redP redG
  exact Int.ediv_mul_cancel (Int.gcd_dvd_left p q)
theorem redQ_mul (p q : Int) : redQ p q * redG p q = q := by
  unfold redQ redG
  exact Int.ediv_mul_cancel (Int.gcd_dvd_right p q)
theorem redP_tdiv (p q : Int) : p.tdiv (redG p q) = redP p q := by
  unfold redP redG
  exact Int.tdiv_eq_ediv_of_dvd (Int.gcd_dvd_left p q)
theorem redP_bdB (B p q : Int) (hB : 0 ≤ B) (h : 0 < q) (hp : -B ≤ p ∧ p ≤ B) : -B ≤ redP p q ∧ redP p q ≤ B := by
  have h1 := redP_mul p q
  have h2 := redG_pos p q h
  obtain ⟨g, hg⟩ : ∃ g, g = redG p q := ⟨_, rfl⟩
  obtain ⟨x, hx⟩ : ∃ x, x = redP p q := ⟨_, rfl⟩
  rw [← hg, ← hx] at h1
  rw [← hg] at h2
  rw [← hx]
  clear hg hx
  constructor
  · rcases Int.le_total 0 x with h3 | h3
    · omega
    · have := Int.mul_le_mul_of_nonneg_left (c := -x) (show (1 : Int) ≤ g by omega) (by omega); rw [Int.neg_mul, Int.neg_mul] at this; omega
  · rcases Int.le_total 0 x with h3 | h3
    · have := Int.mul_le_mul_of_nonneg_left (c := x) (show (1 : Int) ≤ g by omega) h3; omega
    · omega
theorem redP_bd (p q : Int) (h : 0 < q) (hp : -4000000000000000000 ≤ p ∧ p ≤ 4000000000000000000) : -4000000000000000000 ≤ redP p q ∧ redP p q ≤ 4000000000000000000 :=
  redP_bdB 4000000000000000000 p q (by omega) h hp
theorem redQ_pos (p q : Int) (h : 0 < q) : 0 < redQ p q := by
  have h1 := redQ_mul p q
  have h2 := redG_pos p q h
  rcases Int.lt_trichotomy 0 (redQ p q) with h3 | h3 | h3
  · exact h3
  · rw [← h3] at h1; omega
  · have := Int.mul_neg_of_neg_of_pos h3 h2; omega

/-- a struct of two ints in a new block, behind a callee that leaves it alone -/
theorem res2 {w w1 : World} {a b : Value} {T : TypeId} (hb : Below (w.alloc (.cells #[a, b] T)).heap.size (w.alloc (.cells #[a, b] T)) w1) :
    w1.cell? ⟨w.heap.size, 0, none⟩ = some a ∧ w1.cell? ⟨w.heap.size, 1, none⟩ = some b ∧ w1.frozen? ⟨w.heap.size, 0, none⟩ = false ∧ w1.frozen? ⟨w.heap.size, 1, none⟩ = false ∧ w.heap.size < w1.heap.size ∧ Below w.heap.size w w1 := by
  obtain ⟨hc, hf⟩ := bcell hb
  refine ⟨by rw [hc _ _ (by simp)]; go_simp, by rw [hc _ _ (by simp)]; go_simp, by rw [hf _ _ (by simp)]; go_simp, by rw [hf _ _ (by simp)]; go_simp, ?_, kin_trans (kin_alloc (Below.refl _ _) _) hb⟩
  have := hb.size; simp at this; omega

theorem redQ_le (p q : Int) (h : 0 < q) : redQ p q ≤ q := by
  have h1 := redQ_mul p q
  have h2 := redG_pos p q h
  have h3 := redQ_pos p q h
  have := Int.mul_le_mul_of_nonneg_left (c := redQ p q) (show (1 : Int) ≤ redG p q by omega) (by omega)
  rw [h1] at this; omega
theorem red_gcd (p q : Int) (h : 0 < q) : Int.gcd (redP p q) (redQ p q) = 1 := by
  have hne : 0 < Int.gcd p q := Int.gcd_pos_of_ne_zero_right _ (by omega)
  exact Int.gcd_ediv_gcd_ediv_gcd hne
set_option maxHeartbeats 400000 in
theorem low_ok (p q : Int) (w : World) (hp : -4000000000000000000 ≤ p ∧ p ≤ 4000000000000000000) (hq : 0 < q ∧ q ≤ 4000000000000000000)
    (h1 : redQ p q ≤ 1000000000) (h2 : -1000000000 ≤ redP p q) (h3 : redP p q ≤ 1000000000) :
    Calls Tryd.prog 68 #[.int .i64 p, .int .i64 q] w fun e w' => e = .returned (.tuple #[.agg #[.int .i64 (redP p q), .int .i64 (redQ p q)], .int .i64 0]) ∧ Below w.heap.size w w' := by
  have gp := redG_pos p q hq.1
  have gl := redG_le p q hq.1
  have qp := redQ_pos p q hq.1
  obtain ⟨hp1, hp2⟩ := hp
  obtain ⟨hq1, hq2⟩ := hq
  have e1 := redP_tdiv p q
  have e2 : q / redG p q = redQ p q := rfl
  have gz : (redG p q == 0) = false := by simp; omega
  go_enter Tryd.func68, Tryd.ntmps68
  go_wp2_with fail
  refine (gcd_any _ _ _ ⟨hp1, hp2⟩ ⟨by omega, hq2⟩).mono ?_; rintro e w1 ⟨rfl, hb⟩
  rw [show ((Int.gcd p q : Nat) : Int) = redG p q from rfl]
  obtain ⟨c0, c1, f0, f1, hz, hk⟩ := res2 hb
  have HB := Lib.hid hk
  clear hb hk
  go_wp2_with fail
  go_region
  go_wp2_with fail
  exact bodyPost_ret (v := .tuple #[.agg #[.int .i64 (redP p q), .int .i64 (redQ p q)], .int .i64 0]) (by simp [results, Tryd.results68, go_sem, c0, c1, hz]) rfl
    ⟨rfl, (((HB.out.setCell (Nat.le_refl _) _).setCell (Nat.le_refl _) _).alloc (by simp; omega) _).drew⟩

set_option maxHeartbeats 400000 in
theorem low_big (p q : Int) (w : World) (hp : -4000000000000000000 ≤ p ∧ p ≤ 4000000000000000000) (hq : 0 < q ∧ q ≤ 4000000000000000000)
    (h : ¬ (redQ p q ≤ 1000000000 ∧ -1000000000 ≤ redP p q ∧ redP p q ≤ 1000000000)) :
    Calls Tryd.prog 68 #[.int .i64 p, .int .i64 q] w fun e w' => e = .returned (.tuple #[.agg #[.int .i64 0, .int .i64 0], .int .i64 2]) ∧ Below w.heap.size w w' := by
  have gp := redG_pos p q hq.1
  have gl := redG_le p q hq.1
  have qp := redQ_pos p q hq.1
  obtain ⟨pb1, pb2⟩ := redP_bd p q hq.1 hp
  obtain ⟨hp1, hp2⟩ := hp
  obtain ⟨hq1, hq2⟩ := hq
  have e1 := redP_tdiv p q
  have e2 : q / redG p q = redQ p q := rfl
  have gz : (redG p q == 0) = false := by simp; omega
  have HH := Lib.hid h; clear h
  go_enter Tryd.func68, Tryd.ntmps68
  go_wp2_with fail
  refine (gcd_any _ _ _ ⟨hp1, hp2⟩ ⟨by omega, hq2⟩).mono ?_; rintro e w1 ⟨rfl, hb⟩
  rw [show ((Int.gcd p q : Nat) : Int) = redG p q from rfl]
  obtain ⟨c0, c1, f0, f1, hz, hk⟩ := res2 hb
  have HB := Lib.hid hk
  clear hb hk
  go_wp2_with fail
  go_region
  go_wp2_with fail
  all_goals first
    | (exfalso; have := HH.out; omega)
    | (exact bodyPost_ret (v := .tuple #[.agg #[.int .i64 0, .int .i64 0], .int .i64 2]) (by simp [results, Tryd.results68, go_sem, c0, c1, hz]) rfl
        ⟨rfl, (((HB.out.setCell (Nat.le_refl _) _).setCell (Nat.le_refl _) _).alloc (by simp; omega) _).drew⟩)

/-! Check -/
/-- a ratio in lowest terms that fits -/
def Rat1 (P Q : Int) : Prop := 1 ≤ Q ∧ Q ≤ 1000000000 ∧ -1000000000 ≤ P ∧ P ≤ 1000000000 ∧ Int.gcd P Q = 1

theorem check_ok (P Q : Int) (w : World) (h : Rat1 P Q) :
    Calls Tryd.prog 91 #[.agg #[.int .i64 P, .int .i64 Q]] w fun e w' => e = .returned (.int .i64 0) ∧ Below w.heap.size w w' := by
  obtain ⟨h1, h2, h3, h4, h5⟩ := h
  have H5 := Lib.hid h5; clear h5
  go_enter Tryd.func91, Tryd.ntmps91
  go_wp2_with fail
  refine (gcd_any _ _ _ ⟨by omega, by omega⟩ ⟨by omega, by omega⟩).mono ?_; rintro e w1 ⟨rfl, hb⟩
  rw [H5.out]
  have HB := Lib.hid (res2 hb).2.2.2.2.2
  clear hb
  go_wp2_with fail
  go_ret
  exact ⟨rfl, HB.out⟩

theorem keep_cell {W w1 : World} {a : Addr} {v : Value} (hb : Below W.heap.size W w1) (hc : W.cell? a = some v) (ha : a.block < W.heap.size) : w1.cell? a = some v := by
  rw [hb.cell ha, hc]
theorem keep_thaw {W w1 : World} {a : Addr} (hb : Below W.heap.size W w1) (hc : W.frozen? a = false) (ha : a.block < W.heap.size) : w1.frozen? a = false := by
  rw [hb.frozen ha, hc]

/-- two structs of two ints in new blocks, behind a callee that leaves them alone -/
theorem res22 {w w1 : World} {a b c d : Value} {T U : TypeId} (hb : Below ((w.alloc (.cells #[a, b] T)).alloc (.cells #[c, d] U)).heap.size ((w.alloc (.cells #[a, b] T)).alloc (.cells #[c, d] U)) w1) :
    w1.cell? ⟨w.heap.size, 0, none⟩ = some a ∧ w1.cell? ⟨w.heap.size, 1, none⟩ = some b ∧ w1.cell? ⟨w.heap.size + 1, 0, none⟩ = some c ∧ w1.cell? ⟨w.heap.size + 1, 1, none⟩ = some d ∧ w.heap.size + 1 < w1.heap.size ∧ Below w.heap.size w w1 := by
  refine ⟨keep_cell hb (by go_simp) (by simp; omega), keep_cell hb (by go_simp) (by simp; omega), keep_cell hb (by go_simp) (by simp), keep_cell hb (by go_simp) (by simp), ?_, kin_trans (kin_alloc (kin_alloc (Below.refl _ _) _) _) hb⟩
  have := hb.size; simp at this; omega

theorem both_ok (P Q R S : Int) (w : World) (h : Rat1 P Q) (h2 : Rat1 R S) :
    Calls Tryd.prog 69 #[.agg #[.int .i64 P, .int .i64 Q], .agg #[.int .i64 R, .int .i64 S]] w fun e w' => e = .returned (.int .i64 0) ∧ Below w.heap.size w w' := by
  have H1 := Lib.hid h; have H2 := Lib.hid h2; clear h h2
  go_enter Tryd.func69, Tryd.ntmps69
  go_wp2_with fail
  refine (check_ok _ _ _ H1.out).mono ?_; rintro e w1 ⟨rfl, hb⟩
  obtain ⟨c0, c1, c2, c3, hz, hk⟩ := res22 hb
  have HK := Lib.hid hk; clear hb hk
  go_wp2_with fail
  refine (check_ok _ _ _ H2.out).mono ?_; rintro e w2 ⟨rfl, hb⟩
  have HB := Lib.hid (kin_trans HK.out hb); clear hb
  go_wp2_with fail
  go_ret
  exact ⟨rfl, HB.out⟩

/-- what low answers for p by q -/
def LowSaid (p q : Int) (w : World) (e : Ending) (w' : World) : Prop :=
  ∃ P Q er : Int, e = .returned (.tuple #[.agg #[.int .i64 P, .int .i64 Q], .int .i64 er]) ∧
    ((er = 0 ∧ Rat1 P Q ∧ P * q = p * Q ∧ P = redP p q ∧ Q = redQ p q) ∨ (er = 2 ∧ P = 0 ∧ Q = 0 ∧ ¬ (redQ p q ≤ 1000000000 ∧ -1000000000 ≤ redP p q ∧ redP p q ≤ 1000000000))) ∧ Below w.heap.size w w'
theorem red_cross (p q : Int) : redP p q * q = p * redQ p q := by
  have h1 := redP_mul p q
  have h2 := redQ_mul p q
  generalize redG p q = g at *
  generalize redP p q = x at *
  generalize redQ p q = y at *
  rw [← h1, ← h2]; grind
theorem low_any (p q : Int) (w : World) (hp : -4000000000000000000 ≤ p ∧ p ≤ 4000000000000000000) (hq : 0 < q ∧ q ≤ 4000000000000000000) :
    Calls Tryd.prog 68 #[.int .i64 p, .int .i64 q] w (LowSaid p q w) := by
  by_cases h : redQ p q ≤ 1000000000 ∧ -1000000000 ≤ redP p q ∧ redP p q ≤ 1000000000
  · refine (low_ok p q w hp hq h.1 h.2.1 h.2.2).mono fun e w' ⟨he, hb⟩ => ⟨_, _, _, he, .inl ⟨rfl, ⟨?_, h.1, h.2.1, h.2.2, red_gcd p q hq.1⟩, red_cross p q, rfl, rfl⟩, hb⟩
    have := redQ_pos p q hq.1; omega
  · exact (low_big p q w hp hq h).mono fun e w' ⟨he, hb⟩ => ⟨_, _, _, he, .inr ⟨rfl, rfl, rfl, h⟩, hb⟩

theorem mul_bd (a b : Int) (A B : Nat) (ha : -(A : Int) ≤ a ∧ a ≤ A) (hb : -(B : Int) ≤ b ∧ b ≤ B) : -((A * B : Nat) : Int) ≤ a * b ∧ a * b ≤ ((A * B : Nat) : Int) := by
  have h1 : (a * b).natAbs ≤ A * B := by
    rw [Int.natAbs_mul]; exact Nat.mul_le_mul (by omega) (by omega)
  omega
theorem rat_mul_bd {P Q R S : Int} (h : Rat1 P Q) (h2 : Rat1 R S) :
    (-1000000000000000000 ≤ P * S ∧ P * S ≤ 1000000000000000000) ∧ (-1000000000000000000 ≤ R * Q ∧ R * Q ≤ 1000000000000000000) ∧ (0 < Q * S ∧ Q * S ≤ 1000000000000000000) ∧ (-1000000000000000000 ≤ P * R ∧ P * R ≤ 1000000000000000000) ∧ (-1000000000000000000 ≤ Q * R ∧ Q * R ≤ 1000000000000000000) := by
  obtain ⟨a1, a2, a3, a4, _⟩ := h
  obtain ⟨b1, b2, b3, b4, _⟩ := h2
  have e : (1000000000 * 1000000000 : Nat) = 1000000000000000000 := rfl
  refine ⟨?_, ?_, ⟨Int.mul_pos (by omega) (by omega), ?_⟩, ?_, ?_⟩
  · have := mul_bd P S 1000000000 1000000000 (by omega) (by omega); rw [e] at this; omega
  · have := mul_bd R Q 1000000000 1000000000 (by omega) (by omega); rw [e] at this; omega
  · have := mul_bd Q S 1000000000 1000000000 (by omega) (by omega); rw [e] at this; omega
  · have := mul_bd P R 1000000000 1000000000 (by omega) (by omega); rw [e] at this; omega
  · have := mul_bd Q R 1000000000 1000000000 (by omega) (by omega); rw [e] at this; omega
/-- three structs of two ints in new blocks, behind a callee that leaves them alone -/
theorem res222 {w w1 : World} {a b c d f g : Value} {T U V : TypeId} (hb : Below (((w.alloc (.cells #[a, b] T)).alloc (.cells #[c, d] U)).alloc (.cells #[f, g] V)).heap.size (((w.alloc (.cells #[a, b] T)).alloc (.cells #[c, d] U)).alloc (.cells #[f, g] V)) w1) :
    w1.cell? ⟨w.heap.size, 0, none⟩ = some a ∧ w1.cell? ⟨w.heap.size, 1, none⟩ = some b ∧ w1.cell? ⟨w.heap.size + 1, 0, none⟩ = some c ∧ w1.cell? ⟨w.heap.size + 1, 1, none⟩ = some d ∧
    w1.cell? ⟨w.heap.size + 1 + 1, 0, none⟩ = some f ∧ w1.cell? ⟨w.heap.size + 1 + 1, 1, none⟩ = some g ∧ w1.frozen? ⟨w.heap.size + 1 + 1, 0, none⟩ = false ∧ w1.frozen? ⟨w.heap.size + 1 + 1, 1, none⟩ = false ∧ w.heap.size + 1 + 1 < w1.heap.size ∧ Below w.heap.size w w1 := by
  refine ⟨keep_cell hb (by go_simp) (by simp; omega), keep_cell hb (by go_simp) (by simp; omega), keep_cell hb (by go_simp) (by simp), keep_cell hb (by go_simp) (by simp), keep_cell hb (by go_simp) (by simp), keep_cell hb (by go_simp) (by simp),
    keep_thaw hb (by go_simp) (by simp), keep_thaw hb (by go_simp) (by simp), ?_, kin_trans (kin_alloc (kin_alloc (kin_alloc (Below.refl _ _) _) _) _) hb⟩
  have := hb.size; simp at this; omega

end Go.Proofs.YtbolgfiafbhicaaDoor
