/- The walks of the laws EventBayes and EventWhole. -/
import Derived.Test.YtliajiilcicppaaEvt4
namespace Go.Proofs.Ytliajiilcicppaa
open Go.RowKit

theorem redIs_eqv {p q X Y : Int} (h : RedIs p q X Y) (hq : 0 < q) : Eqv X Y p q ∧ 0 < Y ∧ Int.gcd X Y = 1 := by
  obtain ⟨rfl, rfl⟩ := h
  exact ⟨eqv_red p q, redQ_pos p q hq, red_gcd p q hq⟩
theorem redIs_rat {p q X Y : Int} (h : RedIs p q X Y) (hp : 0 ≤ p ∧ p ≤ 1200) (hq : 0 < q ∧ q ≤ 1200) : Rat1 X Y := by
  obtain ⟨rfl, rfl⟩ := h
  exact red_rat p q (by omega) (by omega)
theorem red_chain {p q r A B C D X Y : Int} (hq : 0 < q) (hr : 0 < r) (h1 : RedIs p q A B) (h2 : RedIs q r C D) (h3 : RedIs p r X Y) : RedIs (A * C) (B * D) X Y := by
  obtain ⟨e1, b1, _⟩ := redIs_eqv h1 hq
  obtain ⟨e2, b2, _⟩ := redIs_eqv h2 hr
  obtain ⟨e3, b3, g3⟩ := redIs_eqv h3 hr
  refine redIs_of (Int.mul_pos b1 b2) b3 g3 ?_
  refine eqv_trans (Int.mul_pos hq hr) (eqv_mul e1 e2) ?_
  refine eqv_trans hr (?_ : Eqv (p * q) (q * r) p r) (eqv_symm e3)
  unfold Eqv; grind
theorem red_sum {p q r A B C D X Y : Int} (hr : 0 < r) (h1 : RedIs p r A B) (h2 : RedIs q r C D) (h3 : RedIs (p + q) r X Y) : RedIs (A * D + C * B) (B * D) X Y := by
  obtain ⟨e1, b1, _⟩ := redIs_eqv h1 hr
  obtain ⟨e2, b2, _⟩ := redIs_eqv h2 hr
  obtain ⟨e3, b3, g3⟩ := redIs_eqv h3 hr
  refine redIs_of (Int.mul_pos b1 b2) b3 g3 ?_
  refine eqv_trans (Int.mul_pos hr hr) (eqv_add e1 e2) ?_
  refine eqv_trans hr (?_ : Eqv (p * r + q * r) (r * r) (p + q) r) (eqv_symm e3)
  unfold Eqv; grind
theorem chk_parts {l : List Int} {s t : Nat} (h : chkE l [s, t] ≠ 0) : chkE l [s] ≠ 0 ∨ chkE l [t] ≠ 0 := by
  by_cases h1 : chkE l [s] = 0
  · by_cases h2 : chkE l [t] = 0
    · obtain ⟨a1, a2, a3, a4⟩ := chkE_ok h1
      obtain ⟨_, _, _, b4⟩ := chkE_ok h2
      exact absurd (chkE_yes a1 a2 a3 (fun x hx => by
        rcases List.mem_cons.1 hx with rfl | hx
        · exact a4 x (by simp)
        · exact b4 x hx)) h
    · exact .inr h2
  · exact .inl h1

set_option maxRecDepth 100000 in
set_option maxHeartbeats 8000000 in
theorem eventBayes_any (l : List Int) (n : Nat) (a : Option Addr) (ca : Nat) (s t : Nat) (w : World) (h : Sa w a (ints l)) (hn : l.length = n) (hs : s < 65536) (ht : t < 65536) :
    Calls Try.prog 9 #[.slice a n ca, .int .u16 s, .int .u16 t] w fun e w' => e = .returned (.bool true) ∧ Below w.heap.size w w' := by
  have HN := Lib.hid hn; have HS := Lib.hid h
  have AND := Lib.hid (u16_and_nat s t hs ht)
  clear hn h
  go_enter Try.func9, Try.ntmps9
  go_wp2_with fail
  refine (events_any _).mono ?_; rintro e w1 ⟨rfl, hb⟩
  have R0 := (Rf.start w).keep hb
  clear hb
  go_wp2_with fail
  refine (ratios_any _).mono ?_; rintro e w1' ⟨rfl, hb⟩
  replace R0 := R0.keep hb
  clear hb
  go_wp2_with fail
  refine (evChance_any l n _ _ s _ (R0.old HS.out) HN.out hs).mono ?_; rintro e w2 ⟨X1, Y1, e1, rfl, p1, hb⟩
  have R1 := (R0.keep hb).push X1 Y1
  clear R0 hb
  go_wp2_with fail
  refine (evChance_any l n _ _ t _ (R1.old HS.out) HN.out ht).mono ?_; rintro e w3 ⟨X2, Y2, e2, rfl, p2, hb⟩
  have R2 := (R1.keep hb).push X2 Y2
  clear R1 hb
  go_wp2_with fail
  refine (evGiven_any l n _ _ s t _ (R2.old HS.out) HN.out hs ht).mono ?_; rintro e w4 ⟨X3, Y3, e3, rfl, p3, hb⟩
  have R3 := (R2.keep hb).push X3 Y3
  clear R2 hb
  go_wp2_with fail
  refine (evGiven_any l n _ _ t s _ (R3.old HS.out) HN.out ht hs).mono ?_; rintro e w5 ⟨X4, Y4, e4, rfl, p4, hb⟩
  have R4 := (R3.keep hb).push X4 Y4
  clear R3 hb
  go_wp2_with fail
  refine (good_list [e1, e2, e3, e4] _ (w5.heap.size + 1) _ (by simp) _ rfl 4 rfl (by omega)).mono ?_; rintro e w' ⟨rfl, rfl⟩
  have R5 := R4.alloc (.cells #[.int .i64 e1, .int .i64 e2, .int .i64 e3, .int .i64 e4] 24)
  clear R4
  have HR5 := Lib.hid R5
  clear R5
  by_cases hall : e1 = 0 ∧ e2 = 0 ∧ e3 = 0 ∧ e4 = 0
  · obtain ⟨rfl, rfl, rfl, rfl⟩ := hall
    rw [show ([0, 0, 0, 0] : List Int).all (· == 0) = true from by decide]
    rcases p1 with ⟨h1, h2, _⟩ | ⟨c1, _, r1⟩
    · exact absurd h2.symm h1
    rcases p2 with ⟨h1, h2, _⟩ | ⟨c2, _, r2⟩
    · exact absurd h2.symm h1
    rcases p3 with ⟨_, h2⟩ | ⟨_, _, h2⟩ | ⟨c3, t0, _, r3⟩
    · exact absurd rfl h2
    · exact absurd rfl h2
    rcases p4 with ⟨_, h2⟩ | ⟨_, _, h2⟩ | ⟨c4, s0, _, r4⟩
    · exact absurd rfl h2
    · exact absurd rfl h2
    obtain ⟨k1, k2, k3, k4⟩ := chkE_ok c3
    have ks := k4 s (by simp)
    have kt := k4 t (by simp)
    have c5 : chkE l [s &&& t] = 0 := chkE_yes k1 k2 k3 (fun x hx => by rw [List.mem_singleton] at hx; rw [hx]; exact and_lt' _ _ _ ks)
    obtain ⟨X5, Y5, r5⟩ : ∃ X Y, RedIs (wtL l (s &&& t)) (isum l) X Y := ⟨_, _, rfl, rfl⟩
    have W0 := isum_bdP l k3 (by omega)
    have Wt := wtL_pos l t k3 t0 kt
    have Ws := wtL_pos l s k3 s0 ks
    have bt := wtL_bd l t k3
    have bs := wtL_bd l s k3
    have bst := wtL_bd l (s &&& t) k3
    rw [wtL_comm l t s] at r4
    have m1 := red_chain Wt W0.1 r3 r2 r5
    have m2 := red_chain Ws W0.1 r4 r1 r5
    have q5 := redIs_rat r5 (by omega) (by omega)
    have q1 := redIs_rat r1 (by omega) (by omega)
    have q2 := redIs_rat r2 (by omega) (by omega)
    have q3 := redIs_rat r3 (by omega) (by omega)
    have q4 := redIs_rat r4 (by omega) (by omega)
    have st16 : s &&& t < 65536 := Nat.lt_of_le_of_lt Nat.and_le_left hs
    have C5 := Lib.hid c5; have K5 := Lib.hid r5; have M1 := Lib.hid m1; have M2 := Lib.hid m2; have Q1 := Lib.hid q1; have Q2 := Lib.hid q2; have Q3 := Lib.hid q3; have Q4 := Lib.hid q4; have Q5 := Lib.hid q5
    clear c1 c2 c3 c4 c5 r1 r2 r3 r4 r5 m1 m2 q1 q2 q3 q4 q5 W0 Wt Ws bt bs bst k1 k2 k3 k4 ks kt
    go_wp2_with fail
    rw [AND.out]
    refine (evChance l n _ _ (s &&& t) _ (HR5.out.old HS.out) HN.out st16 X5 Y5 C5.out K5.out).mono ?_; rintro e w6 ⟨rfl, hb⟩
    have R6 := (HR5.out.keep hb).push X5 Y5
    clear HR5 hb
    obtain ⟨u0, u1, uz⟩ := R6.get 1 rfl
    obtain ⟨u2, u3, uz1⟩ := R6.get 2 rfl
    obtain ⟨u4, u5, uz2⟩ := R6.get 3 rfl
    obtain ⟨u6, u7, uz3⟩ := R6.get 4 rfl
    go_wp2_with fail
    refine (mul_fits X3 Y3 X2 Y2 X5 Y5 _ Q3.out Q2.out M1.out Q5.out).mono ?_; rintro e w7 ⟨rfl, hb⟩
    clear u0 u1 uz u2 u3 uz1 u4 u5 uz2 u6 u7 uz3
    have R7 := (R6.keep hb).push X5 Y5
    clear R6 hb
    obtain ⟨u2, u3, uz1⟩ := R7.get 2 rfl
    obtain ⟨u6, u7, uz3⟩ := R7.get 5 rfl
    go_wp2_with fail
    refine (mul_fits X4 Y4 X1 Y1 X5 Y5 _ Q4.out Q1.out M2.out Q5.out).mono ?_; rintro e w8 ⟨rfl, hb⟩
    clear u2 u3 uz1 u6 u7 uz3
    have R8 := (R7.keep hb).push X5 Y5
    clear R7 hb
    go_wp2_with fail
    refine (good3b _ (w8.heap.size + 1) _ (by simp)).mono ?_; rintro e w' ⟨rfl, rfl⟩
    have R9 := R8.alloc (.cells #[.int .i64 0, .int .i64 0, .int .i64 0] 24)
    clear R8
    obtain ⟨u0, u1, uz⟩ := R9.get 0 rfl
    obtain ⟨u2, u3, uz1⟩ := R9.get 1 rfl
    obtain ⟨u4, u5, uz2⟩ := R9.get 2 rfl
    go_wp2_with fail
    go_ret
    exact ⟨by simp, R9.bel⟩
  · have hf : ([e1, e2, e3, e4] : List Int).all (· == 0) = false := by
      rw [← Bool.not_eq_true]
      intro h; apply hall
      simp at h; omega
    rw [hf]
    have hor : e1 ≠ 0 ∨ e2 ≠ 0 ∨ s = 0 ∨ t = 0 := by
      rcases p1 with ⟨h1, h2, _⟩ | ⟨c1, z1, r1⟩
      · exact .inl (by rw [h2]; exact h1)
      rcases p2 with ⟨h1, h2, _⟩ | ⟨c2, z2, r2⟩
      · exact .inr (.inl (by rw [h2]; exact h1))
      rcases p3 with ⟨h1, h2⟩ | ⟨_, h1, h2⟩ | ⟨c3, t0, z3, r3⟩
      · exfalso; rcases chk_parts h1 with h | h
        · exact h c1
        · exact h c2
      · exact .inr (.inr (.inr h1))
      rcases p4 with ⟨h1, h2⟩ | ⟨_, h1, h2⟩ | ⟨c4, s0, z4, r4⟩
      · exfalso; rcases chk_parts h1 with h | h
        · exact h c2
        · exact h c1
      · exact .inr (.inr (.inl h1))
      exact absurd ⟨z1, z2, z3, z4⟩ hall
    clear p1 p2 p3 p4 hall hf
    by_cases z1 : e1 = 0
    · subst z1
      by_cases z2 : e2 = 0
      · subst z2
        by_cases z3 : s = 0
        · subst z3
          go_wp2_with fail
          go_ret
          exact ⟨rfl, HR5.out.bel⟩
        · obtain rfl : t = 0 := by omega
          have y3 : ((s : Int) == 0) = false := by rw [beq_eq_false_iff_ne]; omega
          clear hor
          go_wp2_with fail
          go_ret
          exact ⟨rfl, HR5.out.bel⟩
      · have y2 : (e2 != 0) = true := by rw [bne_iff_ne]; exact z2
        clear hor z2
        go_wp2_with fail
        go_ret
        exact ⟨rfl, HR5.out.bel⟩
    · have y1 : (e1 != 0) = true := by rw [bne_iff_ne]; exact z1
      clear hor z1
      go_wp2_with fail
      go_ret
      exact ⟨rfl, HR5.out.bel⟩
theorem u16_nat {x : Int} (h : (Lit.int .u16 x).wf = true) : ∃ s : Nat, x = s ∧ s < 65536 := by
  simp [Lit.wf, go_sem] at h
  have e1 : IntKind.u16.min = 0 := by decide
  have e2 : IntKind.u16.max = 65535 := by decide
  exact ⟨x.toNat, by omega, by omega⟩
theorem eventBayes_int (l : List Int) (n : Nat) (a : Option Addr) (ca : Nat) (s t : Int) (w : World) (h : Sa w a (ints l)) (hn : l.length = n) (hs : (Lit.int .u16 s).wf = true) (ht : (Lit.int .u16 t).wf = true) :
    Calls Try.prog 9 #[.slice a n ca, .int .u16 s, .int .u16 t] w fun e w' => e = .returned (.bool true) ∧ Below w.heap.size w w' := by
  obtain ⟨s', rfl, hs'⟩ := u16_nat hs
  obtain ⟨t', rfl, ht'⟩ := u16_nat ht
  exact eventBayes_any l n a ca s' t' w h hn hs' ht'
end Go.Proofs.Ytliajiilcicppaa
