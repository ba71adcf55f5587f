/- The walk of the law EventWhole. -/
import Derived.Test.YtliajiilcicppaaWEvt1
namespace Go.Proofs.Ytliajiilcicppaa
open Go.RowKit

theorem red_one {W : Int} (h : 0 < W) : RedIs W W 1 1 := redIs_of h (by omega) (by decide) (by unfold Eqv; omega)

set_option maxRecDepth 100000 in
set_option maxHeartbeats 8000000 in
theorem eventWhole_any (l : List Int) (n : Nat) (a : Option Addr) (ca : Nat) (s t : Nat) (w : World) (h : Sa w a (ints l)) (hn : l.length = n) (hs : s < 65536) (ht : t < 65536) :
    Calls Try.prog 8 #[.slice a n ca, .int .u16 s, .int .u16 t] w fun e w' => e = .returned (.bool true) ∧ Below w.heap.size w w' := by
  have HN := Lib.hid hn; have HS := Lib.hid h
  have AND := Lib.hid (u16_and_nat s t hs ht)
  have ANDN := Lib.hid (u16_andNot_nat s t hs ht)
  have H16 := Lib.hid (show ∀ x ∈ [s, t], x < 65536 from fun x hx => by simp at hx; omega)
  clear h
  go_enter Try.func8, Try.ntmps8
  go_wp2_with fail
  refine (events_any _).mono ?_; rintro e w1 ⟨rfl, hb⟩
  have R0 := (Rf.start w).keep hb
  clear hb
  go_wp2_with fail
  refine (ratios_any _).mono ?_; rintro e w1' ⟨rfl, hb⟩
  replace R0 := R0.keep hb
  clear hb
  go_wp2_with fail
  refine (evChance_any l n _ _ s _ (R0.old HS.out) HN.out hs).mono ?_; rintro e w2 ⟨X1, Y1, e1, rfl, p1, hb⟩
  have R1 := (R0.keep hb).push X1 Y1
  clear R0 hb
  rcases p1 with ⟨h1, h2, rfl, rfl⟩ | ⟨c1, rfl, r1⟩
  · have z : (e1 != 0) = true := by rw [bne_iff_ne, h2]; exact h1
    have z' : (e1 == 0) = false := by rw [beq_eq_false_iff_ne, h2]; exact h1
    clear h1 h2
    obtain ⟨u0, u1, uz⟩ := R1.get 0 rfl
    go_wp2_with fail
    go_ret
    exact ⟨rfl, R1.bel⟩
  · have HC1 := Lib.hid c1; have HR1 := Lib.hid r1
    clear c1 r1
    go_wp2_with fail
    refine (evChk l [s, t] n 2 _ _ _ _ _ ((R1.old HS.out).alloc _) (by have := hws2 (w2.alloc (.cells #[.int .i64 X1, .int .i64 Y1] 23)) s t 37; simpa using this) HN.out rfl H16.out (by omega)).mono ?_; rintro e w' ⟨rfl, rfl⟩
    have R2 := R1.alloc (.cells #[.int .u16 (s : Int), .int .u16 (t : Int)] 37)
    clear R1
    by_cases hck : chkE l [s, t] = 0
    · rw [hck]
      obtain ⟨k1, k2, k3, k4⟩ := chkE_ok hck
      have ks := k4 s (by simp)
      have kt := k4 t (by simp)
      rw [hn] at k1 k2 ks kt
      obtain ⟨a16, a16'⟩ := all16 n k2
      have A16 := Lib.hid a16
      have ANDA := Lib.hid (u16_andNot_nat (2 ^ n - 1) s a16' hs)
      have one1 : ∀ x, x < 2 ^ n → chkE l [x] = 0 := fun x hx => chkE_yes (by omega) (by omega) k3 (fun y hy => by rw [List.mem_singleton] at hy; rw [hy, hn]; exact hx)
      have st16 : s &&& t < 65536 := Nat.lt_of_le_of_lt Nat.and_le_left hs
      have sl16 : less16 s t < 65536 := Nat.lt_of_le_of_lt Nat.and_le_left hs
      have al16 : less16 (2 ^ n - 1) s < 65536 := Nat.lt_of_le_of_lt Nat.and_le_left a16'
      have C5 := Lib.hid (one1 (s &&& t) (and_lt' n s t ks)); have C6 := Lib.hid (one1 (less16 s t) (less16_lt n s t ks))
      have C7 := Lib.hid (one1 (less16 (2 ^ n - 1) s) (less16_lt n _ s (by have := Nat.two_pow_pos n; omega)))
      obtain ⟨X5, Y5, r5⟩ : ∃ X Y, RedIs (wtL l (s &&& t)) (isum l) X Y := ⟨_, _, rfl, rfl⟩
      obtain ⟨X6, Y6, r6⟩ : ∃ X Y, RedIs (wtL l (less16 s t)) (isum l) X Y := ⟨_, _, rfl, rfl⟩
      obtain ⟨X7, Y7, r7⟩ : ∃ X Y, RedIs (wtL l (less16 (2 ^ n - 1) s)) (isum l) X Y := ⟨_, _, rfl, rfl⟩
      have W0 := isum_bdP l k3 (by omega)
      rw [hn] at W0
      have s1 := wtL_less l s t (by omega) ht
      have s2 := wtL_less l (2 ^ n - 1) s (by omega) hs
      rw [and_all n s ks] at s2
      rw [show wtL l (2 ^ n - 1) = isum l from by rw [← hn]; exact wtL_all l] at s2
      have b5 := wtL_bd l (s &&& t) k3
      have b6 := wtL_bd l (less16 s t) k3
      have b7 := wtL_bd l (less16 (2 ^ n - 1) s) k3
      have b1 := wtL_bd l s k3
      rw [hn] at b1 b5 b6 b7
      have m1 := red_sum W0.1 r5 r6 (X := X1) (Y := Y1) (by rw [show wtL l (s &&& t) + wtL l (less16 s t) = wtL l s from by omega]; exact HR1.out)
      have m2 := red_sum W0.1 HR1.out r7 (X := 1) (Y := 1) (by rw [show wtL l s + wtL l (less16 (2 ^ n - 1) s) = isum l from by omega]; exact red_one W0.1)
      have q1 := redIs_rat HR1.out (by omega) (by omega)
      have q5 := redIs_rat r5 (by omega) (by omega)
      have q6 := redIs_rat r6 (by omega) (by omega)
      have q7 := redIs_rat r7 (by omega) (by omega)
      have q11 : Rat1 1 1 := by unfold Rat1; decide
      have K5 := Lib.hid r5; have K6 := Lib.hid r6; have K7 := Lib.hid r7; have M1 := Lib.hid m1; have M2 := Lib.hid m2; have Q1 := Lib.hid q1; have Q5 := Lib.hid q5; have Q6 := Lib.hid q6; have Q7 := Lib.hid q7; have Q11 := Lib.hid q11
      clear hck k1 k3 k4 ks kt a16 one1 r5 r6 r7 W0 s1 s2 b1 b5 b6 b7 m1 m2 q1 q5 q6 q7 q11 hn
      go_wp2_with fail
      rw [AND.out]
      refine (evChance l n _ _ (s &&& t) _ (R2.old HS.out) HN.out st16 X5 Y5 C5.out K5.out).mono ?_; rintro e w6 ⟨rfl, hb⟩
      have R3 := (R2.keep hb).push X5 Y5
      clear R2 hb
      go_wp2_with fail
      rw [ANDN.out]
      refine (evChance l n _ _ (less16 s t) _ (R3.old HS.out) HN.out sl16 X6 Y6 C6.out K6.out).mono ?_; rintro e w7 ⟨rfl, hb⟩
      have R4 := (R3.keep hb).push X6 Y6
      clear R3 hb
      obtain ⟨u0, u1, uz⟩ := R4.get 0 rfl
      obtain ⟨u2, u3, uz1⟩ := R4.get 1 rfl
      go_wp2_with fail
      refine (add_fits X5 Y5 X6 Y6 X1 Y1 _ Q5.out Q6.out M1.out Q1.out).mono ?_; rintro e w8 ⟨rfl, hb⟩
      clear u0 u1 uz u2 u3 uz1
      have R5 := (R4.keep hb).push X1 Y1
      clear R4 hb
      go_wp2_with fail
      rw [A16.out, ANDA.out]
      refine (evChance l n _ _ (less16 (2 ^ n - 1) s) _ (R5.old HS.out) HN.out al16 X7 Y7 C7.out K7.out).mono ?_; rintro e w9 ⟨rfl, hb⟩
      have R6 := (R5.keep hb).push X7 Y7
      clear R5 hb
      obtain ⟨u0, u1, uz⟩ := R6.get 0 rfl
      obtain ⟨u2, u3, uz1⟩ := R6.get 4 rfl
      go_wp2_with fail
      refine (add_fits X1 Y1 X7 Y7 1 1 _ Q1.out Q7.out M2.out Q11.out).mono ?_; rintro e w10 ⟨rfl, hb⟩
      clear u0 u1 uz u2 u3 uz1
      have R7 := (R6.keep hb).push 1 1
      clear R6 hb
      go_wp2_with fail
      refine (good5b _ (w10.heap.size + 1) _ (by simp)).mono ?_; rintro e w' ⟨rfl, rfl⟩
      have R8 := R7.alloc (.cells #[.int .i64 0, .int .i64 0, .int .i64 0, .int .i64 0, .int .i64 0] 24)
      clear R7
      obtain ⟨u0, u1, uz⟩ := R8.get 0 rfl
      obtain ⟨u2, u3, uz1⟩ := R8.get 2 rfl
      obtain ⟨u4, u5, uz2⟩ := R8.get 5 rfl
      go_wp2_with fail
      go_ret
      exact ⟨by simp, R8.bel⟩
    · have z : (chkE l [s, t] != 0) = true := by rw [bne_iff_ne]; exact hck
      generalize chkE l [s, t] = er at *
      go_wp2_with fail
      go_ret
      exact ⟨rfl, R2.bel⟩
theorem eventWhole_int (l : List Int) (n : Nat) (a : Option Addr) (ca : Nat) (s t : Int) (w : World) (h : Sa w a (ints l)) (hn : l.length = n) (hs : (Lit.int .u16 s).wf = true) (ht : (Lit.int .u16 t).wf = true) :
    Calls Try.prog 8 #[.slice a n ca, .int .u16 s, .int .u16 t] w fun e w' => e = .returned (.bool true) ∧ Below w.heap.size w w' := by
  obtain ⟨s', rfl, hs'⟩ := u16_nat hs
  obtain ⟨t', rfl, ht'⟩ := u16_nat ht
  exact eventWhole_any l n a ca s' t' w h hn hs' ht'
end Go.Proofs.Ytliajiilcicppaa
