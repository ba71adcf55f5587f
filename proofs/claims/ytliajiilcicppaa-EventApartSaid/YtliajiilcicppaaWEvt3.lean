/- The walk of the law EventApart. -/
import Derived.Test.YtliajiilcicppaaWEvt2
namespace Go.Proofs.Ytliajiilcicppaa
open Go.RowKit

set_option maxRecDepth 100000 in
set_option maxHeartbeats 1000000 in
theorem evApart_no (l : List Int) (n : Nat) (a : Option Addr) (ca : Nat) (s t : Nat) (w : World) (h : Sa w a (ints l)) (hn : l.length = n) (hs : s < 65536) (ht : t < 65536) (er : Int) (he : chkE l [s, t] = er) (h0 : er ≠ 0) :
    Calls Try.prog 23 #[.slice a n ca, .int .u16 s, .int .u16 t] w fun e w' => e = .returned (.tuple #[.bool false, .int .i64 er]) ∧ Below w.heap.size w w' := by
  have HN := Lib.hid hn; have HS := Lib.hid h; have HE := Lib.hid he
  have H16 := Lib.hid (show ∀ x ∈ [s, t], x < 65536 from fun x hx => by simp at hx; omega)
  have z : (er != 0) = true := by rw [bne_iff_ne]; exact h0
  clear hn h he h0
  go_enter Try.func23, Try.ntmps23
  go_wp2_with fail
  refine (evChk l [s, t] n 2 _ _ _ _ _ (HS.out.alloc _) (hws2 w s t 37) HN.out rfl H16.out (by omega)).mono ?_; rintro e w' ⟨rfl, rfl⟩
  rw [HE.out]
  go_wp2_with fail
  go_ret2
  exact ⟨rfl, kin_alloc (Below.refl _ _) _⟩
theorem red_same {p q r s A B C D : Int} (hq : 0 < q) (hs : 0 < s) (h1 : RedIs p q A B) (h2 : RedIs r s C D) : (A = C ∧ B = D) ↔ p * s = r * q := by
  obtain ⟨e1, b1, g1⟩ := redIs_eqv h1 hq
  obtain ⟨e2, b2, g2⟩ := redIs_eqv h2 hs
  constructor
  · rintro ⟨rfl, rfl⟩
    exact eqv_trans b1 (eqv_symm e1) e2
  · intro h
    exact eqv_uniq b1 b2 g1 g2 (eqv_trans hq e1 (eqv_trans hs (show Eqv p q r s from h) (eqv_symm e2)))
theorem and_less (n s t : Nat) (h : s < 2 ^ n) : s &&& less16 (2 ^ n - 1) t = less16 s t := by
  unfold less16
  rw [← Nat.and_assoc, Nat.and_comm s, and_all n s h]

set_option maxRecDepth 100000 in
set_option maxHeartbeats 8000000 in
theorem eventApart_any (l : List Int) (n : Nat) (a : Option Addr) (ca : Nat) (s t : Nat) (w : World) (h : Sa w a (ints l)) (hn : l.length = n) (hs : s < 65536) (ht : t < 65536) :
    Calls Try.prog 6 #[.slice a n ca, .int .u16 s, .int .u16 t] w fun e w' => e = .returned (.bool true) ∧ Below w.heap.size w w' := by
  have HN := Lib.hid hn; have HS := Lib.hid h
  have e1 : (wtL [1, 1, 1, 1] (3 &&& 5) * isum [1, 1, 1, 1] == wtL [1, 1, 1, 1] 3 * wtL [1, 1, 1, 1] 5) = true := by decide
  have E1 := Lib.hid e1
  clear h e1
  go_enter Try.func6, Try.ntmps6
  go_wp2_with fail
  have F1 := (Fr.start w).lit [1, 1, 1, 1] #[.int .i64 1, .int .i64 1, .int .i64 1, .int .i64 1] rfl 4 rfl (by omega) 3
  refine (evApart [1, 1, 1, 1] 4 _ _ 3 5 _ (F1.get 0 rfl) rfl (by omega) (by omega) (by decide)).mono ?_; rintro e w1 ⟨rfl, hb⟩
  rw [E1.out]
  have R0 := ((Rf.start w).keep F1.bel).keep hb
  clear F1 hb
  go_wp2_with fail
  refine (events_any _).mono ?_; rintro e w1' ⟨rfl, hb⟩
  replace R0 := R0.keep hb
  clear hb
  go_wp2_with fail
  by_cases hck : chkE l [s, t] = 0
  · have hck2 : chkE l [t, s] = 0 := by rw [chkE_swap]; exact hck
    refine (evApart l n _ _ s t _ (R0.old HS.out) HN.out hs ht hck).mono ?_; rintro e w2 ⟨rfl, hb⟩
    have R1 := R0.keep hb
    clear R0 hb
    obtain ⟨B, hB⟩ : ∃ B, (wtL l (s &&& t) * isum l == wtL l s * wtL l t) = B := ⟨_, rfl⟩
    rw [hB]
    have HB := Lib.hid hB
    go_wp2_with fail
    refine (evApart l n _ _ t s _ (R1.old HS.out) HN.out ht hs hck2).mono ?_; rintro e w3 ⟨rfl, hb⟩
    rw [wtL_comm l t s, Int.mul_comm (wtL l t) (wtL l s), HB.out]
    have R2 := R1.keep hb
    clear R1 hb
    obtain ⟨k1, k2, k3, k4⟩ := chkE_ok hck
    have ks := k4 s (by simp)
    have kt := k4 t (by simp)
    rw [hn] at k1 k2 ks kt
    obtain ⟨a16, a16'⟩ := all16 n k2
    have A16 := Lib.hid a16
    have ANDA := Lib.hid (u16_andNot_nat (2 ^ n - 1) t a16' ht)
    have al16 : less16 (2 ^ n - 1) t < 65536 := Nat.lt_of_le_of_lt Nat.and_le_left a16'
    have alt : less16 (2 ^ n - 1) t < 2 ^ n := less16_lt n _ t (by have := Nat.two_pow_pos n; omega)
    have c3 : chkE l [s, less16 (2 ^ n - 1) t] = 0 := chkE_yes (by omega) (by omega) k3 (fun x hx => by
      rw [hn]
      rcases List.mem_cons.1 hx with rfl | hx
      · exact ks
      · rw [List.mem_singleton] at hx; rw [hx]; exact alt)
    have W0 := isum_bdP l k3 (by omega)
    rw [hn] at W0
    have s1 := wtL_less l s t (by omega) ht
    have s2 := wtL_less l (2 ^ n - 1) t (by omega) ht
    rw [and_all n t kt] at s2
    rw [show wtL l (2 ^ n - 1) = isum l from by rw [← hn]; exact wtL_all l] at s2
    have hB2 : (wtL l (s &&& less16 (2 ^ n - 1) t) * isum l == wtL l s * wtL l (less16 (2 ^ n - 1) t)) = B := by
      rw [and_less n s t ks, ← hB]
      have e1 : wtL l (less16 s t) = wtL l s - wtL l (s &&& t) := by omega
      have e2 : wtL l (less16 (2 ^ n - 1) t) = isum l - wtL l t := by omega
      rw [e1, e2, Int.sub_mul, Int.mul_sub]
      rw [Bool.eq_iff_iff, beq_iff_eq, beq_iff_eq]
      constructor <;> intro h <;> omega
    have HB2 := Lib.hid hB2
    have C3 := Lib.hid c3
    obtain ⟨X1, Y1, r1⟩ : ∃ X Y, RedIs (wtL l s) (isum l) X Y := ⟨_, _, rfl, rfl⟩
    have c1 : chkE l [s] = 0 := chkE_yes (by omega) (by omega) k3 (fun x hx => by rw [List.mem_singleton] at hx; rw [hx, hn]; exact ks)
    have C1 := Lib.hid c1
    have K1 := Lib.hid r1
    have hB0 : t = 0 → B = true := fun h => by
      rw [← hB, h, Nat.and_zero, wtL_zero]; simp
    obtain ⟨X2, Y2, r2⟩ : ∃ X Y, RedIs (wtL l (s &&& t)) (wtL l t) X Y := ⟨_, _, rfl, rfl⟩
    have K2 := Lib.hid r2
    have HCK := Lib.hid hck
    have hsame : 0 < t → (B = true ↔ (X1 = X2 ∧ Y1 = Y2)) := fun h => by
      have := red_same W0.1 (wtL_pos l t k3 h (by rw [hn]; exact kt)) r1 r2
      rw [← hB, beq_iff_eq]
      exact ⟨fun h => this.2 h.symm, fun h => (this.1 h).symm⟩
    have HSAME := Lib.hid hsame
    have HB0 := Lib.hid hB0
    clear hck hck2 k1 k3 k4 ks kt a16 alt c3 W0 s1 s2 hB2 r1 c1 hB0 r2 hsame hB hn
    go_wp2_with fail
    rw [A16.out, ANDA.out]
    refine (evApart l n _ _ s (less16 (2 ^ n - 1) t) _ (R2.old HS.out) HN.out hs al16 C3.out).mono ?_; rintro e w4 ⟨rfl, hb⟩
    rw [HB2.out]
    have R3 := R2.keep hb
    clear R2 hb
    go_wp2_with fail
    refine (good2b _ w4.heap.size _ rfl).mono ?_; rintro e w' ⟨rfl, rfl⟩
    have R4 := R3.alloc (.cells #[.int .i64 0, .int .i64 0] 24)
    clear R3
    have q1 : (B != B) = false := by simp
    rcases Nat.eq_zero_or_pos t with h0 | h0
    · have := HB0.out h0
      subst this
      subst h0
      go_wp2_with fail
      go_ret
      exact ⟨rfl, R4.bel⟩
    · have z : ((t : Int) == 0) = false := by rw [beq_eq_false_iff_ne]; omega
      go_wp2_with fail
      refine (evChance l n _ _ s _ (R4.old HS.out) HN.out hs X1 Y1 C1.out K1.out).mono ?_; rintro e w6 ⟨rfl, hb⟩
      have R5 := (R4.keep hb).push X1 Y1
      clear R4 hb
      go_wp2_with fail
      refine (evGiven l n _ _ s t _ (R5.old HS.out) HN.out hs ht h0 X2 Y2 HCK.out K2.out).mono ?_; rintro e w7 ⟨rfl, hb⟩
      have R6 := (R5.keep hb).push X2 Y2
      clear R5 hb
      go_wp2_with fail
      refine (good2b _ (w7.heap.size + 1) _ (by simp)).mono ?_; rintro e w' ⟨rfl, rfl⟩
      have R7 := R6.alloc (.cells #[.int .i64 0, .int .i64 0] 24)
      clear R6
      obtain ⟨u0, u1, uz⟩ := R7.get 0 rfl
      obtain ⟨u2, u3, uz1⟩ := R7.get 1 rfl
      have hsame := HSAME.out h0
      by_cases heq : X1 = X2 ∧ Y1 = Y2
      · have hBt := hsame.2 heq
        obtain ⟨rfl, rfl⟩ := heq
        subst hBt
        clear hsame HSAME HB HB2 HB0
        go_wp2_with fail
        go_ret
        exact ⟨by simp, R7.bel⟩
      · have hBf : B = false := by
          cases hb : B
          · rfl
          · exact absurd (hsame.1 hb) heq
        subst hBf
        clear hsame
        go_wp2_with fail
        all_goals (go_ret; exact ⟨by simp_all, R7.bel⟩)
  · obtain ⟨er, her⟩ : ∃ er, chkE l [s, t] = er := ⟨_, rfl⟩
    have her2 : chkE l [t, s] = er := by rw [chkE_swap]; exact her
    have h0 : er ≠ 0 := by rw [← her]; exact hck
    have H1 := Lib.hid her; have H2 := Lib.hid her2; have H0 := Lib.hid h0
    have z : (er != 0) = true := by rw [bne_iff_ne]; exact h0
    clear hck her her2 h0
    refine (evApart_no l n _ _ s t _ (R0.old HS.out) HN.out hs ht er H1.out H0.out).mono ?_; rintro e w2 ⟨rfl, hb⟩
    have R1 := R0.keep hb
    clear R0 hb
    go_wp2_with fail
    refine (evApart_no l n _ _ t s _ (R1.old HS.out) HN.out ht hs er H2.out H0.out).mono ?_; rintro e w3 ⟨rfl, hb⟩
    have R2 := R1.keep hb
    clear R1 hb
    have q : (er == er) = true := beq_self_eq_true _
    go_wp2_with fail
    go_ret
    exact ⟨rfl, R2.bel⟩
theorem eventApart_int (l : List Int) (n : Nat) (a : Option Addr) (ca : Nat) (s t : Int) (w : World) (h : Sa w a (ints l)) (hn : l.length = n) (hs : (Lit.int .u16 s).wf = true) (ht : (Lit.int .u16 t).wf = true) :
    Calls Try.prog 6 #[.slice a n ca, .int .u16 s, .int .u16 t] w fun e w' => e = .returned (.bool true) ∧ Below w.heap.size w w' := by
  obtain ⟨s', rfl, hs'⟩ := u16_nat hs
  obtain ⟨t', rfl, ht'⟩ := u16_nat ht
  exact eventApart_any l n a ca s' t' w h hn hs' ht'
end Go.Proofs.Ytliajiilcicppaa
