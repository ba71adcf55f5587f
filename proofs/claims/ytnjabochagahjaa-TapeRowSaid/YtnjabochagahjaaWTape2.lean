/- The walk of the law TapeRow. -/
import Derived.Test.YtnjabochagahjaaWTape1
namespace Go.Proofs.Ytnjabochagahjaa
open Go.RowKit

set_option maxHeartbeats 1000000 in
theorem tpRow_large (l : List Int) (n m : Nat) (a b : Option Addr) (ca cb : Nat) (w : World) (h : Sa w a (byts l)) (hn : l.length = n) (hp : Bit01 l) (hl : n ≤ 200) (hm : 30 < m) :
    Calls Try.prog 23 #[.slice a n ca, .slice b m cb] w fun e w' => e = .returned (.tuple #[.slice none 0 0, .int .i64 0, .int .i64 2]) ∧ w = w' := by
  have HN := Lib.hid hn; have HS := Lib.hid h; have HP := Lib.hid hp
  clear hn h hp
  have q : decide ((30 : Int) < (m : Int)) = true := decide_eq_true (by omega)
  go_enter Try.func23, Try.ntmps23
  go_wp2_with fail
  refine (tpChk l n _ _ _ HS.out HN.out HP.out hl).mono ?_; rintro e w' ⟨rfl, rfl⟩
  go_wp2_with fail
  go_ret3
  exact ⟨rfl, rfl⟩

theorem tpRow_ok (l most : List Int) (n m : Nat) (a b : Option Addr) (ca cb : Nat) (w : World) (h : Sa w a (byts l)) (h' : Sa w b (ints most)) (hn : l.length = n) (hm : most.length = m) (hp : Bit01 l) (hl : n ≤ 200) (hc : n ≤ ca) (hm2 : m ≤ 30)
    (o : List Int) (u : Nat) (ho : rowS most l = .ok (o, u)) :
    Calls Try.prog 23 #[.slice a n ca, .slice b m cb] w fun e w' => ∃ ad cp, e = .returned (.tuple #[.slice ad m cp, .int .i64 (u : Nat), .int .i64 0]) ∧ Fr w w' [⟨3, .slice ad m cp, ints o⟩] :=
  (tpRow l most n m a b ca cb w h h' hn hm hp hl hc hm2).mono fun e w' hs => by
    rcases hs with ⟨o', u', ad, cp, h1, h2, h3⟩ | ⟨err, _, h1, _⟩
    · rw [ho] at h1
      simp only [Except.ok.injEq, Prod.mk.injEq] at h1
      obtain ⟨rfl, rfl⟩ := h1
      exact ⟨ad, cp, h2, h3⟩
    · rw [ho] at h1; cases h1

set_option maxRecDepth 100000 in
set_option maxHeartbeats 8000000 in
theorem tapeRow_any (x y : List Int) (n m : Nat) (a b : Option Addr) (ca cb : Nat) (k0 : Int) (w : World) (h : Sa w a (byts x)) (hn : x.length = n) (hc : n ≤ ca) (hx : n ≤ maxLen) (hb : ∀ z ∈ x, 0 ≤ z ∧ z ≤ 255)
    (h' : Sa w b (ints y)) (hm : y.length = m) (hc' : m ≤ cb) (hm' : m ≤ maxLen) :
    Calls Try.prog 5 #[.slice a n ca, .slice b m cb, .int .i64 k0] w fun e w' => e = .returned (.bool true) ∧ Below w.heap.size w w' := by
  unfold maxLen at hm'
  have HN := Lib.hid hn; have HS := Lib.hid h; have HX := Lib.hid hx; have HB := Lib.hid hb
  have HN' := Lib.hid hm; have HS' := Lib.hid h'
  have HQ := Lib.hid (show Bit01 [1, 0, 1, 1] from by unfold Bit01; decide)
  have HR := Lib.hid (show rowS [3, 1, 4] [1, 0, 1, 1] = .ok ([2, 0, 3], 4) from by kernel_rfl)
  clear hn h hx hb hm h'
  go_enter Try.func5, Try.ntmps5
  go_wp2_with fail
  have F0 := (Fr.start w).new 5 #[.int .u8 1, .int .u8 0, .int .u8 1, .int .u8 1] (byts [1, 0, 1, 1]) rfl 4 rfl (by omega)
  have F1 := F0.lit' [3, 1, 4] #[.int .i64 3, .int .i64 1, .int .i64 4] rfl 3 rfl (by omega) 3 _ (by simp; rfl)
  refine (tpRow [1, 0, 1, 1] [3, 1, 4] 4 3 _ _ _ _ _ (F1.get 1 rfl) (F1.get 0 rfl) rfl rfl HQ.out (by omega) (by omega) (by omega)).mono ?_; rintro e w1 he
  rcases he with ⟨o, u, ad, cp, he, rfl, hf⟩ | ⟨err, _, he, _⟩
  rotate_left
  · rw [HR.out] at he; cases he
  rw [HR.out] at he
  simp only [Except.ok.injEq, Prod.mk.injEq] at he
  obtain ⟨rfl, rfl⟩ := he
  have F2 := F1.below.call hf
  clear F0 F1 hf
  go_wp2_with fail
  have F3 := F2.lit [2, 0, 3] #[.int .i64 2, .int .i64 0, .int .i64 3] rfl 3 rfl (by omega) 3
  refine (slEqual [2, 0, 3] [2, 0, 3] 3 3 _ _ _ _ _ (F3.get 1 rfl) (F3.get 0 rfl) rfl rfl (by omega) (by omega)).mono ?_; rintro e w2 ⟨rfl, hf⟩
  have F4 := F3.below.keep hf.bel
  rw [decide_eq_true (rfl : ([2, 0, 3] : List Int) = [2, 0, 3])]
  clear F2 F3 hf
  go_wp2_with fail
  refine (tapes_any _).mono ?_; rintro e w3 ⟨rfl, hb⟩
  replace F4 := F4.keep hb
  clear hb
  go_wp2_with fail
  refine (bitsOf_any x n _ _ 200 _ (F4.old HS.out) HN.out hc HX.out (by omega) HB.out).mono ?_; rintro e w4 ⟨ad1, n1, cp1, rfl, hn1, hc1, hf⟩
  have F5 := F4.call hf
  clear F4 hf
  have P1 := Lib.hid (bitsL_01 x 200)
  have m1 := bitsL_len x 200
  rw [hn1] at m1
  have HN1 := Lib.hid hn1
  clear hn1
  generalize bitsL x 200 = lx at *
  go_wp2_with fail
  by_cases h30 : 30 < m
  · refine (tpRow_large lx n1 m _ _ _ _ _ (F5.get 0 rfl) HN1.out P1.out m1 h30).mono ?_; rintro e w' ⟨rfl, rfl⟩
    go_wp2_with fail
    go_ret
    exact ⟨rfl, F5.bel⟩
  · refine (tpRow lx y n1 m _ _ _ _ _ (F5.get 0 rfl) (F5.old HS'.out) HN1.out HN'.out P1.out m1 hc1 (by omega)).mono ?_; rintro e w5 he
    rcases he with ⟨o, u, ad5, cp5, he, rfl, hf⟩ | ⟨err, herr, he, rfl, hf⟩
    · have F6 := F5.call hf
      obtain ⟨ol, ou⟩ := rowS_len _ _ _ _ he
      rw [HN'.out] at ol
      rw [HN1.out] at ou
      have HE := Lib.hid he
      have OL := Lib.hid ol
      clear F5 hf he ol
      obtain ⟨kk, hkk, hkm⟩ : ∃ kk : Nat, k0 % ((m : Int) + 1) = kk ∧ kk ≤ m := ⟨(k0 % ((m : Int) + 1)).toNat, by have := Int.emod_nonneg k0 (b := (m : Int) + 1) (by omega); omega, by have := Int.emod_lt_of_pos k0 (b := (m : Int) + 1) (by omega); omega⟩
      have HKK := Lib.hid hkk
      obtain ⟨o1, v, o2, t, h1, h2, h3, h4, h5⟩ := rowS_cut kk y lx o u HE.out (by rw [HN'.out]; exact hkm)
      rw [HN1.out] at h2
      have H1 := Lib.hid h1; have H3 := Lib.hid h3; have H5 := Lib.hid h5; have H4 := Lib.hid h4
      have q0 : ((m : Int) != (m : Int)) = false := by simp
      clear hkk h1 h3 h5 h4
      go_wp2_with fail
      refine (within_any _ _ _ (by omega) (by omega)).mono ?_; rintro e w' ⟨rfl, rfl⟩
      rw [HKK.out]
      have k1 : (kk : Int) ≤ (cb : Int) := by omega
      have k2 : (0 : Int) ≤ (kk : Int) := by omega
      clear q0
      go_wp2_with fail
      have s1 := (F6.old HS'.out).take kk
      rw [ints_take] at s1
      have l1 : (y.take kk).length = kk := by rw [List.length_take, HN'.out]; omega
      have l2 : (y.drop kk).length = m - kk := by rw [List.length_drop, HN'.out]
      have l3 : (lx.drop v).length = n1 - v := by rw [List.length_drop, HN1.out]
      have L1 := Lib.hid l1; have L2 := Lib.hid l2; have L3 := Lib.hid l3
      refine (tpRow lx (y.take kk) n1 kk _ _ _ _ _ (F6.get 1 rfl) s1 HN1.out l1 P1.out m1 hc1 (by omega)).mono ?_; rintro e w6 he
      rcases he with ⟨o', u', ad6, cp6, he, rfl, hf⟩ | ⟨err, _, he, _⟩
      rotate_left
      · rw [H1.out] at he; cases he
      rw [H1.out] at he
      simp only [Except.ok.injEq, Prod.mk.injEq] at he
      obtain ⟨rfl, rfl⟩ := he
      have F7 := F6.call hf
      clear F6 hf s1 l1 l2 l3
      have v1 : (v : Int) ≤ (n1 : Int) := by omega
      have v2 : (0 : Int) ≤ (v : Int) := by omega
      have g1 : decide ((v : Int) < 0) = false := decide_eq_false (by omega)
      have g2 : decide (n1 < v) = false := decide_eq_false (by omega)
      obtain ⟨ad7, cp7, hsl7, hsa7, hcp7⟩ := slice_fromT 28 5 Try.underlying28 u8Elem u8Size ad1 n1 cp1 v h2 hc1 (byts lx) (by rw [byts_len, HN1.out])
      obtain ⟨ad8, cp8, hsl8, hsa8, hcp8⟩ := slice_fromT 27 3 Try.underlying27 intElem intSize b m cb kk hkm hc' (ints y) (by rw [ints_len, HN'.out])
      have s7 := hsa7 _ (F7.drew.get 2 rfl)
      have s8 := hsa8 _ (F7.drew.old HS'.out)
      rw [byts_drop] at s7
      rw [ints_drop] at s8
      have S7 := Lib.hid s7; have S8 := Lib.hid s8
      clear s7 s8 hsa7 hsa8
      have HF7 := Lib.hid F7.drew
      clear F7
      go_wp2_with fail
      go_region_with (go_at_call 23; refine (tpRow_ok (lx.drop v) (y.drop kk) (n1 - v) (m - kk) ad7 ad8 cp7 cp8 _ S7.out S8.out L3.out L2.out (P1.out.drop v) (by omega) hcp7 (by omega) o2 t H3.out).mono ?_; rintro e w7 ⟨ad9, cp9, rfl, hf7⟩)
      have F8 := HF7.out.call hf7
      have q1 : ((u : Int) == (v : Int) + (t : Int)) = true := by rw [beq_iff_eq, H4.out]; rfl
      have q2 : ((v : Int) + (t : Int)) ≤ 200 := by have := H4.out; omega
      clear HF7 hf7 hsl7 hsl8
      go_wp2_with fail
      have F9 := F8.alloc (.cells #[.slice ad6 kk cp6, .slice ad9 (m - kk) cp9] 27)
      obtain ⟨c0, c1⟩ := cells2 w7 (.slice ad6 kk cp6) (.slice ad9 (m - kk) cp9) 27
      obtain ⟨ol1, _⟩ := rowS_len _ _ _ _ H1.out
      obtain ⟨ol2, _⟩ := rowS_len _ _ _ _ H3.out
      rw [L1.out] at ol1
      rw [L2.out] at ol2
      refine (catI (ints o1) (ints o2) kk (m - kk) ad6 ad9 cp6 cp9 w7.heap.size _ (F9.get 1 rfl) (F9.get 0 rfl) (by rw [ints_len, ol1]) (by rw [ints_len, ol2]) (ints_one _) (ints_one _) (F9.none' (i := 1) rfl) (F9.none' (i := 0) rfl) (by omega) (by simp) c0 c1).mono ?_
      rintro e w8 ⟨ad10, cp10, rfl, hf⟩
      rw [show ints o1 ++ ints o2 = ints (o1 ++ o2) from by simp [ints], ← H5.out] at hf
      have F10 := F9.call hf
      clear F8 F9 hf c0 c1
      rw [show kk + (m - kk) = m from by omega] at F10 ⊢
      go_wp2_with fail
      refine (slEqual o o m m _ _ _ _ _ (F10.get 3 rfl) (F10.get 0 rfl) OL.out OL.out (by omega) (by omega)).mono ?_; rintro e w9 ⟨rfl, hf⟩
      have F11 := F10.keep hf.bel
      rw [decide_eq_true (rfl : o = o)]
      go_wp2_with fail
      go_ret
      exact ⟨rfl, F11.bel⟩
    · have F6 := F5.keep hf.bel
      have q : (err != 0) = true := by rw [bne_iff_ne]; omega
      go_wp2_with fail
      go_ret
      exact ⟨rfl, F6.bel⟩
end Go.Proofs.Ytnjabochagahjaa
