/- The walks of the laws LotteryLend and LotteryTurned. -/
import Derived.Test.YtnjabochagahjaaLot2
import Derived.Test.YtnjabochagahjaaSlFn
import Derived.Test.YtnjabochagahjaaSlEq2
namespace Go.Proofs.Ytnjabochagahjaa
open Go.RowKit

set_option maxRecDepth 100000 in
set_option maxHeartbeats 2000000 in
theorem lotteryLend_any (l : List Int) (n : Nat) (a : Option Addr) (cap : Nat) (f t k : Int) (w : World) (h : Sa w a (ints l)) (hn : l.length = n) (hc : n ≤ cap) (hm : n ≤ maxLen) :
    Calls Try.prog 8 #[.slice a n cap, .int .i64 f, .int .i64 t, .int .i64 k] w fun e w' => e = .returned (.bool true) ∧ Below w.heap.size w w' := by
  have HN := Lib.hid hn; have HS := Lib.hid h; have HM := Lib.hid hm
  have HP := Lib.hid (show TkOk [3, 1] from ⟨by decide, by decide⟩)
  have HL := Lib.hid (show LendOk [3, 1] 0 1 2 0 1 from ⟨rfl, rfl, by decide, by decide, by decide, by decide, by decide⟩)
  have e1 : lendL [3, 1] 0 1 2 = [1, 3] := by decide
  have E1 := Lib.hid e1
  clear e1 hn h hm
  go_enter Try.func8, Try.ntmps8
  go_wp2_with fail
  have F1 := (Fr.start w).lit [3, 1] #[.int .i64 3, .int .i64 1] rfl 2 rfl (by omega) 3
  refine (lotLend_yes [3, 1] 2 _ _ 0 1 2 0 1 _ (F1.get 0 rfl) rfl HP.out HL.out).mono ?_; rintro e w1 ⟨ad, cp, rfl, hcp, hf⟩
  rw [E1.out] at hf
  have F2 := F1.below.call hf
  clear F1 hf hcp
  go_wp2_with fail
  have F3 := F2.lit [1, 3] #[.int .i64 1, .int .i64 3] rfl 2 rfl (by omega) 3
  refine (slEqual [1, 3] [1, 3] 2 2 _ _ _ _ _ (F3.get 1 rfl) (F3.get 0 rfl) rfl rfl (by omega) (by omega)).mono ?_; rintro e w2 ⟨rfl, hf⟩
  have F4 := F3.below.keep hf.bel
  clear F2 F3 hf
  go_wp2_with fail
  refine (lotteries_any _).mono ?_; rintro e w3 ⟨rfl, hb⟩
  replace F4 := F4.keep hb
  clear hb
  go_wp2_with fail
  refine (tickets_any l n _ _ _ (F4.old HS.out) HN.out hc HM.out).mono ?_; rintro e w4 ⟨ad4, m, cp4, rfl, hm, hc4, hf⟩
  have F5 := F4.call hf
  have HML := Lib.hid hm
  have ok := tkL_ok l
  have t20 : ∀ j, j < (tkL l).length → nth (tkL l) j ≤ 20 := fun j hj => (tkL_20 l j hj).2
  have OK := Lib.hid ok; have T20 := Lib.hid t20
  clear F4 hf hm ok t20
  generalize tkL l = tk at *
  have m8 : m ≤ 8 := by have := OK.out.1; rw [HML.out] at this; exact this
  go_wp2_with fail
  by_cases hL : ∃ f' t', LendOk tk f t k f' t'
  · obtain ⟨f', t', hL⟩ := hL
    obtain ⟨b1, b2, b3, b4⟩ := lend_back tk f t k f' t' OK.out T20.out hL
    have HL2 := Lib.hid hL; have B1 := Lib.hid b1; have B2 := Lib.hid b2; have B3 := Lib.hid b3; have B4 := Lib.hid b4
    have LB := Lib.hid (show (lendL tk f' t' k).length = m from by rw [lendL_len]; exact HML.out)
    clear hL b1 b2 b3 b4
    refine (lotLend_yes tk m _ _ f t k f' t' _ (F5.get 0 rfl) HML.out OK.out HL2.out).mono ?_; rintro e w5 ⟨ad5, cp5, rfl, hc5, hf⟩
    have F6 := F5.call hf
    clear F5 hf
    go_wp2_with fail
    refine (lotAll tk m _ _ _ (F6.get 1 rfl) HML.out OK.out).mono ?_; rintro e w' ⟨rfl, rfl⟩
    go_wp2_with fail
    refine (lotAll (lendL tk f' t' k) m _ _ _ (F6.get 0 rfl) LB.out B1.out).mono ?_; rintro e w' ⟨rfl, rfl⟩
    rw [B2.out]
    go_wp2_with fail
    refine (lotLend_yes (lendL tk f' t' k) m _ _ t f k t' f' _ (F6.get 0 rfl) LB.out B1.out B3.out).mono ?_; rintro e w6 ⟨ad6, cp6, rfl, hc6, hf⟩
    rw [B4.out] at hf
    have F7 := F6.call hf
    clear F6 hf
    generalize isum tk = S at *
    have q1 : (S == S) = true := beq_self_eq_true _
    go_wp2_with fail
    refine (good3 _ _).mono ?_; rintro e w' ⟨rfl, rfl⟩
    have F8 := F7.alloc (.cells #[.int .i64 0, .int .i64 0, .int .i64 0] 24)
    clear F7
    go_wp2_with fail
    refine (slEqual tk tk m m _ _ _ _ _ (F8.get 0 rfl) (F8.get 2 rfl) HML.out HML.out (by omega) (by omega)).mono ?_; rintro e w7 ⟨rfl, hf⟩
    have F9 := F8.keep hf.bel
    rw [decide_eq_true (rfl : tk = tk)]
    clear F8 hf
    go_wp2_with fail
    refine (lotChk (lendL tk f' t' k) m _ _ _ (F9.get 1 rfl) LB.out B1.out).mono ?_; rintro e w' ⟨rfl, rfl⟩
    go_wp2_with fail
    go_ret
    exact ⟨rfl, F9.bel⟩
  · refine (lotLend_no tk m _ _ f t k _ (F5.get 0 rfl) HML.out OK.out hL).mono ?_; rintro e w5 ⟨err, herr, rfl, hf⟩
    have F6 := F5.keep hf.bel
    have q : (err != 0) = true := by rw [bne_iff_ne]; omega
    clear F5 hf hL herr
    go_wp2_with fail
    go_ret
    exact ⟨rfl, F6.bel⟩

theorem winL_rev : ∀ (l m : List Int) (lot : Int), (∀ x ∈ l, 0 ≤ x) → 0 ≤ lot → winL (l ++ m) lot = if lot < isum l then winL l lot else l.length + winL m (lot - isum l)
  | [], m, lot, _, h0 => by simp [isum]; intro h; omega
  | x :: r, m, lot, hp, h0 => by
    have hx := hp x (by simp)
    have hr : 0 ≤ isum r := by
      have : ∀ l : List Int, (∀ x ∈ l, 0 ≤ x) → 0 ≤ isum l := by
        intro l
        induction l with
        | nil => intro _; simp [isum]
        | cons a l ih => intro h; rw [isum]; have := h a (by simp); have := ih (fun x hx => h x (by simp [hx])); omega
      exact this r (fun y hy => hp y (by simp [hy]))
    rw [List.cons_append, winL, winL, isum]
    by_cases h : x ≤ lot
    · rw [if_pos h, if_pos h, winL_rev r m (lot - x) (fun y hy => hp y (by simp [hy])) (by omega)]
      by_cases h2 : lot < x + isum r
      · rw [if_pos h2, if_pos (by omega)]
      · rw [if_neg h2, if_neg (by omega), List.length_cons, show lot - x - isum r = lot - (x + isum r) from by omega]; omega
    · rw [if_neg h, if_neg h, if_pos (by omega)]
theorem isum_rev : ∀ l : List Int, isum l.reverse = isum l
  | [] => rfl
  | x :: r => by rw [List.reverse_cons, isum_snoc, isum_rev r, isum]; omega
theorem winL_lt : ∀ (l : List Int) (lot : Int), 0 ≤ lot → lot < isum l → winL l lot < l.length
  | [], lot, h, h2 => by simp [isum] at h2; omega
  | x :: r, lot, h, h2 => by
    rw [winL]; rw [isum] at h2
    by_cases hx : x ≤ lot
    · rw [if_pos hx, List.length_cons]; have := winL_lt r (lot - x) (by omega) (by omega); omega
    · rw [if_neg hx]; simp
theorem winL_turn : ∀ (l : List Int) (lot : Int), (∀ x ∈ l, 0 ≤ x) → 0 ≤ lot → lot < isum l → winL l lot + winL l.reverse (isum l - 1 - lot) + 1 = l.length
  | [], lot, _, h, h2 => by simp [isum] at h2; omega
  | x :: r, lot, hp, h, h2 => by
    have hx := hp x (by simp)
    have hr : ∀ y ∈ r, 0 ≤ y := fun y hy => hp y (by simp [hy])
    have hrr : ∀ y ∈ r.reverse, 0 ≤ y := fun y hy => hr y (by simpa using hy)
    rw [isum] at h2 ⊢
    rw [List.reverse_cons, winL_rev r.reverse [x] _ hrr (by omega), isum_rev, winL]
    by_cases hl : x ≤ lot
    · rw [if_pos hl, if_pos (by omega), List.length_cons]
      have := winL_turn r (lot - x) hr (by omega) (by omega)
      rw [show isum r - 1 - (lot - x) = x + isum r - 1 - lot from by omega] at this
      omega
    · rw [if_neg hl, if_neg (by omega), List.length_reverse, List.length_cons, winL, if_neg (by omega)]; omega

set_option maxRecDepth 100000 in
set_option maxHeartbeats 2000000 in
theorem lotteryTurned_any (l : List Int) (n : Nat) (a : Option Addr) (cap : Nat) (y : Int) (w : World) (h : Sa w a (ints l)) (hn : l.length = n) (hc : n ≤ cap) (hm : n ≤ maxLen) :
    Calls Try.prog 7 #[.slice a n cap, .int .i64 y] w fun e w' => e = .returned (.bool true) ∧ Below w.heap.size w w' := by
  have HN := Lib.hid hn; have HS := Lib.hid h; have HM := Lib.hid hm
  clear hn h hm
  go_enter Try.func7, Try.ntmps7
  go_wp2_with fail
  refine (lotteries_any _).mono ?_; rintro e w1 ⟨rfl, hb⟩
  have F1 := (Fr.start w).keep hb
  clear hb
  go_wp2_with fail
  refine (tickets_any l n _ _ _ (F1.old HS.out) HN.out hc HM.out).mono ?_; rintro e w2 ⟨ad2, m, cp2, rfl, hm, hc2, hf⟩
  have F2 := F1.call hf
  have HML := Lib.hid hm
  have ok := tkL_ok l
  have OK := Lib.hid ok
  clear F1 hf hm ok
  generalize tkL l = tk at *
  have m8 : m ≤ 8 := by have := OK.out.1; rw [HML.out] at this; exact this
  have sb := OK.out.sum tk.length (Nat.le_refl _)
  rw [List.take_length] at sb
  go_wp2_with fail
  refine (lotAll tk m _ _ _ (F2.get 0 rfl) HML.out OK.out).mono ?_; rintro e w' ⟨rfl, rfl⟩
  obtain ⟨S, hS⟩ : ∃ S : Nat, isum tk = S := ⟨(isum tk).toNat, by omega⟩
  rw [hS] at sb ⊢
  have HSS := Lib.hid hS
  obtain ⟨sb1, sb2⟩ := sb
  clear hS
  rcases Nat.eq_zero_or_pos S with h0 | h0
  · subst h0
    go_wp2_with fail
    go_ret
    exact ⟨rfl, F2.bel⟩
  · have q0 : ((S : Int) == 0) = false := by rw [beq_eq_false_iff_ne]; omega
    obtain ⟨lot, hlot, hy⟩ : ∃ i : Nat, i < S ∧ y % S = i := ⟨(y % S).toNat, by have := Int.emod_nonneg y (b := (S : Int)) (by omega); have := Int.emod_lt_of_pos y (b := (S : Int)) (by omega); omega, by have := Int.emod_nonneg y (b := (S : Int)) (by omega); omega⟩
    have HY := Lib.hid hy
    have hpos : ∀ x ∈ tk, 0 ≤ x := fun x hx => by
      obtain ⟨i, hi, e⟩ := List.getElem_of_mem hx
      have := (OK.out.2 i hi).1
      unfold nth at this
      simp [hi] at this
      rw [← e]; exact this
    have T := winL_turn tk lot hpos (by omega) (by rw [HSS.out]; omega)
    rw [HSS.out, HML.out] at T
    have HT := Lib.hid T
    have okr : TkOk tk.reverse := by
      refine ⟨by rw [List.length_reverse]; exact OK.out.1, fun j hj => ?_⟩
      rw [List.length_reverse] at hj
      have := OK.out.2 (tk.length - 1 - j) (by omega)
      have e : nth tk.reverse j = nth tk (tk.length - 1 - j) := by
        unfold nth
        rw [List.getD_eq_getElem?_getD, List.getD_eq_getElem?_getD, List.getElem?_reverse hj]
      rw [e]; exact this
    have OKR := Lib.hid okr
    clear hy hpos T okr
    go_wp2_with fail
    refine (within_any _ _ _ (by omega) (by omega)).mono ?_; rintro e w' ⟨rfl, rfl⟩
    rw [HY.out]
    go_wp2_with fail
    refine (slClone tk m _ _ _ (F2.get 0 rfl) HML.out (by omega)).mono ?_; rintro e w3 ⟨ad3, cp3, rfl, hc3, hf⟩
    have F3 := F2.call hf
    clear F2 hf
    have m0 : 0 < m := by
      rcases Nat.eq_zero_or_pos m with h | h
      · have := HML.out; rw [h] at this
        have e := List.eq_nil_of_length_eq_zero this
        have := HSS.out
        rw [e] at this; simp [isum] at this; omega
      · exact h
    obtain ⟨g, rfl, -⟩ := F3.openI 0 (by rw [HML.out]; exact m0)
    go_wp2_with fail
    refine (slReverse tk m cp3 g 0 m cp3 _ _ F3 (by rw [HML.out]; omega) (by omega)).mono ?_; rintro e w4 ⟨rfl, F4⟩
    rw [show revSeg 0 m tk = tk.reverse from by rw [← HML.out]; exact revSeg_all tk] at F4
    clear F3
    go_wp2_with fail
    refine (lotWinner tk m _ _ lot _ (F4.get 1 rfl) HML.out OK.out (by omega) (by rw [HSS.out]; omega)).mono ?_; rintro e w' ⟨rfl, rfl⟩
    have hT := HT.out
    generalize winL tk lot = W1 at *
    generalize hW2 : winL tk.reverse ((S : Int) - 1 - (lot : Int)) = W2 at *
    have HW2 := Lib.hid hW2
    have HT2 := Lib.hid hT
    clear hW2 hT HT
    go_wp2_with fail
    refine (lotWinner tk.reverse m _ _ ((S : Int) - 1 - (lot : Int)) _ (F4.get 0 rfl) (by rw [List.length_reverse]; exact HML.out) OKR.out (by omega) (by rw [isum_rev, HSS.out]; omega)).mono ?_; rintro e w' ⟨rfl, rfl⟩
    rw [HW2.out]
    have b1 : W1 + W2 + 1 ≤ m := by have := HT2.out; omega
    have q1 : ((W1 : Int) == (m : Int) - 1 - (W2 : Int)) = true := by rw [beq_iff_eq]; have := HT2.out; omega
    go_wp2_with fail
    refine (good2 _ _).mono ?_; rintro e w' ⟨rfl, rfl⟩
    have F8 := F4.alloc (.cells #[.int .i64 0, .int .i64 0] 24)
    go_wp2_with fail
    go_ret
    exact ⟨rfl, F8.bel⟩
end Go.Proofs.Ytnjabochagahjaa
