/- The walk of the law StrideNext. -/
import Derived.Test.YtnjabochagahjaaWStr3
namespace Go.Proofs.Ytnjabochagahjaa
open Go.RowKit

theorem max_none (l : List Int) (n : Nat) (hn : l.length = n) (h0 : 0 < n) (hp : TkOk l) (hs : ∀ j, j < n → nth l j ≤ 0) : maxK l n = 0 := by
  rcases maxK_at l n with h | ⟨j, h1, h2⟩
  · have := hp.2 0 (by omega); have := hs 0 h0; omega
  · have := hp.2 j (by omega); have := hs j h1; omega

set_option maxRecDepth 100000 in
set_option maxHeartbeats 8000000 in
theorem strideNext_any (l y : List Int) (n ny : Nat) (a b : Option Addr) (cap cb : Nat) (by0 : Int) (w : World) (h : Sa w a (ints l)) (hn : l.length = n) (hc : n ≤ cap) (hm : n ≤ maxLen)
    (h' : Sa w b (ints y)) (hn' : y.length = ny) (hm' : ny ≤ maxLen) :
    Calls Try.prog 13 #[.slice a n cap, .slice b ny cb, .int .i64 by0] w fun e w' => e = .returned (.bool true) ∧ Below w.heap.size w w' := by
  unfold maxLen at hm'
  have HN := Lib.hid hn; have HS := Lib.hid h; have HM := Lib.hid hm; have HN' := Lib.hid hn'; have HS' := Lib.hid h'
  have HP := Lib.hid (show TkOk [1, 2] from ⟨by decide, by decide⟩)
  have HH := Lib.hid (show ∀ j, j < 2 → 0 ≤ nth [1, 1] j ∧ nth [1, 1] j ≤ 1000000000 from by decide)
  have e1 : bestL [1, 2] [1, 1] 2 = 1 := by decide
  have E1 := Lib.hid e1
  clear hn h hm hn' h' e1
  go_enter Try.func13, Try.ntmps13
  go_wp2_with fail
  have F1 := ((Fr.start w).lit [1, 2] #[.int .i64 1, .int .i64 2] rfl 2 rfl (by omega) 3)
  have F1' := F1.lit' [1, 1] #[.int .i64 1, .int .i64 1] rfl 2 rfl (by omega) 3 _ (by simp; rfl)
  refine (strNext [1, 2] [1, 1] 2 _ _ _ _ _ (F1'.get 1 rfl) (F1'.get 0 rfl) rfl rfl HP.out HH.out).mono ?_; rintro e w1 ⟨he, hf⟩
  rw [E1.out] at he
  rcases he with ⟨he, _⟩ | ⟨_, rfl⟩
  · omega
  have F2 := F1'.below.keep hf.bel
  clear F1 F1' hf
  go_wp2_with fail
  refine (strides_any _).mono ?_; rintro e w1 ⟨rfl, hb⟩
  replace F2 := F2.keep hb
  clear hb
  go_wp2_with fail
  refine (tickets_any l n _ _ _ (F2.old HS.out) HN.out hc HM.out).mono ?_; rintro e w2 ⟨ad2, m, cp2, rfl, hm, hc2, hf⟩
  have F3 := F2.call hf
  have HML := Lib.hid hm
  have ok := tkL_ok l
  have t20 : ∀ j, j < (tkL l).length → nth (tkL l) j ≤ 20 := fun j hj => (tkL_20 l j hj).2
  have OK := Lib.hid ok; have T20 := Lib.hid t20
  clear F2 hf hm ok t20
  generalize tkL l = tk at *
  have m8 : m ≤ 8 := by have := OK.out.1; rw [HML.out] at this; exact this
  go_wp2_with fail
  go_loopw [10, 41] (fun o i wr => ∃ (k : Nat) (ad : Option Addr) (cp : Nat) (hd : List Int), k ≤ m ∧ i = .int .i64 k ∧ o = .slice ad k cp ∧ Hid (hd.length = k ∧ ∀ v ∈ hd, 0 ≤ v ∧ v ≤ 49) ∧ Fr w wr [⟨3, .slice ad k cp, ints hd⟩, ⟨3, .slice ad2 m cp2, ints tk⟩]) (fun _ i _ => m - (intOf i).toNat)
  case atStart => exact ⟨0, none, 0, [], by omega, rfl, rfl, Lib.hid ⟨rfl, by simp⟩, (F3.sub (by simp)).nilSlice _⟩
  case round =>
    obtain ⟨k, ad, cp, hd, hk, rfl, rfl, HLO, hfr⟩ := hrel
    clear F3
    by_cases hlt : k < m
    · have d1 : (0 : Int) ≤ (k : Int) := by omega
      have snoc : ∀ x, 0 ≤ x ∧ x ≤ 49 → Hid ((hd ++ [x]).length = k + 1 ∧ ∀ v ∈ hd ++ [x], 0 ≤ v ∧ v ≤ 49) := fun x hx => Lib.hid ⟨by rw [List.length_append, HLO.out.1]; rfl, fun z hz => by
        rcases List.mem_append.1 hz with hz | hz
        · exact HLO.out.2 z hz
        · rw [List.mem_singleton] at hz; rw [hz]; exact hx⟩
      by_cases hky : k < ny
      · obtain ⟨b', off, rfl, hb, hc⟩ := (hfr.old HS'.out).int k (by rw [HN'.out]; omega)
        obtain ⟨x, hx⟩ : ∃ x, nth y k = x := ⟨_, rfl⟩
        rw [hx] at hc
        have SN := Lib.hid (snoc (x % 50) (by omega))
        have HF := Lib.hid hfr
        clear hx hfr snoc
        have d2 : (k : Int) < (ny : Int) := by omega
        have e1 : 0 ≤ x % 50 := by omega
        have e2 : x % 50 < 50 := by omega
        go_wp2_with (first
          | (go_at_call 16; refine (within_any _ _ _ (by omega) (by omega)).mono ?_; rintro e w' ⟨rfl, rfl⟩)
          | (with_reducible refine at_slot 56 ?_; go_must (refine wpList_pushInt rfl _ _ rfl ad k cp _ (x % 50) _ rfl HF.out rfl ?_ ?_); rotate_left; intro ad' cp' w2 hf2 hlt2))
        · exact ⟨⟨k + 1, ad', cp', hd ++ [x % 50], by omega, by simp, rfl, SN.out, hf2⟩, by simp only [intOf]; omega⟩
        · omega
      · have SN := Lib.hid (snoc 0 (by omega))
        have HF := Lib.hid hfr
        clear hfr snoc
        go_wp2_with (with_reducible refine at_slot 56 ?_; go_must (refine wpList_pushInt rfl _ _ rfl ad k cp _ 0 _ rfl HF.out rfl ?_ ?_); rotate_left; intro ad' cp' w2 hf2 hlt2)
        · exact ⟨⟨k + 1, ad', cp', hd ++ [0], by omega, by simp, rfl, SN.out, hf2⟩, by simp only [intOf]; omega⟩
        · omega
    · obtain rfl : k = m := by omega
      have HHL := Lib.hid HLO.out.1
      have hh : ∀ j, j < k → 0 ≤ nth hd j ∧ nth hd j ≤ 49 := fun j hj => HLO.out.2 _ (nth_mem _ _ (by rw [HHL.out]; exact hj))
      have HHB := Lib.hid hh
      have HH1 : Hid (∀ j, j < k → 0 ≤ nth hd j ∧ nth hd j ≤ 1000000000) := Lib.hid fun j hj => by have := hh j hj; omega
      clear hh HLO
      go_wp2_with fail
      refine (strNext tk hd k _ _ _ _ _ (hfr.get 1 rfl) (hfr.get 0 rfl) HML.out HHL.out OK.out HH1.out).mono ?_; rintro e w3 ⟨he, hf⟩
      have F4 := hfr.keep hf.bel
      clear hf hfr
      have hbd := bestL_lt tk hd k
      have hbs := bestL_best tk hd k
      have hbn := bestL_none tk hd k
      rcases he with ⟨he, rfl⟩ | ⟨he, rfl⟩
      · have hno := Lib.hid (hbn (by omega))
        clear hbs hbn
        by_cases h0 : k = 0
        · subst h0
          go_wp2_with fail
          go_ret
          exact ⟨rfl, F4.bel⟩
        · have hmx := Lib.hid (max_none tk k HML.out (by omega) OK.out hno.out)
          have q0 : ((k : Int) == 0) = false := by rw [beq_eq_false_iff_ne]; omega
          go_wp2_with fail
          refine (slMaxK tk k _ _ _ (F4.get 1 rfl) HML.out (by omega) (by omega)).mono ?_; rintro e w' ⟨rfl, rfl⟩
          rw [hmx.out]
          go_wp2_with fail
          go_ret
          exact ⟨rfl, F4.bel⟩
      · obtain ⟨hb1, hb2⟩ := hbs he
        obtain ⟨B, hB⟩ : ∃ B : Nat, bestL tk hd k = B := ⟨(bestL tk hd k).toNat, by omega⟩
        rw [hB] at hbd hb1 hb2 ⊢
        simp only [Int.toNat_natCast] at hb1 hb2
        have HB := Lib.hid hB
        have HB2 := Lib.hid hb2
        have hBk : B < k := by omega
        clear hbn hB hb2 hbd he hbs
        obtain ⟨b2, o2, rfl, _, cB⟩ := (F4.get 1 rfl).int B (by rw [HML.out]; exact hBk)
        obtain ⟨g, rfl, _, gB, _⟩ := F4.openI B (by rw [HHL.out]; exact hBk)
        obtain ⟨lB1, lB2⟩ := OK.out.2 B (by rw [HML.out]; exact hBk)
        obtain ⟨lB, hlB⟩ : ∃ x, nth tk B = x := ⟨_, rfl⟩
        rw [hlB] at cB hb1 lB1 lB2
        have HLB := Lib.hid hlB
        obtain ⟨hB', hhB⟩ : ∃ x, nth hd B = x := ⟨_, rfl⟩
        rw [hhB] at gB
        have HHB' := Lib.hid hhB
        have dB1 : (0 : Int) ≤ (B : Int) := by omega
        have dB2 : (B : Int) < (k : Int) := by omega
        have q1 : (lB == 0) = false := by rw [beq_eq_false_iff_ne]; omega
        have q2 : decide ((B : Int) < 0) = false := decide_eq_false (by omega)
        have q3 : decide (k ≤ B) = false := decide_eq_false (by omega)
        clear hlB hhB gB
        go_wp2_with fail
        clear q1 q2 q3
        go_loopw [97] (fun i wr => ∃ i' : Nat, i' ≤ k ∧ i = .int .i64 i' ∧ Fr w wr [⟨3, .slice (some ⟨g, 0, none⟩) k cp, ints hd⟩, ⟨3, .slice (some ⟨b2, o2, none⟩) k cp2, ints tk⟩]) (fun i _ => k - (intOf i).toNat)
        case atStart => exact ⟨0, by omega, rfl, F4⟩
        case round =>
          obtain ⟨i, hi, rfl, hfr⟩ := hrel
          clear F4 cB
          by_cases hi' : i < k
          · obtain ⟨_, _, e1, _, ci⟩ := (hfr.get 1 rfl).int i (by rw [HML.out]; exact hi')
            obtain ⟨_, _, e2, _, cj⟩ := (hfr.get 1 rfl).int B (by rw [HML.out]; exact hBk)
            obtain ⟨_, e3, _, hgi, _⟩ := hfr.openI i (by rw [HHL.out]; exact hi')
            obtain ⟨_, e4, _, hgj, _⟩ := hfr.openI B (by rw [HHL.out]; exact hBk)
            cases e1; cases e2; cases e3; cases e4
            have fr := HB2.out i hi'
            obtain ⟨hi1, hi2⟩ := HHB.out i hi'
            obtain ⟨hj1, hj2⟩ := HHB.out B hBk
            obtain ⟨li1, li2⟩ := OK.out.2 i (by rw [HML.out]; exact hi')
            rw [HLB.out] at fr cj
            rw [HHB'.out] at fr hgj hj1 hj2
            generalize nth hd i = vi at *
            generalize nth tk i = li at *
            have HF := Lib.hid hfr
            clear hfr
            have d6 : (0 : Int) ≤ (i : Int) := by omega
            have d7 : (i : Int) < (k : Int) := by omega
            by_cases hli : 0 < li
            · have c1 : decide (0 < li) = true := decide_eq_true hli
              replace fr := fr hli
              obtain ⟨q1, P1⟩ : ∃ q, vi * lB = q := ⟨_, rfl⟩
              obtain ⟨q2, P2⟩ : ∃ q, hB' * li = q := ⟨_, rfl⟩
              rw [P1, P2] at fr
              have m1 := mul_bd (a := vi) (b := lB) (m := 201) (k := 100) hi1 (by omega) lB1 lB2 (by omega)
              have m2 := mul_bd (a := hB') (b := li) (m := 201) (k := 100) hj1 (by omega) li1 li2 (by omega)
              rw [P1] at m1
              rw [P2] at m2
              obtain ⟨m11, m12⟩ := m1
              obtain ⟨m21, m22⟩ := m2
              have c3 : decide (q1 < q2) = false := decide_eq_false (by omega)
              clear fr
              go_wp2_with fail
              go_quiet (fail)
              go_wp2_with fail
              go_roundw
              case rel => exact ⟨i + 1, by omega, by go_num, HF.out.drewN _⟩
              case measure => simp only [intOf]; omega
            · have c1 : decide (0 < li) = false := decide_eq_false hli
              clear fr
              go_wp2_with fail
              go_quiet (fail)
              go_wp2_with fail
              go_roundw
              case rel => exact ⟨i + 1, by omega, by go_num, HF.out.drewN _⟩
              case measure => simp only [intOf]; omega
          · obtain ⟨c, hc1, hc2, hc3⟩ : ∃ c : Int, by0 % 5 = c ∧ 0 ≤ c ∧ c ≤ 4 := ⟨_, rfl, by omega, by omega⟩
            have HC := Lib.hid hc1
            clear hc1
            go_wp2_with fail
            refine (within_any _ _ _ (by omega) (by omega)).mono ?_; rintro e w' ⟨rfl, rfl⟩
            rw [HC.out]
            go_wp2_with fail
            go_loopw [16, 132] (fun o i wr => ∃ (j : Nat) (ad : Option Addr) (cp' : Nat), j ≤ k ∧ i = .int .i64 j ∧ o = .slice ad j cp' ∧ Fr w wr [⟨3, .slice ad j cp', ints ((tk.take j).map (· * (1 + c)))⟩, ⟨3, .slice (some ⟨g, 0, none⟩) k cp, ints hd⟩, ⟨3, .slice (some ⟨b2, o2, none⟩) k cp2, ints tk⟩]) (fun _ i _ => k - (intOf i).toNat)
            case atStart => exact ⟨0, none, 0, by omega, rfl, rfl, hfr.nilSlice _⟩
            case round =>
              clear hfr
              obtain ⟨j, ad, cp', hj, rfl, rfl, hfr⟩ := hrel
              by_cases hj' : j < k
              · obtain ⟨_, _, e, _, cj⟩ := (hfr.get 2 rfl).int j (by rw [HML.out]; exact hj')
                cases e
                obtain ⟨p1, p2⟩ := OK.out.2 j (by rw [HML.out]; exact hj')
                have hs := Lib.hid (take_nth tk j (by rw [HML.out]; omega))
                obtain ⟨x, hx⟩ : ∃ x, nth tk j = x := ⟨_, rfl⟩
                rw [hx] at cj p1 p2
                have HX := Lib.hid hx
                have HF := Lib.hid hfr
                have m1 := mul_bd (a := x) (b := 1 + c) (m := 100) (k := 5) p1 p2 (by omega) (by omega) (by omega)
                obtain ⟨q, P1⟩ : ∃ q, x * (1 + c) = q := ⟨_, rfl⟩
                have HQ := Lib.hid P1
                rw [P1] at m1
                obtain ⟨m11, m12⟩ := m1
                clear hx hfr
                have d1 : (0 : Int) ≤ (j : Int) := by omega
                have d2 : (j : Int) < (k : Int) := by omega
                go_wp2_with (with_reducible refine at_slot 141 ?_; go_must (refine wpList_pushInt rfl _ _ rfl ad j cp' _ q _ rfl HF.out rfl ?_ ?_); rotate_left; intro ad' cp'' w5 hf2 hlt2)
                · rw [show (tk.take j).map (· * (1 + c)) ++ [q] = (tk.take (j + 1)).map (· * (1 + c)) from by rw [hs.out, HX.out, List.map_append, ← HQ.out]; rfl] at hf2
                  exact ⟨⟨j + 1, ad', cp'', by omega, by simp, rfl, hf2⟩, by simp only [intOf]; omega⟩
                · omega
              · obtain rfl : j = k := by omega
                rw [List.take_of_length_le (by rw [HML.out]; omega)] at hfr
                have lm : (tk.map (· * (1 + c))).length = j := by rw [List.length_map]; exact HML.out
                have em : ∀ i, i < j → nth (tk.map (· * (1 + c))) i = nth tk i * (1 + c) := fun i hi => nth_map _ _ i (by rw [HML.out]; exact hi)
                have okm : TkOk (tk.map (· * (1 + c))) := by
                  refine ⟨by rw [lm]; exact m8, fun i hi => ?_⟩
                  rw [lm] at hi
                  rw [em i hi]
                  have h1 := OK.out.2 i (by rw [HML.out]; exact hi)
                  have h2 := T20.out i (by rw [HML.out]; exact hi)
                  have := mul_bd (a := nth tk i) (b := 1 + c) (m := 20) (k := 5) h1.1 h2 (by omega) (by omega) (by omega)
                  omega
                have eb := bestL_mul tk (tk.map (· * (1 + c))) hd (1 + c) (by omega) j em
                rw [HB.out] at eb
                have LM := Lib.hid lm; have OKM := Lib.hid okm; have EB := Lib.hid eb
                clear lm em okm eb
                go_wp2_with fail
                refine (strNext (tk.map (· * (1 + c))) hd j _ _ _ _ _ (hfr.get 0 rfl) (hfr.get 1 rfl) LM.out HHL.out OKM.out HH1.out).mono ?_; rintro e w7 ⟨he, hf⟩
                rw [EB.out] at he
                have F9 := hfr.keep hf.bel
                clear hf hfr
                rcases he with ⟨he, _⟩ | ⟨_, rfl⟩
                · omega
                have q : ((B : Int) == (B : Int)) = true := beq_self_eq_true _
                go_wp2_with fail
                go_ret
                exact ⟨rfl, F9.bel⟩
end Go.Proofs.Ytnjabochagahjaa
