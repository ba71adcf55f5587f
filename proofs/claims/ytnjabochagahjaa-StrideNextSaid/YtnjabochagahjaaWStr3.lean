/- The walks of the laws StrideRound and StrideNext. -/
import Derived.Test.YtnjabochagahjaaWStr1
import Derived.Test.YtnjabochagahjaaSlMM
import Derived.Test.YtnjabochagahjaaLotM
namespace Go.Proofs.Ytnjabochagahjaa
open Go.RowKit

theorem some1_of {l : List Int} (h0 : 0 < isum l) : Some1 l := by
  rcases Classical.em (Some1 l) with h | h
  · exact h
  · have := isum_lt l (List.replicate l.length 0) (by simp) (fun i hi => by
      rw [nth_rep _ _ _ hi]
      rcases Int.lt_or_le 0 (nth l i) with h1 | h1
      · exact absurd ⟨i, hi, h1⟩ h
      · exact h1)
    rw [isum_rep0] at this
    omega

set_option maxRecDepth 100000 in
set_option maxHeartbeats 8000000 in
theorem strideRound_any (l : List Int) (n : Nat) (a : Option Addr) (cap : Nat) (t0 : Int) (w : World) (h : Sa w a (ints l)) (hn : l.length = n) (hc : n ≤ cap) (hm : n ≤ maxLen) :
    Calls Try.prog 11 #[.slice a n cap, .int .i64 t0] w fun e w' => e = .returned (.bool true) ∧ Below w.heap.size w w' := by
  have HN := Lib.hid hn; have HS := Lib.hid h; have HM := Lib.hid hm
  clear hn h hm
  go_enter Try.func11, Try.ntmps11
  go_wp2_with fail
  refine (strides_any _).mono ?_; rintro e w1 ⟨rfl, hb⟩
  have F1 := (Fr.start w).keep hb
  clear hb
  go_wp2_with fail
  refine (tickets_any l n _ _ _ (F1.old HS.out) HN.out hc HM.out).mono ?_; rintro e w2 ⟨ad2, m, cp2, rfl, hm, hc2, hf⟩
  have F2 := F1.call hf
  have HML := Lib.hid hm
  have ok := tkL_ok l
  have t20 : ∀ j, j < (tkL l).length → nth (tkL l) j ≤ 20 := fun j hj => (tkL_20 l j hj).2
  have sb := isum_160 (tkL l) ok t20
  have OK := Lib.hid ok
  clear F1 hf hm ok t20
  generalize tkL l = tk at *
  have m8 : m ≤ 8 := by have := OK.out.1; rw [HML.out] at this; exact this
  go_wp2_with fail
  go_loop [6, 20] (fun s i => ∃ k : Nat, k ≤ m ∧ i = .int .i64 k ∧ s = .int .i64 (isum (tk.take k))) (fun _ i => m - (intOf i).toNat)
  case atStart => exact ⟨0, by omega, rfl, rfl⟩
  case round =>
    obtain ⟨k, hk, rfl, rfl⟩ := hrel
    by_cases hlt : k < m
    · obtain ⟨b, off, rfl, hb, hc⟩ := (F2.get 0 rfl).int k (by rw [HML.out]; exact hlt)
      obtain ⟨p1, p2⟩ := OK.out.2 k (by rw [HML.out]; exact hlt)
      obtain ⟨s1, s2⟩ := OK.out.sum k (by rw [HML.out]; exact hk)
      have hs := Lib.hid (isum_take tk k (by rw [HML.out]; exact hlt))
      obtain ⟨x, hx⟩ : ∃ x, nth tk k = x := ⟨_, rfl⟩
      obtain ⟨S, hS⟩ : ∃ S, isum (tk.take k) = S := ⟨_, rfl⟩
      rw [hx] at hc p1 p2
      rw [hS] at s1 s2 ⊢
      have HX := Lib.hid hx; have HSS := Lib.hid hS
      clear hx hS
      go_wp2_with fail
      exact ⟨⟨k + 1, by omega, by simp, by rw [hs.out, HSS.out, HX.out]⟩, by simp only [intOf]; omega⟩
    · have hkn : tk.take k = tk := List.take_of_length_le (by rw [HML.out]; omega)
      rw [hkn]
      clear hkn
      obtain ⟨S, hS⟩ : ∃ S : Nat, isum tk = S := ⟨(isum tk).toNat, by omega⟩
      rw [hS] at sb ⊢
      have HSS := Lib.hid hS
      obtain ⟨sb1, sb2⟩ := sb
      clear hS
      by_cases h0 : S = 0
      · subst h0
        go_wp2_with fail
        go_ret
        exact ⟨rfl, F2.bel⟩
      have q0 : ((S : Int) == 0) = false := by rw [beq_eq_false_iff_ne]; omega
      by_cases h100 : 100 < S
      · have q1 : decide ((100 : Int) < (S : Int)) = true := decide_eq_true (by omega)
        go_wp2_with fail
        go_ret
        exact ⟨rfl, F2.bel⟩
      have q1 : decide ((100 : Int) < (S : Int)) = false := decide_eq_false (by omega)
      have HO := Lib.hid (some1_of (l := tk) (by rw [HSS.out]; omega))
      have HP0 := Lib.hid (show ∀ j, j < tk.length → 0 ≤ nth tk j from fun j hj => (OK.out.2 j hj).1)
      obtain ⟨y, hy, hym⟩ : ∃ y : Nat, t0 % ((S : Int) + 1) = y ∧ y ≤ S := ⟨(t0 % ((S : Int) + 1)).toNat, by have := Int.emod_nonneg t0 (b := (S : Int) + 1) (by omega); omega, by have := Int.emod_lt_of_pos t0 (b := (S : Int) + 1) (by omega); omega⟩
      have HY := Lib.hid hy; clear hy
      go_wp2_with fail
      refine (within_any _ _ _ (by omega) (by omega)).mono ?_; rintro e w' ⟨rfl, rfl⟩
      rw [HY.out]
      obtain ⟨t, htt, ht2, ht3⟩ : ∃ t : Nat, t = S + y ∧ t ≤ 200 ∧ S ≤ t := ⟨_, rfl, by omega, by omega⟩
      have htt' : (S : Int) + (y : Int) = (t : Int) := by omega
      have HTT := Lib.hid htt'
      clear htt htt'
      go_wp2_with fail
      rw [HTT.out]
      refine (strRun_yes tk m t _ _ _ (F2.get 0 rfl) HML.out OK.out HO.out ht2).mono ?_; rintro e w3 ⟨ad3, cp3, rfl, hc3, hf⟩
      have F3 := F2.call hf
      clear F2 hf
      have q2 : ((t : Int) != (t : Int)) = false := by simp
      have hmk := make_ints m (by omega)
      go_wp2_with fail
      have F4 := F3.makeInts m (by omega)
      clear hmk q2 F3 q0 q1
      go_loopw [59] (fun i wr => ∃ k : Nat, k ≤ t ∧ i = .int .i64 k ∧ Fr w wr [⟨3, .slice (some ⟨w3.heap.size, 0, none⟩) m m, ints (hadAt tk (min k S))⟩, ⟨3, .slice ad3 t cp3, ints (runS tk t)⟩, ⟨3, .slice ad2 m cp2, ints tk⟩]) (fun i _ => t - (intOf i).toNat)
      case atStart =>
        refine ⟨0, by omega, rfl, ?_⟩
        rw [Nat.zero_min, hadAt, HML.out]; exact F4.sub (by simp)
      case round =>
        obtain ⟨k, hk, rfl, hfr⟩ := hrel
        clear F4
        by_cases hlt : k < t
        · obtain ⟨s1, s2, s3, s4, s5, s6⟩ := runS_at HO.out t k hlt
          obtain ⟨b3, o3, rfl, hb3, hc3⟩ := (hfr.get 1 rfl).int k (by rw [runS_len]; exact hlt)
          rw [s1] at hc3
          rw [HML.out] at s2
          by_cases hkS : k < S
          · rw [Nat.min_eq_left (by omega)] at hfr
            obtain ⟨g', e, hg1, hg2, hg3⟩ := hfr.openI (bst tk (hadAt tk k)) (by rw [hadAt_len, HML.out]; exact s2)
            cases e
            obtain ⟨B, hB⟩ : ∃ B, bst tk (hadAt tk k) = B := ⟨_, rfl⟩
            rw [hB] at s2 s3 s4 s5 s6 hc3 hg2 hg3
            obtain ⟨u, hu⟩ : ∃ u, nth (hadAt tk k) B = u := ⟨_, rfl⟩
            rw [hu] at s4 s5 s6 hg2
            have F5 := hfr.setInt B (u + 1)
            rw [← s4] at F5
            have HF5 := Lib.hid F5
            clear s1 s4 hB hu hfr F5 s3
            have d1 : (0 : Int) ≤ (B : Int) := by omega
            have d2 : (B : Int) < (m : Int) := by omega
            have d4 : decide ((B : Int) < 0) = false := decide_eq_false (by omega)
            have d5 : decide (m ≤ B) = false := decide_eq_false (by omega)
            have d6 : decide (S ≤ k) = false := decide_eq_false (by omega)
            have d7 : decide (k < S) = true := decide_eq_true (by omega)
            go_wp2_with fail
            go_roundw
            case rel => exact ⟨k + 1, by omega, by go_num, by rw [Nat.min_eq_left (by omega)]; exact HF5.out⟩
            case measure => simp only [intOf]; omega
          · rw [Nat.min_eq_right (by omega)] at hfr
            obtain ⟨j, hj⟩ : ∃ j, k = S + j := ⟨k - S, by omega⟩
            have ej : (k : Int) - (S : Int) = (j : Int) := by omega
            have hag := bst_again HP0.out HO.out j
            rw [HSS.out, Int.toNat_natCast, ← hj] at hag
            obtain ⟨_, _, e, _, hc4⟩ := (hfr.get 1 rfl).int j (by rw [runS_len]; omega)
            cases e
            rw [runS_nth _ _ _ (by omega), ← hag] at hc4
            obtain ⟨B, hB⟩ : ∃ B, bst tk (hadAt tk k) = B := ⟨_, rfl⟩
            rw [hB] at s2 hc3 hc4
            have d9 : j < t := by omega
            have d10 : (0 : Int) ≤ (j : Int) := by omega
            have d11 : (j : Int) < (t : Int) := by omega
            clear s1 s4 hB s3 s5 s6 hag hj
            have d1 : (0 : Int) ≤ (B : Int) := by omega
            have d2 : (B : Int) < (m : Int) := by omega
            have d4 : decide ((B : Int) < 0) = false := decide_eq_false (by omega)
            have d5 : decide (m ≤ B) = false := decide_eq_false (by omega)
            have d6 : decide (S ≤ k) = true := decide_eq_true (by omega)
            have d7 : decide (k < S) = false := decide_eq_false (by omega)
            have d8 : ((B : Int) != (B : Int)) = false := by simp
            go_wp2_with fail
            go_roundw
            case rel => exact ⟨k + 1, by omega, by go_num, by rw [Nat.min_eq_right (by omega)]; exact hfr⟩
            case measure => simp only [intOf]; omega
        · obtain rfl : k = t := by omega
          rw [Nat.min_eq_right (by omega)] at hfr
          have hr := hadAt_round HP0.out HO.out
          rw [HSS.out, Int.toNat_natCast] at hr
          rw [hr] at hfr
          clear hr
          go_wp2_with fail
          refine (slEqual tk tk m m _ _ _ _ _ (hfr.get 0 rfl) (hfr.get 2 rfl) HML.out HML.out (by omega) (by omega)).mono ?_; rintro e w7 ⟨rfl, hf⟩
          have F9 := hfr.keep hf.bel
          rw [decide_eq_true (rfl : tk = tk)]
          go_wp2_with fail
          go_ret
          exact ⟨rfl, F9.bel⟩
end Go.Proofs.Ytnjabochagahjaa
