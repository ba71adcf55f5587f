/- The walk of the law StrideMore. -/
import Derived.Test.YtnjabochagahjaaWStr1
namespace Go.Proofs.Ytnjabochagahjaa
open Go.RowKit

set_option maxRecDepth 100000 in
set_option maxHeartbeats 8000000 in
theorem strideMore_any (l : List Int) (n : Nat) (a : Option Addr) (cap : Nat) (t0 : Int) (w : World) (h : Sa w a (ints l)) (hn : l.length = n) (hc : n ≤ cap) (hm : n ≤ maxLen) :
    Calls Try.prog 12 #[.slice a n cap, .int .i64 t0] w fun e w' => e = .returned (.bool true) ∧ Below w.heap.size w w' := by
  have HN := Lib.hid hn; have HS := Lib.hid h; have HM := Lib.hid hm
  obtain ⟨t, ht, htm⟩ : ∃ t : Nat, t0 % 201 = t ∧ t ≤ 200 := ⟨(t0 % 201).toNat, by omega, by omega⟩
  have HT := Lib.hid ht
  clear hn h hm ht
  go_enter Try.func12, Try.ntmps12
  go_wp2_with fail
  refine (strides_any _).mono ?_; rintro e w1 ⟨rfl, hb⟩
  have F1 := (Fr.start w).keep hb
  clear hb
  go_wp2_with fail
  refine (tickets_any l n _ _ _ (F1.old HS.out) HN.out hc HM.out).mono ?_; rintro e w2 ⟨ad2, m, cp2, rfl, hm, hc2, hf⟩
  have F2 := F1.call hf
  have HML := Lib.hid hm
  have ok := tkL_ok l
  have OK := Lib.hid ok
  clear F1 hf hm ok
  generalize tkL l = tk at *
  have m8 : m ≤ 8 := by have := OK.out.1; rw [HML.out] at this; exact this
  go_wp2_with fail
  refine (within_any _ _ _ (by omega) (by omega)).mono ?_; rintro e w' ⟨rfl, rfl⟩
  rw [HT.out]
  go_wp2_with fail
  by_cases hs : Some1 tk
  · have HO := Lib.hid hs
    clear hs
    refine (strRun_yes tk m t _ _ _ (F2.get 0 rfl) HML.out OK.out HO.out htm).mono ?_; rintro e w3 ⟨ad3, cp3, rfl, hc3, hf⟩
    have F3 := F2.call hf
    clear F2 hf
    have hmk := make_ints m (by omega)
    go_wp2_with fail
    have F4 := F3.makeInts m (by omega)
    clear hmk F3
    go_loopw [38] (fun i wr => ∃ k : Nat, k ≤ t ∧ i = .int .i64 k ∧ Fr w wr [⟨3, .slice (some ⟨w3.heap.size, 0, none⟩) m m, ints (hadAt tk k)⟩, ⟨3, .slice ad3 t cp3, ints (runS tk t)⟩, ⟨3, .slice ad2 m cp2, ints tk⟩]) (fun i _ => t - (intOf i).toNat)
    case atStart =>
      refine ⟨0, by omega, rfl, ?_⟩
      rw [hadAt, HML.out]; exact F4.sub (by simp)
    case round =>
      obtain ⟨k, hk, rfl, hfr⟩ := hrel
      clear F4
      by_cases hlt : k < t
      · obtain ⟨s1, s2, s3, s4, s5, s6⟩ := runS_at HO.out t k hlt
        have FA := Lib.hid (fair_at HO.out (k + 1))
        obtain ⟨b3, o3, rfl, hb3, hc3⟩ := (hfr.get 1 rfl).int k (by rw [runS_len]; exact hlt)
        obtain ⟨b2, o2, rfl, hb2, hc2⟩ := (hfr.get 2 rfl).int (bst tk (hadAt tk k)) s2
        obtain ⟨g', e, hg1, hg2, hg3⟩ := hfr.openI (bst tk (hadAt tk k)) (by rw [hadAt_len]; exact s2)
        cases e
        rw [s1] at hc3
        rw [HML.out] at s2
        obtain ⟨B, hB⟩ : ∃ B, bst tk (hadAt tk k) = B := ⟨_, rfl⟩
        rw [hB] at s2 s3 s4 s5 s6 hc3 hc2 hg2 hg3
        obtain ⟨u, hu⟩ : ∃ u, nth (hadAt tk k) B = u := ⟨_, rfl⟩
        rw [hu] at s4 s5 s6 hg2
        have HX := Lib.hid s3
        have F5 := hfr.setInt B (u + 1)
        rw [← s4] at F5
        have HF5 := Lib.hid F5
        clear s1 s4 hB hu hfr F5
        have d1 : (0 : Int) ≤ (B : Int) := by omega
        have d2 : (B : Int) < (m : Int) := by omega
        have d4 : decide ((B : Int) < 0) = false := decide_eq_false (by omega)
        have d5 : decide (m ≤ B) = false := decide_eq_false (by omega)
        go_wp2_with fail
        clear hc2 hc3 hg2 hg3 s3
        go_loopw [58] (fun i wr => ∃ i' : Nat, i' ≤ m ∧ i = .int .i64 i' ∧ Fr w wr [⟨3, .slice (some ⟨w3.heap.size, 0, none⟩) m m, ints (hadAt tk (k + 1))⟩, ⟨3, .slice (some ⟨b3, o3, none⟩) t cp3, ints (runS tk t)⟩, ⟨3, .slice (some ⟨b2, o2, none⟩) m cp2, ints tk⟩]) (fun i _ => m - (intOf i).toNat)
        case atStart => exact ⟨0, by omega, rfl, HF5.out⟩
        case round =>
          obtain ⟨i, hi, rfl, hfr⟩ := hrel
          clear HF5
          by_cases hi' : i < m
          · have fl := (FA.out).len
            obtain ⟨_, _, e1, _, ci⟩ := (hfr.get 2 rfl).int i (by rw [HML.out]; exact hi')
            obtain ⟨_, _, e2, _, cj⟩ := (hfr.get 2 rfl).int B (by rw [HML.out]; exact s2)
            obtain ⟨_, e3, _, hgi, _⟩ := hfr.openI i (by rw [fl, HML.out]; exact hi')
            obtain ⟨_, e4, _, hgj, _⟩ := hfr.openI B (by rw [fl, HML.out]; exact s2)
            cases e1; cases e2; cases e3; cases e4
            have fr := FA.out.more i B (by rw [HML.out]; exact hi') (by rw [HML.out]; exact s2) HX.out
            obtain ⟨hi1, hi2⟩ := FA.out.pos i (by rw [HML.out]; exact hi')
            obtain ⟨hj1, hj2⟩ := FA.out.pos B (by rw [HML.out]; exact s2)
            generalize nth (hadAt tk (k + 1)) i = vi at *
            generalize nth (hadAt tk (k + 1)) B = vj at *
            obtain ⟨li, hli⟩ : ∃ x, nth tk i = x := ⟨_, rfl⟩
            obtain ⟨lj, hlj⟩ : ∃ x, nth tk B = x := ⟨_, rfl⟩
            rw [hli] at ci fr
            rw [hlj] at cj fr
            have HF := Lib.hid hfr
            clear hfr fl hli hlj
            have d6 : (0 : Int) ≤ (i : Int) := by omega
            have d7 : (i : Int) < (m : Int) := by omega
            by_cases hle : lj ≤ li
            · have c1 : decide (lj ≤ li) = true := decide_eq_true hle
              have c2 : decide (vi + 1 < vj) = false := decide_eq_false (by have := fr hle; omega)
              clear fr
              go_wp2_with fail
              go_quiet (fail)
              go_wp2_with fail
              go_roundw
              case rel => exact ⟨i + 1, by omega, by go_num, HF.out.drewN _⟩
              case measure => simp only [intOf]; omega
            · have c1 : decide (lj ≤ li) = false := decide_eq_false hle
              clear fr
              go_wp2_with fail
              go_quiet (fail)
              go_wp2_with fail
              go_roundw
              case rel => exact ⟨i + 1, by omega, by go_num, HF.out.drewN _⟩
              case measure => simp only [intOf]; omega
          · go_wp2_with fail
            go_roundw
            case rel => exact ⟨k + 1, by omega, by go_num, hfr⟩
            case measure => simp only [intOf]; omega
      · go_wp2_with fail
        go_ret
        exact ⟨rfl, hfr.bel⟩
  · refine (strRun_no tk m t _ _ _ (F2.get 0 rfl) HML.out OK.out hs htm).mono ?_; rintro e w3 ⟨he, hf⟩
    have F3 := F2.keep hf.bel
    have hmk := make_ints m (by omega)
    have F4 := F3.makeInts m (by omega)
    clear hf F2
    rcases he with ⟨rfl, rfl⟩ | ⟨h0, rfl⟩
    · go_wp2_with fail
      clear hmk
      go_loopw [38] (fun i wr => i = .int .i64 0 ∧ Below w.heap.size w wr) (fun i _ => 0)
      case atStart => exact ⟨rfl, F4.bel⟩
      case round =>
        obtain ⟨rfl, hb⟩ := hrel
        go_wp2_with fail
        go_ret
        exact ⟨rfl, hb⟩
    · go_wp2_with fail
      go_ret
      exact ⟨rfl, F3.bel⟩
end Go.Proofs.Ytnjabochagahjaa
