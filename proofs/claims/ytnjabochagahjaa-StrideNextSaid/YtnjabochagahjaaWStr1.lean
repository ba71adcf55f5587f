/- The walks of the laws StrideFair and StrideMore. -/
import Derived.Test.YtnjabochagahjaaStr
namespace Go.Proofs.Ytnjabochagahjaa
open Go.RowKit

theorem runS_at {l : List Int} (hs : Some1 l) (t k : Nat) (hk : k < t) : nth (runS l t) k = bst l (hadAt l k) ∧ bst l (hadAt l k) < l.length ∧ 0 < nth l (bst l (hadAt l k)) ∧
    hadAt l (k + 1) = (hadAt l k).set (bst l (hadAt l k)) (nth (hadAt l k) (bst l (hadAt l k)) + 1) ∧ 0 ≤ nth (hadAt l k) (bst l (hadAt l k)) ∧ nth (hadAt l k) (bst l (hadAt l k)) ≤ k := by
  obtain ⟨_, s2, s3, _⟩ := bst_of (had := hadAt l k) hs
  have := (fair_at hs k).pos _ s2
  exact ⟨runS_nth _ _ _ hk, s2, s3, rfl, this.1, this.2⟩

set_option maxRecDepth 100000 in
set_option maxHeartbeats 8000000 in
theorem strideFair_any (l : List Int) (n : Nat) (a : Option Addr) (cap : Nat) (t0 : Int) (w : World) (h : Sa w a (ints l)) (hn : l.length = n) (hc : n ≤ cap) (hm : n ≤ maxLen) :
    Calls Try.prog 10 #[.slice a n cap, .int .i64 t0] w fun e w' => e = .returned (.bool true) ∧ Below w.heap.size w w' := by
  have HN := Lib.hid hn; have HS := Lib.hid h; have HM := Lib.hid hm
  obtain ⟨t, ht, htm⟩ : ∃ t : Nat, t0 % 201 = t ∧ t ≤ 200 := ⟨(t0 % 201).toNat, by omega, by omega⟩
  have HT := Lib.hid ht
  clear hn h hm ht
  go_enter Try.func10, Try.ntmps10
  go_wp2_with fail
  refine (strides_any _).mono ?_; rintro e w1 ⟨rfl, hb⟩
  have F1 := (Fr.start w).keep hb
  clear hb
  go_wp2_with fail
  refine (tickets_any l n _ _ _ (F1.old HS.out) HN.out hc HM.out).mono ?_; rintro e w2 ⟨ad2, m, cp2, rfl, hm, hc2, hf⟩
  have F2 := F1.call hf
  have HML := Lib.hid hm
  have ok := tkL_ok l
  have OK := Lib.hid ok
  clear F1 hf hm ok
  generalize tkL l = tk at *
  have m8 : m ≤ 8 := by have := OK.out.1; rw [HML.out] at this; exact this
  go_wp2_with fail
  refine (within_any _ _ _ (by omega) (by omega)).mono ?_; rintro e w' ⟨rfl, rfl⟩
  rw [HT.out]
  go_wp2_with fail
  by_cases hs : Some1 tk
  · have HO := Lib.hid hs
    clear hs
    refine (strRun_yes tk m t _ _ _ (F2.get 0 rfl) HML.out OK.out HO.out htm).mono ?_; rintro e w3 ⟨ad3, cp3, rfl, hc3, hf⟩
    have F3 := F2.call hf
    clear F2 hf
    have q0 : ((t : Int) != (t : Int)) = false := by simp
    have hmk := make_ints m (by omega)
    go_wp2_with fail
    have F4 := F3.makeInts m (by omega)
    clear hmk q0 F3
    go_loopw [45] (fun i wr => ∃ k : Nat, k ≤ t ∧ i = .int .i64 k ∧ Fr w wr [⟨3, .slice (some ⟨w3.heap.size, 0, none⟩) m m, ints (hadAt tk k)⟩, ⟨3, .slice ad3 t cp3, ints (runS tk t)⟩, ⟨3, .slice ad2 m cp2, ints tk⟩]) (fun i _ => t - (intOf i).toNat)
    case atStart =>
      refine ⟨0, by omega, rfl, ?_⟩
      rw [hadAt, HML.out]; exact F4.sub (by simp)
    case round =>
      obtain ⟨k, hk, rfl, hfr⟩ := hrel
      clear F4
      by_cases hlt : k < t
      · obtain ⟨s1, s2, s3, s4, s5, s6⟩ := runS_at HO.out t k hlt
        have FA := Lib.hid (fair_at HO.out (k + 1))
        obtain ⟨b3, o3, rfl, hb3, hc3⟩ := (hfr.get 1 rfl).int k (by rw [runS_len]; exact hlt)
        obtain ⟨b2, o2, rfl, hb2, hc2⟩ := (hfr.get 2 rfl).int (bst tk (hadAt tk k)) s2
        obtain ⟨g', e, hg1, hg2, hg3⟩ := hfr.openI (bst tk (hadAt tk k)) (by rw [hadAt_len]; exact s2)
        cases e
        rw [s1] at hc3
        rw [HML.out] at s2
        obtain ⟨B, hB⟩ : ∃ B, bst tk (hadAt tk k) = B := ⟨_, rfl⟩
        rw [hB] at s2 s3 s4 s5 s6 hc3 hc2 hg2 hg3
        obtain ⟨u, hu⟩ : ∃ u, nth (hadAt tk k) B = u := ⟨_, rfl⟩
        rw [hu] at s4 s5 s6 hg2
        obtain ⟨x, hx⟩ : ∃ x, nth tk B = x := ⟨_, rfl⟩
        rw [hx] at s3 hc2
        have F5 := hfr.setInt B (u + 1)
        rw [← s4] at F5
        have HF5 := Lib.hid F5
        clear s1 s4 hB hu hx hfr F5
        have d1 : (0 : Int) ≤ (B : Int) := by omega
        have d2 : (B : Int) < (m : Int) := by omega
        have d3 : (x == 0) = false := by rw [beq_eq_false_iff_ne]; omega
        have d4 : decide ((B : Int) < 0) = false := decide_eq_false (by omega)
        have d5 : decide (m ≤ B) = false := decide_eq_false (by omega)
        go_wp2_with fail
        clear hc2 hc3 hg2 hg3 d3 s3
        go_loopw [72] (fun i wr => ∃ i' : Nat, i' ≤ m ∧ i = .int .i64 i' ∧ Fr w wr [⟨3, .slice (some ⟨w3.heap.size, 0, none⟩) m m, ints (hadAt tk (k + 1))⟩, ⟨3, .slice (some ⟨b3, o3, none⟩) t cp3, ints (runS tk t)⟩, ⟨3, .slice (some ⟨b2, o2, none⟩) m cp2, ints tk⟩]) (fun i _ => m - (intOf i).toNat)
        case atStart => exact ⟨0, by omega, rfl, HF5.out⟩
        case round =>
          obtain ⟨i, hi, rfl, hfr⟩ := hrel
          clear HF5
          by_cases hi' : i < m
          · go_wp2_with fail
            go_loopw [77] (fun j wr => ∃ j' : Nat, j' ≤ m ∧ j = .int .i64 j' ∧ Fr w wr [⟨3, .slice (some ⟨w3.heap.size, 0, none⟩) m m, ints (hadAt tk (k + 1))⟩, ⟨3, .slice (some ⟨b3, o3, none⟩) t cp3, ints (runS tk t)⟩, ⟨3, .slice (some ⟨b2, o2, none⟩) m cp2, ints tk⟩]) (fun j _ => m - (intOf j).toNat)
            case atStart => exact ⟨0, by omega, rfl, hfr⟩
            case round =>
              clear hfr
              obtain ⟨j, hj, rfl, hfr⟩ := hrel
              by_cases hj' : j < m
              · have fl := (FA.out).len
                obtain ⟨_, _, e1, _, ci⟩ := (hfr.get 2 rfl).int i (by rw [HML.out]; exact hi')
                obtain ⟨_, _, e2, _, cj⟩ := (hfr.get 2 rfl).int j (by rw [HML.out]; exact hj')
                obtain ⟨_, e3, _, hgi, _⟩ := hfr.openI i (by rw [fl, HML.out]; exact hi')
                obtain ⟨_, e4, _, hgj, _⟩ := hfr.openI j (by rw [fl, HML.out]; exact hj')
                cases e1; cases e2; cases e3; cases e4
                have fr := FA.out.fair i j (by rw [HML.out]; exact hi') (by rw [HML.out]; exact hj')
                obtain ⟨hi1, hi2⟩ := FA.out.pos i (by rw [HML.out]; exact hi')
                obtain ⟨hj1, hj2⟩ := FA.out.pos j (by rw [HML.out]; exact hj')
                obtain ⟨li1, li2⟩ := OK.out.2 i (by rw [HML.out]; exact hi')
                obtain ⟨lj1, lj2⟩ := OK.out.2 j (by rw [HML.out]; exact hj')
                generalize nth (hadAt tk (k + 1)) i = vi at *
                generalize nth (hadAt tk (k + 1)) j = vj at *
                generalize nth tk i = li at *
                generalize nth tk j = lj at *
                have HF := Lib.hid hfr
                clear hfr fl
                have d6 : (0 : Int) ≤ (i : Int) := by omega
                have d7 : (i : Int) < (m : Int) := by omega
                have d8 : (0 : Int) ≤ (j : Int) := by omega
                have d9 : (j : Int) < (m : Int) := by omega
                by_cases hli : 0 < li
                · have c1 : decide (0 < li) = true := decide_eq_true hli
                  by_cases hlj : 0 < lj
                  · have c2 : decide (0 < lj) = true := decide_eq_true hlj
                    replace fr := fr hli hlj
                    obtain ⟨q1, P1⟩ : ∃ q, (vi - 1) * lj = q := ⟨_, rfl⟩
                    obtain ⟨q2, P2⟩ : ∃ q, vj * li = q := ⟨_, rfl⟩
                    rw [P1, P2] at fr
                    have m1 := mul_bd (a := vi) (b := lj) (m := 201) (k := 100) hi1 (by omega) lj1 lj2 (by omega)
                    have m2 := mul_bd (a := vj) (b := li) (m := 201) (k := 100) hj1 (by omega) li1 li2 (by omega)
                    have m3 : q1 = vi * lj - lj := by rw [← P1, Int.sub_mul]; omega
                    rw [P2] at m2
                    obtain ⟨m21, m22⟩ := m2
                    have m4 : -100 ≤ q1 := by omega
                    have m5 : q1 ≤ 20100 := by omega
                    have c3 : decide (q2 < q1) = false := decide_eq_false (by omega)
                    clear m1 m3 fr
                    go_wp2_with fail
                    go_quiet (fail)
                    go_wp2_with fail
                    go_roundw
                    case rel => exact ⟨j + 1, by omega, by go_num, HF.out.drewN _⟩
                    case measure => simp only [intOf]; omega
                  · have c2 : decide (0 < lj) = false := decide_eq_false hlj
                    clear fr
                    go_wp2_with fail
                    go_quiet (fail)
                    go_wp2_with fail
                    go_roundw
                    case rel => exact ⟨j + 1, by omega, by go_num, HF.out.drewN _⟩
                    case measure => simp only [intOf]; omega
                · have c1 : decide (0 < li) = false := decide_eq_false hli
                  clear fr
                  go_wp2_with fail
                  go_quiet (fail)
                  go_wp2_with fail
                  go_roundw
                  case rel => exact ⟨j + 1, by omega, by go_num, HF.out.drewN _⟩
                  case measure => simp only [intOf]; omega
              · go_wp2_with fail
                go_roundw
                case rel => exact ⟨i + 1, by omega, by go_num, hfr⟩
                case measure => simp only [intOf]; omega
          · go_wp2_with fail
            go_roundw
            case rel => exact ⟨k + 1, by omega, by go_num, hfr⟩
            case measure => simp only [intOf]; omega
      · go_wp2_with fail
        go_ret
        exact ⟨rfl, hfr.bel⟩
  · refine (strRun_no tk m t _ _ _ (F2.get 0 rfl) HML.out OK.out hs htm).mono ?_; rintro e w3 ⟨he, hf⟩
    have F3 := F2.keep hf.bel
    have hmk := make_ints m (by omega)
    have F4 := F3.makeInts m (by omega)
    clear hf F2
    rcases he with ⟨rfl, rfl⟩ | ⟨h0, rfl⟩
    · go_wp2_with fail
      clear hmk
      go_loopw [45] (fun i wr => i = .int .i64 0 ∧ Below w.heap.size w wr) (fun i _ => 0)
      case atStart => exact ⟨rfl, F4.bel⟩
      case round =>
        obtain ⟨rfl, hb⟩ := hrel
        go_wp2_with fail
        go_ret
        exact ⟨rfl, hb⟩
    · go_wp2_with fail
      go_ret
      exact ⟨rfl, F3.bel⟩
end Go.Proofs.Ytnjabochagahjaa
