/- Contract of lottery.Run. -/
import Derived.Test.YtnjabochagahjaaLotM
namespace Go.Proofs.Ytnjabochagahjaa
open Go.RowKit

set_option maxRecDepth 100000 in
set_option maxHeartbeats 2000000 in
theorem lotRun (l lots : List Int) (n m : Nat) (a b : Option Addr) (ca cb : Nat) (w : World) (h : Sa w a (ints l)) (h' : Sa w b (ints lots)) (hn : l.length = n) (hm : lots.length = m) (hp : TkOk l)
    (hl : ∀ j, j < m → 0 ≤ nth lots j ∧ nth lots j < isum l) (hm2 : m ≤ 200) :
    Calls Try.prog 30 #[.slice a n ca, .slice b m cb] w (OneSl (runL l lots) n 0 w) := by
  have hn8 := hp.1
  rw [hn] at hn8
  have HN := Lib.hid hn; have HM := Lib.hid hm; have HS := Lib.hid h; have HS' := Lib.hid h'; have HP := Lib.hid hp; have HL := Lib.hid hl
  have q1 : decide ((200 : Int) < (m : Int)) = false := decide_eq_false (by omega)
  clear hn hm h h' hp hl
  go_enter Try.func30, Try.ntmps30
  go_wp2_with fail
  refine (lotChk l n _ _ _ HS.out HN.out HP.out).mono ?_; rintro e w' ⟨rfl, rfl⟩
  have hmk := make_ints n (by omega)
  have F1 := (Fr.start w).makeInts n (by omega)
  go_wp2_with fail
  clear hmk
  go_loopw [25] (fun i wr => ∃ k : Nat, k ≤ m ∧ i = .int .i64 k ∧ Fr w wr [⟨3, .slice (some ⟨w.heap.size, 0, none⟩) n n, ints (runL l (lots.take k))⟩]) (fun i _ => m - (intOf i).toNat)
  case atStart =>
    refine ⟨0, by omega, rfl, ?_⟩
    rw [List.take_zero, runL_nil, HN.out]; exact F1
  case round =>
    obtain ⟨k, hk, rfl, hfr⟩ := hrel
    clear F1
    by_cases hlt : k < m
    · obtain ⟨b', off, rfl, hb, hc⟩ := (hfr.old HS'.out).int k (by rw [HM.out]; exact hlt)
      obtain ⟨p1, p2⟩ := HL.out k hlt
      have hs := take_nth lots k (by rw [HM.out]; exact hlt)
      obtain ⟨x, hx⟩ : ∃ x, nth lots k = x := ⟨_, rfl⟩
      rw [hx] at hc p1 p2 hs
      have wl := winL_lt l x p1 p2
      have hsn := runL_snoc l (lots.take k) x wl
      have hbd := runL_bd l (lots.take k) (winL l x) wl
      have hlen : (lots.take k).length = k := by rw [List.length_take, HM.out]; omega
      rw [hlen] at hbd
      obtain ⟨g', e, hg1, hg2, hg3⟩ := hfr.openI (winL l x) (by rw [runL_len]; exact wl)
      cases e
      rw [HN.out] at wl
      obtain ⟨u, hu⟩ : ∃ u, nth (runL l (lots.take k)) (winL l x) = u := ⟨_, rfl⟩
      rw [hu] at hg2 hbd hsn
      obtain ⟨hb1, hb2⟩ := hbd
      have P2 := Lib.hid p2
      have HSN := Lib.hid hsn; have HSS := Lib.hid hs
      obtain ⟨W, hW⟩ : ∃ W, winL l x = W := ⟨_, rfl⟩
      rw [hW] at wl hg2 hg3
      have HW := Lib.hid hW
      clear hx hu hsn hlen hs hW p2
      have d1 : (0 : Int) ≤ (k : Int) := by omega
      have d2 : (k : Int) < (m : Int) := by omega
      go_wp2_with fail
      refine (lotWinner l n _ _ x _ (hfr.old HS.out) HN.out HP.out p1 P2.out).mono ?_; rintro e w' ⟨rfl, rfl⟩
      rw [HW.out]
      have d3 : (0 : Int) ≤ (W : Int) := by omega
      have d4 : (W : Int) < (n : Int) := by omega
      have HFR := Lib.hid hfr
      clear hfr
      go_wp2_with fail
      go_roundw
      case rel =>
        refine ⟨k + 1, by omega, by go_num, ?_⟩
        have := HFR.out.setInt W (u + 1)
        rw [← HW.out, ← HSN.out, ← HSS.out] at this
        rw [HW.out] at this
        exact this
      case measure => simp only [intOf]; omega
    · go_wp2_with fail
      go_ret2
      rw [List.take_of_length_le (by rw [HM.out]; omega)] at hfr
      exact ⟨_, _, rfl, Nat.le_refl _, hfr⟩
end Go.Proofs.Ytnjabochagahjaa
