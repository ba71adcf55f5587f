/- Contracts of package stride, at tickets that are right. -/
import Derived.Test.YtfompfaepabpgaaStrM
import Derived.Test.YtfompfaepabpgaaSlEq2
import Derived.Test.YtfompfaepabpgaaArr4
namespace Go.Proofs.Ytfompfaepabpgaa
open Go.RowKit

theorem mul_bd {a b m k : Int} (h1 : 0 ≤ a) (h2 : a ≤ m) (h3 : 0 ≤ b) (h4 : b ≤ k) (hm : 0 ≤ m) : 0 ≤ a * b ∧ a * b ≤ m * k := by
  refine ⟨Int.mul_nonneg h1 h3, ?_⟩
  exact Int.le_trans (Int.mul_le_mul_of_nonneg_right h2 h3) (Int.mul_le_mul_of_nonneg_left h4 hm)

set_option maxRecDepth 100000 in
set_option maxHeartbeats 2000000 in
theorem strNxt (l had : List Int) (n : Nat) (a b : Option Addr) (ca cb : Nat) (w : World) (h : Sa w a (ints l)) (h' : Sa w b (ints had)) (hn : l.length = n) (hn' : had.length = n) (hp : TkOk l)
    (hh : ∀ j, j < n → 0 ≤ nth had j ∧ nth had j ≤ 1000000000) :
    Calls Try.prog 76 #[.slice a n ca, .slice b n cb] w fun e w' => e = .returned (.int .i64 (bestL l had n)) ∧ Fr w w' [] := by
  have hn8 := hp.1
  rw [hn] at hn8
  have HN := Lib.hid hn; have HN' := Lib.hid hn'; have HS := Lib.hid h; have HS' := Lib.hid h'; have HP := Lib.hid hp; have HH := Lib.hid hh
  clear hn hn' h h' hp hh
  go_enter Try.func76, Try.ntmps76
  go_wp2_with fail
  go_loopw [5, 10] (fun be i wr => ∃ k : Nat, k ≤ n ∧ i = .int .i64 k ∧ be = .int .i64 (bestL l had k) ∧ Fr w wr []) (fun _ i _ => n - (intOf i).toNat)
  case atStart => exact ⟨0, by omega, rfl, rfl, Fr.start w⟩
  case round =>
    obtain ⟨k, hk, rfl, rfl, hfr⟩ := hrel
    by_cases hlt : k < n
    · obtain ⟨b1, o1, rfl, hb1, hc1⟩ := (hfr.old HS.out).int k (by rw [HN.out]; exact hlt)
      obtain ⟨p1, p2⟩ := HP.out.2 k (by rw [HN.out]; exact hlt)
      have hbd := bestL_lt l had k
      have hst : (0 < nth l k ∧ (bestL l had k < 0 ∨ nth had k * nth l (bestL l had k).toNat < nth had (bestL l had k).toNat * nth l k) → bestL l had (k + 1) = k) ∧ (¬ (0 < nth l k ∧ (bestL l had k < 0 ∨ nth had k * nth l (bestL l had k).toNat < nth had (bestL l had k).toNat * nth l k)) → bestL l had (k + 1) = bestL l had k) :=
        ⟨fun h => if_pos h, fun h => if_neg h⟩
      obtain ⟨x, hx⟩ : ∃ x, nth l k = x := ⟨_, rfl⟩
      rw [hx] at hc1 p1 p2 hst
      obtain ⟨B, hB⟩ : ∃ B, bestL l had k = B := ⟨_, rfl⟩
      rw [hB] at hst hbd ⊢
      clear hx hB
      have d1 : (0 : Int) ≤ (k : Int) := by omega
      have d2 : (k : Int) < (n : Int) := by omega
      have HF := Lib.hid hfr
      clear hfr
      by_cases hx0 : 0 < x
      · have c1 : decide (0 < x) = true := decide_eq_true hx0
        by_cases hB0 : B < 0
        · have c2 : decide (B < 0) = true := decide_eq_true hB0
          replace hst := hst.1 ⟨hx0, .inl hB0⟩
          have HST := Lib.hid hst
          clear hst
          go_wp2_with fail
          go_quiet (fail)
          go_wp2_with fail
          go_roundw
          case rel => exact ⟨k + 1, by omega, by go_num, val_int HST.out.symm, HF.out.drewN _⟩
          case measure => simp only [intOf]; omega
        · obtain ⟨β, rfl⟩ : ∃ β : Nat, B = β := ⟨B.toNat, by omega⟩
          simp only [Int.toNat_natCast] at hst
          have hβ : β < k := by omega
          obtain ⟨b2, o2, rfl, hb2, hc2⟩ := (HF.out.old HS'.out).int k (by rw [HN'.out]; exact hlt)
          have hc3 := ((HF.out.old HS'.out).int β (by rw [HN'.out]; omega))
          have hc4 := ((HF.out.old HS.out).int β (by rw [HN.out]; omega))
          obtain ⟨_, _, e3, _, hc3⟩ := hc3
          obtain ⟨_, _, e4, _, hc4⟩ := hc4
          cases e3
          cases e4
          obtain ⟨r1, r2⟩ := HH.out k hlt
          obtain ⟨r3, r4⟩ := HH.out β (by omega)
          obtain ⟨r5, r6⟩ := HP.out.2 β (by rw [HN.out]; omega)
          generalize nth had k = hk' at *
          generalize nth had β = hb' at *
          generalize nth l β = lb' at *
          have m1 := mul_bd r1 r2 r5 r6 (by omega)
          have m2 := mul_bd r3 r4 p1 p2 (by omega)
          obtain ⟨q1, P1⟩ : ∃ q, hk' * lb' = q := ⟨_, rfl⟩
          obtain ⟨q2, P2⟩ : ∃ q, hb' * x = q := ⟨_, rfl⟩
          rw [P1] at m1 hst
          rw [P2] at m2 hst
          obtain ⟨m11, m12⟩ := m1
          obtain ⟨m21, m22⟩ := m2
          have c2 : decide ((β : Int) < 0) = false := decide_eq_false (by omega)
          have d3 : (0 : Int) ≤ (β : Int) := by omega
          have d4 : (β : Int) < (n : Int) := by omega
          by_cases hq : q1 < q2
          · have c3 : decide (q1 < q2) = true := decide_eq_true hq
            replace hst := hst.1 ⟨hx0, .inr hq⟩
            have HST := Lib.hid hst
            clear hst hbd
            go_wp2_with fail
            go_quiet (fail)
            go_wp2_with fail
            go_roundw
            case rel => exact ⟨k + 1, by omega, by go_num, val_int HST.out.symm, HF.out.drewN _⟩
            case measure => simp only [intOf]; omega
          · have c3 : decide (q1 < q2) = false := decide_eq_false hq
            replace hst := hst.2 (by omega)
            have HST := Lib.hid hst
            clear hst hbd
            go_wp2_with fail
            go_quiet (fail)
            go_wp2_with fail
            go_roundw
            case rel => exact ⟨k + 1, by omega, by go_num, val_int HST.out.symm, HF.out.drewN _⟩
            case measure => simp only [intOf]; omega
      · have c1 : decide (0 < x) = false := decide_eq_false hx0
        replace hst := hst.2 (by omega)
        have HST := Lib.hid hst
        clear hst
        go_wp2_with fail
        go_quiet (fail)
        go_wp2_with fail
        go_roundw
        case rel => exact ⟨k + 1, by omega, by go_num, val_int HST.out.symm, HF.out.drewN _⟩
        case measure => simp only [intOf]; omega
    · obtain rfl : k = n := by omega
      go_wp2_with fail
      go_ret
      exact ⟨rfl, hfr⟩

def NxSaid (B : Int) (w : World) (e : Ending) (w' : World) : Prop :=
  ((B < 0 ∧ e = .returned (.tuple #[.int .i64 0, .int .i64 4])) ∨ (0 ≤ B ∧ e = .returned (.tuple #[.int .i64 B, .int .i64 0]))) ∧ Fr w w' []
set_option maxRecDepth 100000 in
set_option maxHeartbeats 2000000 in
theorem strNext (l had : List Int) (n : Nat) (a b : Option Addr) (ca cb : Nat) (w : World) (h : Sa w a (ints l)) (h' : Sa w b (ints had)) (hn : l.length = n) (hn' : had.length = n) (hp : TkOk l)
    (hh : ∀ j, j < n → 0 ≤ nth had j ∧ nth had j ≤ 1000000000) :
    Calls Try.prog 49 #[.slice a n ca, .slice b n cb] w (NxSaid (bestL l had n) w) := by
  have hn8 := hp.1
  rw [hn] at hn8
  have HN := Lib.hid hn; have HN' := Lib.hid hn'; have HS := Lib.hid h; have HS' := Lib.hid h'; have HP := Lib.hid hp; have HH := Lib.hid hh
  clear hn hn' h h' hp hh
  go_enter Try.func49, Try.ntmps49
  go_wp2_with fail
  refine (lotChk l n _ _ _ HS.out HN.out HP.out).mono ?_; rintro e w' ⟨rfl, rfl⟩
  have q0 : ((n : Int) != (n : Int)) = false := by simp
  go_wp2_with fail
  go_loop [22] (fun i => ∃ k : Nat, k ≤ n ∧ i = .int .i64 k) (fun i => n - (intOf i).toNat)
  case atStart => exact ⟨0, by omega, rfl⟩
  case round =>
    obtain ⟨k, hk, rfl⟩ := hrel
    by_cases hlt : k < n
    · obtain ⟨b', off, rfl, hb, hc⟩ := HS'.out.int k (by rw [HN'.out]; exact hlt)
      obtain ⟨p1, p2⟩ := HH.out k hlt
      generalize nth had k = x at *
      go_wp2_with fail
      exact ⟨⟨k + 1, by omega, by simp⟩, by simp only [intOf]; omega⟩
    · go_wp2_with fail
      refine (strNxt l had n _ _ _ _ _ HS.out HS'.out HN.out HN'.out HP.out HH.out).mono ?_; rintro e w1 ⟨rfl, hf⟩
      have hbd := bestL_lt l had n
      obtain ⟨B, hB⟩ : ∃ B, bestL l had n = B := ⟨_, rfl⟩
      rw [hB] at hbd ⊢
      have HB := Lib.hid hB
      clear hB
      obtain ⟨hb1, hb2⟩ := hbd
      by_cases hB : B < 0
      · go_wp2_with fail
        go_ret2
        rw [HB.out]; exact ⟨.inl ⟨hB, rfl⟩, hf⟩
      · go_wp2_with fail
        go_ret2
        rw [HB.out]; exact ⟨.inr ⟨by omega, rfl⟩, hf⟩

def NoSaid (t : Nat) (w : World) (e : Ending) (w' : World) : Prop :=
  ((t = 0 ∧ e = .returned (.tuple #[.slice none 0 0, .int .i64 0])) ∨ (0 < t ∧ e = .returned (.tuple #[.slice none 0 0, .int .i64 4]))) ∧ Fr w w' []
end Go.Proofs.Ytfompfaepabpgaa
