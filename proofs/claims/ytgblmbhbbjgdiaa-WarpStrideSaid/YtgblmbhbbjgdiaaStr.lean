/- Contracts of package stride, at tickets that are right. -/
import Derived.Test.YtgblmbhbbjgdiaaStrM
import Derived.Test.YtgblmbhbbjgdiaaSlEq2
import Derived.Test.YtgblmbhbbjgdiaaArr4
namespace Go.Proofs.Ytgblmbhbbjgdiaa
open Go.RowKit

theorem mul_bd {a b m k : Int} (h1 : 0 ≤ a) (h2 : a ≤ m) (h3 : 0 ≤ b) (h4 : b ≤ k) (hm : 0 ≤ m) : 0 ≤ a * b ∧ a * b ≤ m * k := by
  refine ⟨Int.mul_nonneg h1 h3, ?_⟩
  exact Int.le_trans (Int.mul_le_mul_of_nonneg_right h2 h3) (Int.mul_le_mul_of_nonneg_left h4 hm)

set_option maxRecDepth 100000 in
set_option maxHeartbeats 2000000 in
theorem strNxt (l had : List Int) (n : Nat) (a b : Option Addr) (ca cb : Nat) (w : World) (h : Sa w a (ints l)) (h' : Sa w b (ints had)) (hn : l.length = n) (hn' : had.length = n) (hp : TkOk l)
    (hh : ∀ j, j < n → 0 ≤ nth had j ∧ nth had j ≤ 1000000000) :
    Calls Try.prog 60 #[.slice a n ca, .slice b n cb] w fun e w' => e = .returned (.int .i64 (bestL l had n)) ∧ Fr w w' [] := by
  have hn8 := hp.1
  rw [hn] at hn8
  have HN := Lib.hid hn; have HN' := Lib.hid hn'; have HS := Lib.hid h; have HS' := Lib.hid h'; have HP := Lib.hid hp; have HH := Lib.hid hh
  clear hn hn' h h' hp hh
  go_enter Try.func60, Try.ntmps60
  go_wp2_with fail
  go_loopw [5, 10] (fun be i wr => ∃ k : Nat, k ≤ n ∧ i = .int .i64 k ∧ be = .int .i64 (bestL l had k) ∧ Fr w wr []) (fun _ i _ => n - (intOf i).toNat)
  case atStart => exact ⟨0, by omega, rfl, rfl, Fr.start w⟩
  case round =>
    obtain ⟨k, hk, rfl, rfl, hfr⟩ := hrel
    by_cases hlt : k < n
    · obtain ⟨b1, o1, rfl, hb1, hc1⟩ := (hfr.old HS.out).int k (by rw [HN.out]; exact hlt)
      obtain ⟨p1, p2⟩ := HP.out.2 k (by rw [HN.out]; exact hlt)
      have hbd := bestL_lt l had k
      have hst : (0 < nth l k ∧ (bestL l had k < 0 ∨ nth had k * nth l (bestL l had k).toNat < nth had (bestL l had k).toNat * nth l k) → bestL l had (k + 1) = k) ∧ (¬ (0 < nth l k ∧ (bestL l had k < 0 ∨ nth had k * nth l (bestL l had k).toNat < nth had (bestL l had k).toNat * nth l k)) → bestL l had (k + 1) = bestL l had k) :=
        ⟨fun h => if_pos h, fun h => if_neg h⟩
      obtain ⟨x, hx⟩ : ∃ x, nth l k = x := ⟨_, rfl⟩
      rw [hx] at hc1 p1 p2 hst
      obtain ⟨B, hB⟩ : ∃ B, bestL l had k = B := ⟨_, rfl⟩
      rw [hB] at hst hbd ⊢
      clear hx hB
      have d1 : (0 : Int) ≤ (k : Int) := by omega
      have d2 : (k : Int) < (n : Int) := by omega
      have HF := Lib.hid hfr
      clear hfr
      by_cases hx0 : 0 < x
      · have c1 : decide (0 < x) = true := decide_eq_true hx0
        by_cases hB0 : B < 0
        · have c2 : decide (B < 0) = true := decide_eq_true hB0
          replace hst := hst.1 ⟨hx0, .inl hB0⟩
          have HST := Lib.hid hst
          clear hst
          go_wp2_with fail
          go_quiet (fail)
          go_wp2_with fail
          go_roundw
          case rel => exact ⟨k + 1, by omega, by go_num, val_int HST.out.symm, HF.out.drewN _⟩
          case measure => simp only [intOf]; omega
        · obtain ⟨β, rfl⟩ : ∃ β : Nat, B = β := ⟨B.toNat, by omega⟩
          simp only [Int.toNat_natCast] at hst
          have hβ : β < k := by omega
          obtain ⟨b2, o2, rfl, hb2, hc2⟩ := (HF.out.old HS'.out).int k (by rw [HN'.out]; exact hlt)
          have hc3 := ((HF.out.old HS'.out).int β (by rw [HN'.out]; omega))
          have hc4 := ((HF.out.old HS.out).int β (by rw [HN.out]; omega))
          obtain ⟨_, _, e3, _, hc3⟩ := hc3
          obtain ⟨_, _, e4, _, hc4⟩ := hc4
          cases e3
          cases e4
          obtain ⟨r1, r2⟩ := HH.out k hlt
          obtain ⟨r3, r4⟩ := HH.out β (by omega)
          obtain ⟨r5, r6⟩ := HP.out.2 β (by rw [HN.out]; omega)
          generalize nth had k = hk' at *
          generalize nth had β = hb' at *
          generalize nth l β = lb' at *
          have m1 := mul_bd r1 r2 r5 r6 (by omega)
          have m2 := mul_bd r3 r4 p1 p2 (by omega)
          obtain ⟨q1, P1⟩ : ∃ q, hk' * lb' = q := ⟨_, rfl⟩
          obtain ⟨q2, P2⟩ : ∃ q, hb' * x = q := ⟨_, rfl⟩
          rw [P1] at m1 hst
          rw [P2] at m2 hst
          obtain ⟨m11, m12⟩ := m1
          obtain ⟨m21, m22⟩ := m2
          have c2 : decide ((β : Int) < 0) = false := decide_eq_false (by omega)
          have d3 : (0 : Int) ≤ (β : Int) := by omega
          have d4 : (β : Int) < (n : Int) := by omega
          by_cases hq : q1 < q2
          · have c3 : decide (q1 < q2) = true := decide_eq_true hq
            replace hst := hst.1 ⟨hx0, .inr hq⟩
            have HST := Lib.hid hst
            clear hst hbd
            go_wp2_with fail
            go_quiet (fail)
            go_wp2_with fail
            go_roundw
            case rel => exact ⟨k + 1, by omega, by go_num, val_int HST.out.symm, HF.out.drewN _⟩
            case measure => simp only [intOf]; omega
          · have c3 : decide (q1 < q2) = false := decide_eq_false hq
            replace hst := hst.2 (by omega)
            have HST := Lib.hid hst
            clear hst hbd
            go_wp2_with fail
            go_quiet (fail)
            go_wp2_with fail
            go_roundw
            case rel => exact ⟨k + 1, by omega, by go_num, val_int HST.out.symm, HF.out.drewN _⟩
            case measure => simp only [intOf]; omega
      · have c1 : decide (0 < x) = false := decide_eq_false hx0
        replace hst := hst.2 (by omega)
        have HST := Lib.hid hst
        clear hst
        go_wp2_with fail
        go_quiet (fail)
        go_wp2_with fail
        go_roundw
        case rel => exact ⟨k + 1, by omega, by go_num, val_int HST.out.symm, HF.out.drewN _⟩
        case measure => simp only [intOf]; omega
    · obtain rfl : k = n := by omega
      go_wp2_with fail
      go_ret
      exact ⟨rfl, hfr⟩

def NxSaid (B : Int) (w : World) (e : Ending) (w' : World) : Prop :=
  ((B < 0 ∧ e = .returned (.tuple #[.int .i64 0, .int .i64 4])) ∨ (0 ≤ B ∧ e = .returned (.tuple #[.int .i64 B, .int .i64 0]))) ∧ Fr w w' []
set_option maxRecDepth 100000 in
set_option maxHeartbeats 2000000 in
theorem strNext (l had : List Int) (n : Nat) (a b : Option Addr) (ca cb : Nat) (w : World) (h : Sa w a (ints l)) (h' : Sa w b (ints had)) (hn : l.length = n) (hn' : had.length = n) (hp : TkOk l)
    (hh : ∀ j, j < n → 0 ≤ nth had j ∧ nth had j ≤ 1000000000) :
    Calls Try.prog 52 #[.slice a n ca, .slice b n cb] w (NxSaid (bestL l had n) w) := by
  have hn8 := hp.1
  rw [hn] at hn8
  have HN := Lib.hid hn; have HN' := Lib.hid hn'; have HS := Lib.hid h; have HS' := Lib.hid h'; have HP := Lib.hid hp; have HH := Lib.hid hh
  clear hn hn' h h' hp hh
  go_enter Try.func52, Try.ntmps52
  go_wp2_with fail
  refine (lotChk l n _ _ _ HS.out HN.out HP.out).mono ?_; rintro e w' ⟨rfl, rfl⟩
  have q0 : ((n : Int) != (n : Int)) = false := by simp
  go_wp2_with fail
  go_loop [22] (fun i => ∃ k : Nat, k ≤ n ∧ i = .int .i64 k) (fun i => n - (intOf i).toNat)
  case atStart => exact ⟨0, by omega, rfl⟩
  case round =>
    obtain ⟨k, hk, rfl⟩ := hrel
    by_cases hlt : k < n
    · obtain ⟨b', off, rfl, hb, hc⟩ := HS'.out.int k (by rw [HN'.out]; exact hlt)
      obtain ⟨p1, p2⟩ := HH.out k hlt
      generalize nth had k = x at *
      go_wp2_with fail
      exact ⟨⟨k + 1, by omega, by simp⟩, by simp only [intOf]; omega⟩
    · go_wp2_with fail
      refine (strNxt l had n _ _ _ _ _ HS.out HS'.out HN.out HN'.out HP.out HH.out).mono ?_; rintro e w1 ⟨rfl, hf⟩
      have hbd := bestL_lt l had n
      obtain ⟨B, hB⟩ : ∃ B, bestL l had n = B := ⟨_, rfl⟩
      rw [hB] at hbd ⊢
      have HB := Lib.hid hB
      clear hB
      obtain ⟨hb1, hb2⟩ := hbd
      by_cases hB : B < 0
      · go_wp2_with fail
        go_ret2
        rw [HB.out]; exact ⟨.inl ⟨hB, rfl⟩, hf⟩
      · go_wp2_with fail
        go_ret2
        rw [HB.out]; exact ⟨.inr ⟨by omega, rfl⟩, hf⟩

set_option maxRecDepth 100000 in
set_option maxHeartbeats 2000000 in
theorem strRun_yes (l : List Int) (n t : Nat) (a : Option Addr) (ca : Nat) (w : World) (h : Sa w a (ints l)) (hn : l.length = n) (hp : TkOk l) (hs : Some1 l) (ht : t ≤ 200) :
    Calls Try.prog 31 #[.slice a n ca, .int .i64 t] w (OneSl (runS l t) t 0 w) := by
  have hn8 := hp.1
  rw [hn] at hn8
  have HN := Lib.hid hn; have HS := Lib.hid h; have HP := Lib.hid hp; have HO := Lib.hid hs
  clear hn h hp hs
  have hmk := make_ints n (by omega)
  go_enter Try.func31, Try.ntmps31
  go_wp2_with fail
  refine (lotChk l n _ _ _ HS.out HN.out HP.out).mono ?_; rintro e w' ⟨rfl, rfl⟩
  have F1 := (Fr.start w).makeInts n (by omega)
  go_wp2_with fail
  clear hmk
  go_loopw [8, 26] (fun o i wr => ∃ (k : Nat) (ad : Option Addr) (cp : Nat), k ≤ t ∧ i = .int .i64 k ∧ o = .slice ad k cp ∧ Fr w wr [⟨3, .slice ad k cp, ints (runS l k)⟩, ⟨3, .slice (some ⟨w.heap.size, 0, none⟩) n n, ints (hadAt l k)⟩]) (fun _ i _ => t - (intOf i).toNat)
  case atStart =>
    refine ⟨0, none, 0, by omega, rfl, rfl, ?_⟩
    rw [hadAt, HN.out]
    exact F1.nilSlice _
  case round =>
    obtain ⟨k, ad, cp, hk, rfl, rfl, hfr⟩ := hrel
    clear F1
    by_cases hlt : k < t
    · obtain ⟨s1, s2, s3, _⟩ := bst_of (had := hadAt l k) HO.out
      have fa := fair_at HO.out k
      have hpos := fa.pos
      rw [HN.out] at s1 hpos
      have HLH : Hid ((hadAt l k).length = n) := Lib.hid (by rw [hadAt_len]; exact HN.out)
      have HPOS : Hid (∀ j, j < n → 0 ≤ nth (hadAt l k) j ∧ nth (hadAt l k) j ≤ 1000000000) := Lib.hid fun j hj => by have := hpos j hj; omega
      have hp2 := hpos (bst l (hadAt l k)) (by rw [← HN.out]; exact s2)
      have hha : hadAt l (k + 1) = (hadAt l k).set (bst l (hadAt l k)) (nth (hadAt l k) (bst l (hadAt l k)) + 1) := rfl
      have hru := runS_succ l k
      rw [HN.out] at s2
      obtain ⟨B, hB⟩ : ∃ B, bst l (hadAt l k) = B := ⟨_, rfl⟩
      rw [hB] at s1 s2 hp2 hha hru
      obtain ⟨u, hu⟩ : ∃ u, nth (hadAt l k) B = u := ⟨_, rfl⟩
      rw [hu] at hp2 hha
      have HU := Lib.hid hu
      have HS1 := Lib.hid s1; have HHA := Lib.hid hha; have HRU := Lib.hid hru
      have HF := Lib.hid hfr
      obtain ⟨u1, u2⟩ := hp2
      clear hB hu fa hpos hha hru hfr s1 s3
      go_wp2_with fail
      refine (strNext l (hadAt l k) n _ _ _ _ _ (HF.out.old HS.out) (HF.out.get 1 rfl) HN.out HLH.out HP.out HPOS.out).mono ?_; rintro e w1 ⟨he, hf⟩
      rw [HS1.out] at he
      rcases he with ⟨he, _⟩ | ⟨_, rfl⟩
      · omega
      have F2 := HF.out.keep hf.bel
      obtain ⟨g', e, hg1, hg2, hg3⟩ := F2.swap.openI B (by rw [HLH.out]; exact s2)
      cases e
      rw [HU.out] at hg2
      have F3 := (F2.swap.setInt B (u + 1)).swap
      have HF3 := Lib.hid F3
      clear F2 F3 hf HF
      have d1 : (0 : Int) ≤ (B : Int) := by omega
      have d2 : (B : Int) < (n : Int) := by omega
      go_wp2_with (with_reducible refine at_slot 46 ?_; go_must (refine wpList_pushInt' rfl _ _ rfl ad k cp _ (B : Int) _ _ (by simp) rfl HF3.out rfl ?_ ?_); rotate_left; intro ad' cp' w3 hf2 hlt2)
      · rw [← HRU.out, ← HHA.out] at hf2
        exact ⟨⟨k + 1, ad', cp', by omega, by simp, rfl, hf2⟩, by simp only [intOf]; omega⟩
      · omega
    · obtain rfl : k = t := by omega
      go_wp2_with fail
      go_ret2
      exact ⟨_, _, rfl, hfr.cap, hfr.sub (by simp)⟩

def NoSaid (t : Nat) (w : World) (e : Ending) (w' : World) : Prop :=
  ((t = 0 ∧ e = .returned (.tuple #[.slice none 0 0, .int .i64 0])) ∨ (0 < t ∧ e = .returned (.tuple #[.slice none 0 0, .int .i64 4]))) ∧ Fr w w' []
set_option maxRecDepth 100000 in
set_option maxHeartbeats 2000000 in
theorem strRun_no (l : List Int) (n t : Nat) (a : Option Addr) (ca : Nat) (w : World) (h : Sa w a (ints l)) (hn : l.length = n) (hp : TkOk l) (hs : ¬ Some1 l) (ht : t ≤ 200) :
    Calls Try.prog 31 #[.slice a n ca, .int .i64 t] w (NoSaid t w) := by
  have hn8 := hp.1
  rw [hn] at hn8
  have hno : ∀ had, bestL l had n = -1 := fun had => bestL_no l had n (fun j hj => by
    rcases Int.lt_or_le 0 (nth l j) with h1 | h1
    · exact absurd ⟨j, by rw [hn]; exact hj, h1⟩ hs
    · exact h1)
  have HN := Lib.hid hn; have HS := Lib.hid h; have HP := Lib.hid hp; have HO := Lib.hid hno
  clear hn h hp hs hno
  have hmk := make_ints n (by omega)
  go_enter Try.func31, Try.ntmps31
  go_wp2_with fail
  refine (lotChk l n _ _ _ HS.out HN.out HP.out).mono ?_; rintro e w' ⟨rfl, rfl⟩
  have F1 := (Fr.start w).makeInts n (by omega)
  go_wp2_with fail
  clear hmk
  go_loopw [8, 26] (fun o i wr => i = .int .i64 0 ∧ o = .slice none 0 0 ∧ Fr w wr [⟨3, .slice (some ⟨w.heap.size, 0, none⟩) n n, ints (List.replicate n 0)⟩]) (fun _ _ _ => 0)
  case atStart => exact ⟨rfl, rfl, F1⟩
  case round =>
    obtain ⟨rfl, rfl, hfr⟩ := hrel
    clear F1
    by_cases h0 : t = 0
    · subst h0
      go_wp2_with fail
      go_ret2
      exact ⟨.inl ⟨rfl, rfl⟩, hfr.below⟩
    · have d1 : (0 : Int) < (t : Int) := by omega
      have hz : ∀ j, j < n → 0 ≤ nth (List.replicate n 0) j ∧ nth (List.replicate n 0) j ≤ 1000000000 := fun j hj => by rw [nth_rep _ _ _ hj]; omega
      have HZ := Lib.hid hz
      clear hz
      go_wp2_with fail
      refine (strNext l (List.replicate n 0) n _ _ _ _ _ (hfr.old HS.out) (hfr.get 0 rfl) HN.out (by simp) HP.out HZ.out).mono ?_; rintro e w1 ⟨he, hf⟩
      rw [HO.out] at he
      rcases he with ⟨_, rfl⟩ | ⟨he, _⟩
      rotate_left
      · omega
      have F2 := hfr.keep hf.bel
      go_wp2_with fail
      go_ret2
      exact ⟨.inr ⟨by omega, rfl⟩, F2.below⟩

set_option maxRecDepth 100000 in
theorem strides_any (w : World) : Calls Try.prog 30 #[] w fun e w' => e = .returned (.bool true) ∧ Below w.heap.size w w' := by
  have HP := Lib.hid (show TkOk [1, 2] from ⟨by decide, by decide⟩)
  have HO := Lib.hid (show Some1 [1, 2] from ⟨0, by decide, by decide⟩)
  have e1 : runS [1, 2] 3 = [0, 1, 1] := by decide
  have E1 := Lib.hid e1; clear e1
  go_enter Try.func30, Try.ntmps30
  go_wp2_with fail
  have F1 := (Fr.start w).lit [1, 2] #[.int .i64 1, .int .i64 2] rfl 2 rfl (by omega) 3
  refine (strRun_yes [1, 2] 2 3 _ _ _ (F1.get 0 rfl) rfl HP.out HO.out (by omega)).mono ?_; rintro e w1 ⟨ad, cp, rfl, hcp, hf⟩
  rw [E1.out] at hf
  have F2 := F1.below.call hf
  clear F1 hf hcp
  go_wp2_with fail
  have F3 := F2.lit [0, 1, 1] #[.int .i64 0, .int .i64 1, .int .i64 1] rfl 3 rfl (by omega) 3
  refine (slEqual [0, 1, 1] [0, 1, 1] 3 3 _ _ _ _ _ (F3.get 1 rfl) (F3.get 0 rfl) rfl rfl (by omega) (by omega)).mono ?_; rintro e w2 ⟨rfl, hf⟩
  have F4 := F3.keep hf.bel
  rw [decide_eq_true (rfl : ([0, 1, 1] : List Int) = [0, 1, 1])]
  go_wp2_with fail
  go_ret
  exact ⟨rfl, F4.bel⟩
end Go.Proofs.Ytgblmbhbbjgdiaa
