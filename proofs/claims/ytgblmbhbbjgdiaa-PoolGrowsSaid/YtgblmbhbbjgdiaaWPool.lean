/- The walk of the law PoolGrows. -/
import Derived.Test.YtgblmbhbbjgdiaaPool
namespace Go.Proofs.Ytgblmbhbbjgdiaa
open Go.RowKit

theorem runK_take (k : Nat) (l : List Int) (m : Nat) : ∀ i, i ≤ m → runK k (l.take m) i = runK k l i
  | 0, _ => rfl
  | i + 1, h => by rw [runK, runK, runK_take k l m i (by omega), nth_take _ _ _ (by omega)]
theorem nd_adj {l : List Int} (h : Nd l) (n : Nat) (hn : l.length = n) : ∀ i, i + 1 < n → nth l i ≠ nth l (i + 1) := fun i hi e => by
  have := h i (i + 1) (by omega) (by omega) e; omega

def rawE (ad : Option Addr) (n cp : Nat) (l : List Int) : Ent := ⟨3, .slice ad n cp, ints l⟩
set_option maxRecDepth 100000 in
set_option maxHeartbeats 8000000 in
theorem poolGrows_any (k0 : Int) (x : List Int) (nx : Nat) (a : Option Addr) (ca : Nat) (w : World) (h : Sa w a (ints x)) (hn : x.length = nx) (hc : nx ≤ ca) (hm : nx ≤ maxLen) :
    Calls Try.prog 12 #[.int .i64 k0, .slice a nx ca] w fun e w' => e = .returned (.bool true) ∧ Below w.heap.size w w' := by
  have HN := Lib.hid hn; have HS := Lib.hid h; have HM := Lib.hid hm
  obtain ⟨K, hK, K1, K12⟩ : ∃ n : Nat, 1 + k0 % 12 = (n : Int) ∧ 1 ≤ n ∧ n ≤ 12 := ⟨(1 + k0 % 12).toNat, by omega, by omega, by omega⟩
  clear hn h hm
  go_enter Try.func12, Try.ntmps12
  go_wp2_with fail
  refine (pools_any _).mono ?_; rintro e w1 ⟨rfl, hb⟩
  have F0 := (Fr.start w).keep hb
  clear hb
  go_wp2_with fail
  refine (within_any _ _ _ (by omega) (by omega)).mono ?_; rintro e w' ⟨rfl, rfl⟩
  go_wp2_with fail
  clear hK
  refine (lotsOf_any x nx _ _ 30 _ (F0.old HS.out) HN.out hc HM.out (by omega)).mono ?_; rintro e w2 ⟨ad1, N, cp1, rfl, hN, hc1, hf⟩
  have F1 := F0.call hf
  clear F0 hf
  have hlo := lotsL_ok x 30
  have hN30 : N ≤ 30 := by rw [← hN, lotsL_len]; omega
  generalize lotsL x 30 = l at *
  have HLN := Lib.hid hN
  have HLO : Hid (LotsOk l) := Lib.hid hlo
  clear hN hlo
  by_cases hN0 : N = 0
  · subst hN0
    go_wp2_with fail
    go_ret
    exact ⟨rfl, F1.bel⟩
  · obtain ⟨m, hNm⟩ : ∃ m, N = m + 1 := ⟨N - 1, by omega⟩
    subst hNm
    have zN : (((m : Int) + 1) == 0) = false := beq_eq_false_iff_ne.2 (by omega)
    have b1 : (m : Int) ≤ (cp1 : Int) := by omega
    have HT : Hid ((l.take m).length = m) := Lib.hid (by rw [List.length_take, HLN.out]; omega)
    have HTO : Hid (LotsOk (l.take m)) := Lib.hid (fun i hi => by rw [HT.out] at hi; rw [nth_take _ _ _ hi]; exact HLO.out i (by rw [HLN.out]; omega))
    have HA : Hid (runK K (l.take m) m = runK K l m) := Lib.hid (runK_take K l m m (Nat.le_refl _))
    have HB : Hid (runK K l (m + 1) = if m < K then runK K l m ++ [(m : Int)] else if nth l m < (K : Int) then (runK K l m).set (nth l m).toNat (m : Int) else runK K l m) := Lib.hid rfl
    have hAl := runK_len K l m
    have hBl := runK_len K l (m + 1)
    have hAb := runK_bd K l m
    have hBn := runK_nd K l (fun i hi => (HLO.out i hi).1) (m + 1) (by rw [HLN.out]; exact Nat.le_refl _)
    have F2 := F1
    go_wp2_with fail
    clear zN F2
    refine (poolRun (l.take m) m K _ _ _ (by have := (F1.get 0 rfl).take m; rw [ints_take] at this; exact this) HT.out HTO.out (by omega) K1 K12).mono ?_; rintro e w3 ⟨ad2, cp2, rfl, hc2, hf⟩
    rw [HA.out] at hf
    have F2 := F1.call hf
    clear F1 hf
    go_wp2_with fail
    refine (poolRun l (m + 1) K _ _ _ (F2.get 1 rfl) HLN.out HLO.out hN30 K1 K12).mono ?_; rintro e w4 ⟨ad3, cp3, rfl, hc3, hf⟩
    have F3 := F2.call hf
    clear F2 hf
    go_wp2_with fail
    refine (poolChosen l (m + 1) K _ _ _ (F3.get 2 rfl) HLN.out HLO.out hN30 (by omega) K1 K12).mono ?_; rintro e w5 ⟨ad4, cp4, rfl, hc4, hf⟩
    have F4 := F3.call hf
    clear F3 hf
    obtain ⟨A, hA⟩ : ∃ A, runK K l m = A := ⟨_, rfl⟩
    obtain ⟨B, hB⟩ : ∃ B, runK K l (m + 1) = B := ⟨_, rfl⟩
    have hHB := HB.out
    rw [hA, hB] at hHB
    rw [hA] at hAl hAb F4
    rw [hB] at hBl hBn F4
    obtain ⟨p, hp⟩ : ∃ p, min m K = p := ⟨_, rfl⟩
    obtain ⟨q, hq⟩ : ∃ q, min (m + 1) K = q := ⟨_, rfl⟩
    rw [hp] at hAl F4 hc2 ⊢
    rw [hq] at hBl F4 hc3 hc4 ⊢
    have HMN1 := Lib.hid (run_min2 #[3, 3] 3 m (K : Int) p (by omega) (by omega) (by omega))
    have HMN2 : Hid (∀ w, Sem.run Try.prog (Builtin.min_ #[3, 3] 3 #[.int .i64 ((m : Int) + 1), .int .i64 (K : Int)]) w = .ok (.int .i64 (q : Int)) w) := Lib.hid (fun w => by
      have := run_min2 #[3, 3] 3 (m + 1) (K : Int) q (by omega) (by omega) (by omega) w
      rwa [Int.natCast_add] at this)
    have HAL := Lib.hid hAl; have HBL := Lib.hid hBl; have HAB := Lib.hid hAb; have HBN := Lib.hid hBn; have HHB := Lib.hid hHB; have HP := Lib.hid hp; have HQ := Lib.hid hq
    have q12 : q ≤ 12 := by omega
    have q1 : 1 ≤ q := by omega
    have HIP := Lib.hid (insS_perm B q (by rw [hBl]; exact Nat.le_refl _))
    have HIL : Hid ((insS B q).length = q) := Lib.hid (by rw [← HIP.out.length_eq, HBL.out])
    have HID : Hid (∀ i, i + 1 < q → nth (insS B q) i ≠ nth (insS B q) (i + 1)) := Lib.hid (nd_adj (nd_perm HIP.out HBN.out) q HIL.out)
    have HF4 := Lib.hid F4
    clear hA hB hHB hAl hBl hAb hBn hp hq F4 HA HB
    go_wp2_with fail
    refine (good3b _ w5.heap.size _ rfl).mono ?_; rintro e w' ⟨rfl, rfl⟩
    have HF5 := Lib.hid (HF4.out.alloc (.cells #[.int .i64 0, .int .i64 0, .int .i64 0] 26))
    have hm1 := HMN1.out
    have hm2 := HMN2.out
    have zp : ((p : Int) != (p : Int)) = false := by simp
    have zq : ((q : Int) != (q : Int)) = false := by simp
    go_wp2_with fail
    clear hm1 hm2 zp
    refine (slClone B q _ _ _ (HF5.out.get 1 rfl) HBL.out (by omega)).mono ?_; rintro e w6 ⟨ad5, cp5, rfl, hc5, hf⟩
    have F6 := HF5.out.call hf
    obtain ⟨D, rfl, -⟩ := F6.open (by rw [ints_len, HBL.out]; omega)
    have HF6 := Lib.hid F6
    clear F6 hf
    go_wp2_with fail
    refine (slSort B q cp5 D _ HF6.out q12 q1).mono ?_; rintro e w7 ⟨rfl, hf⟩
    have HF7 := Lib.hid hf
    clear hf
    go_wp2_with fail
    refine (slEqual (insS B q) (insS B q) q q _ _ _ _ _ (HF7.out.get 1 rfl) (HF7.out.get 0 rfl) HIL.out HIL.out (by omega) (by omega)).mono ?_; rintro e w8 ⟨rfl, hf⟩
    rw [decide_eq_true (rfl : insS B q = insS B q)]
    have HF8 := Lib.hid (HF7.out.keep hf.bel)
    clear hf
    go_wp2_with fail
    refine (slCompact (insS B q) q _ _ _ (HF8.out.get 0 rfl) HIL.out (by omega) HID.out).mono ?_; rintro e w9 ⟨rfl, hf⟩
    have HF9 := Lib.hid (HF8.out.keep hf.bel)
    clear hf
    by_cases hmk : m < K
    · have d1 : decide ((m : Int) < (K : Int)) = true := decide_eq_true (by omega)
      have HE : Hid (B = A ++ [(m : Int)]) := Lib.hid (by rw [HHB.out, if_pos hmk])
      have F10 := HF9.out.perm (M := [rawE ad2 p cp2 A, rawE ad1 (m + 1) cp1 l, rawE (some ⟨D, 0, .none⟩) q cp5 (insS B q), rawE ad4 q cp4 (insS B q), rawE ad3 q cp3 B]) (List.perm_append_comm (l₁ := [rawE (some ⟨D, 0, .none⟩) q cp5 (insS B q), rawE ad4 q cp4 (insS B q), rawE ad3 q cp3 B]) (l₂ := [rawE ad2 p cp2 A, rawE ad1 (m + 1) cp1 l]))
      have HF10 := Lib.hid F10
      clear F10
      have p12 : p ≤ 12 := by have := HP.out; omega
      go_wp2_with (with_reducible refine at_slot 95 ?_; go_must (refine wpList_pushInt rfl _ _ rfl ad2 p cp2 _ (m : Int) _ rfl HF10.out rfl ?_ ?_); rotate_left; intro ad' cp' w10 hf2 hlt2)
      · refine (slEqual B (A ++ [(m : Int)]) q (p + 1) _ _ _ _ _ (hf2.get 4 rfl) (hf2.get 0 rfl) HBL.out (by rw [List.length_append, HAL.out]; rfl) (by omega) (by omega)).mono ?_; rintro e w11 ⟨rfl, hf⟩
        rw [decide_eq_true HE.out]
        have HF11 := Lib.hid (hf2.keep hf.bel)
        clear hf hf2
        go_wp2_with fail
        go_ret
        exact ⟨rfl, HF11.out.bel⟩
      · omega
    · have d1 : decide ((m : Int) < (K : Int)) = false := decide_eq_false (by omega)
      have hbx := HLO.out m (by rw [HLN.out]; omega)
      have hHB := HHB.out
      rw [if_neg hmk] at hHB
      have hpK : p = K := by have := HP.out; omega
      have hqK : q = K := by have := HQ.out; omega
      obtain ⟨X, hX⟩ : ∃ X : Nat, nth l m = X := ⟨(nth l m).toNat, by omega⟩
      rw [hX] at hHB hbx
      rw [Int.toNat_natCast] at hHB
      have HXX := Lib.hid hX
      have HBV : Hid (∀ i, i < p → nth B i = if i = X ∧ X < K then (m : Int) else nth A i) := Lib.hid (fun i hi => by
        rw [hHB]
        by_cases hXK : X < K
        · rw [if_pos (by omega), nth_set _ _ _ _ (by rw [HAL.out]; omega)]
          by_cases e : i = X
          · rw [if_pos e, if_pos ⟨e, hXK⟩]
          · rw [if_neg e, if_neg (fun h => e h.1)]
        · rw [if_neg (by omega), if_neg (fun h => hXK h.2)])
      have HPK := Lib.hid hpK; have HQK := Lib.hid hqK
      clear hHB hbx hX hpK hqK
      go_wp2_with fail
      go_loopw [14, 99] (fun c i wr => ∃ t : Nat, i = .int .i64 t ∧ t ≤ p ∧ c = .int .i64 (if X < t ∧ X < K then 1 else 0) ∧ Fr w wr [rawE (some ⟨D, 0, none⟩) q cp5 (insS B q), rawE ad4 q cp4 (insS B q), rawE ad3 q cp3 B, rawE ad2 p cp2 A, rawE ad1 (m + 1) cp1 l]) (fun _ i _ => p - (intOf i).toNat)
      case atStart => exact ⟨0, rfl, by omega, by rw [if_neg (by omega)], HF9.out⟩
      case round =>
        obtain ⟨t, rfl, ht, rfl, hfr⟩ := hrel
        obtain ⟨b4, o4, e4, _, c3⟩ := (hfr.get 4 rfl).int m (by rw [HLN.out]; omega)
        rw [HXX.out] at c3
        have g1 : (0 : Int) ≤ (m : Int) := by omega
        have g2 : (m : Int) < (m : Int) + 1 := by omega
        by_cases htp : t < p
        · obtain ⟨b2, o2, e2, _, c1⟩ := (hfr.get 3 rfl).int t (by rw [HAL.out]; exact htp)
          obtain ⟨b3, o3, e3, _, c2⟩ := (hfr.get 2 rfl).int t (by rw [HBL.out]; have := HPK.out; have := HQK.out; omega)
          have hbv := HBV.out t htp
          have hab := HAB.out _ (nth_mem A t (by rw [HAL.out]; exact htp))
          rw [hbv] at c2
          obtain ⟨u, hu⟩ : ∃ u, nth A t = u := ⟨_, rfl⟩
          rw [hu] at c1 c2 hab
          have d2 : (0 : Int) ≤ (t : Int) := by omega
          have d3 : (t : Int) < (p : Int) := by omega
          have d4 : (t : Int) < (q : Int) := by have := HPK.out; have := HQK.out; omega
          have HF := Lib.hid hfr
          clear hfr hu hbv
          subst e2 e3 e4
          by_cases hx : t = X ∧ X < K
          · rw [if_pos hx] at c2
            obtain ⟨rfl, hXK⟩ := hx
            have z1 : (u != (m : Int)) = true := bne_iff_ne.2 (by omega)
            have z2 : ((m : Int) != (m : Int)) = false := by simp
            have z3 : ((t : Int) != (t : Int)) = false := by simp
            rw [if_neg (by omega)]
            have NX : Hid ((if t < t + 1 ∧ t < K then (1 : Int) else 0) = 1) := Lib.hid (by rw [if_pos ⟨by omega, hXK⟩])
            go_wp2_with fail
            go_region
            go_wp2_with fail
            exact ⟨⟨t + 1, by simp, by omega, by rw [NX.out], HF.out.drew⟩, by simp only [intOf]; omega⟩
          · rw [if_neg hx] at c2
            have z1 : (u != u) = false := by simp
            have NX : Hid ((if X < t + 1 ∧ X < K then (1 : Int) else 0) = if X < t ∧ X < K then 1 else 0) := Lib.hid (by
              by_cases h2 : X < t ∧ X < K
              · rw [if_pos h2, if_pos ⟨by omega, h2.2⟩]
              · rw [if_neg h2, if_neg (by omega)])
            obtain ⟨ch, hch⟩ : ∃ ch, (if X < t ∧ X < K then (1 : Int) else 0) = ch := ⟨_, rfl⟩
            rw [hch] at NX ⊢
            clear hch hx
            go_wp2_with fail
            go_region
            go_wp2_with fail
            exact ⟨⟨t + 1, by simp, by omega, by rw [NX.out], HF.out.drew⟩, by simp only [intOf]; omega⟩
        · obtain rfl : t = p := by omega
          have HF := Lib.hid hfr
          clear hfr
          subst e4
          have hpk := HPK.out
          by_cases hXK : X < K
          · rw [if_pos ⟨by omega, hXK⟩]
            have z1 : decide ((X : Int) < (K : Int)) = true := decide_eq_true (by omega)
            clear hpk
            go_wp2_with fail
            go_ret
            exact ⟨by simp, HF.out.bel⟩
          · rw [if_neg (fun h => hXK h.2)]
            have z1 : decide ((X : Int) < (K : Int)) = false := decide_eq_false (by omega)
            clear hpk
            go_wp2_with fail
            go_ret
            exact ⟨by simp, HF.out.bel⟩
end Go.Proofs.Ytgblmbhbbjgdiaa
