/- The walk of the law PartsAll. -/
import Derived.Test.YtdcekplmmfenlaaWPartE
import Derived.Test.YtdcekplmmfenlaaForms
namespace Go.Proofs.Ytdcekplmmfenlaa
open Go.RowKit

def hdLe (k : Int) (r : List Int) : Bool := decide (r.length = 0) || decide (nth r 0 ≤ k)
def cnt (k : Int) (F : List (List Int)) : Nat := (F.filter (hdLe k)).length
theorem cnt_snoc (k : Int) (F : List (List Int)) (r : List Int) : cnt k (F ++ [r]) = cnt k F + if hdLe k r then 1 else 0 := by
  unfold cnt
  rw [List.filter_append, List.length_append]
  by_cases h : hdLe k r = true
  · simp [h]
  · simp [h]
theorem cnt_le (k : Int) (F : List (List Int)) : cnt k F ≤ F.length := List.length_filter_le _ _
def partOkB (l : List Int) : Bool := (List.range l.length).all fun k => decide (1 ≤ nth l k ∧ nth l k ≤ 40 ∧ (0 < k → nth l k ≤ nth l (k - 1)) ∧ sumI (l.take k) + nth l k ≤ 40 ∧ (k : Int) ≤ sumI (l.take k))
theorem partOk_of (l : List Int) (h : partOkB l = true) : PartOk l := by
  intro k hk
  unfold partOkB at h
  simp only [List.all_eq_true, List.mem_range, decide_eq_true_eq] at h
  exact h k hk
def partsB (n : Nat) : Bool := (fun (F : List (List Int)) (T : List (List Int)) => F.all partOkB && decide (F.length = (pRow n).getD n 0) &&
  (List.range 16).all fun k => decide (cnt k F = (pRow k).getD n 0) && decide (cnt k T = (pRow k).getD n 0)) (fL n n n) ((fL n n n).map trn)
theorem parts_tab : ∀ n, n < 16 → partsB n = true := by decide +kernel
theorem parts_said (n k : Nat) (hn : n < 16) (hk : k < 16) : (∀ r ∈ fL n n n, PartOk r) ∧ (fL n n n).length = pN n n ∧ cnt k (fL n n n) = pN k n ∧ cnt k ((fL n n n).map trn) = pN k n := by
  have h := parts_tab n hn
  unfold partsB at h
  simp only [Bool.and_eq_true, List.all_eq_true, List.mem_range, decide_eq_true_eq] at h
  obtain ⟨⟨h1, h2⟩, h3⟩ := h
  obtain ⟨h4, h5⟩ := h3 k hk
  rw [pRow_get _ _ (by omega)] at h2 h4 h5
  exact ⟨fun r hr => partOk_of r (h1 r hr), h2, h4, h5⟩

theorem hdLe_nil (k : Int) (l : List Int) (h : l.length = 0) : hdLe k l = true := by unfold hdLe; rw [decide_eq_true h]; rfl
theorem hdLe_yes (k : Int) (l : List Int) (h : nth l 0 ≤ k) : hdLe k l = true := by unfold hdLe; rw [decide_eq_true h]; simp
theorem hdLe_no (k : Int) (l : List Int) (h0 : 0 < l.length) (h : ¬ nth l 0 ≤ k) : hdLe k l = false := by
  unfold hdLe; rw [decide_eq_false h, decide_eq_false (by omega)]; rfl
theorem cnt_yes (k : Int) (F : List (List Int)) (r : List Int) (h : hdLe k r = true) : cnt k (F ++ [r]) = cnt k F + 1 := by rw [cnt_snoc, if_pos h]
theorem cnt_no (k : Int) (F : List (List Int)) (r : List Int) (h : hdLe k r = false) : cnt k (F ++ [r]) = cnt k F := by rw [cnt_snoc, h]; simp
theorem Sa.int0 {w : World} {a : Option Addr} {l : List Int} (h : Sa w a (ints l)) (hi : 0 < l.length) : ∃ b off, a = some ⟨b, off, none⟩ ∧ b < w.heap.size ∧ w.cell? ⟨b, off, none⟩ = some (.int .i64 (nth l 0)) := h.int 0 hi

set_option maxRecDepth 100000 in
set_option maxHeartbeats 4000000 in
theorem partsAll_any (x y : Int) (w : World) :
    Calls Try.prog 14 #[.int .i64 x, .int .i64 y] w fun e w' => e = .returned (.bool true) ∧ Below w.heap.size w w' := by
  obtain ⟨n, hn, hx⟩ : ∃ m : Nat, m < 16 ∧ x % 16 = m := ⟨(x % 16).toNat, by omega, by omega⟩
  obtain ⟨k, hk, hy⟩ : ∃ m : Nat, m < 16 ∧ y % 16 = m := ⟨(y % 16).toNat, by omega, by omega⟩
  have HX := Lib.hid hx; have HY := Lib.hid hy; clear hx hy
  obtain ⟨t1, t2, t3, t4⟩ := parts_said n k hn hk
  have hF := fL_rows n n n
  have T1 := Lib.hid t1; have T2 := Lib.hid t2; have T3 := Lib.hid t3; have T4 := Lib.hid t4
  have pb := pN_small n n (by omega) (by omega)
  clear t1 t2 t3 t4
  go_enter Try.func14, Try.ntmps14
  go_wp2_with fail
  refine (partsLive_any _).mono ?_; rintro e w1 ⟨rfl, hb⟩
  have F1 := (Fr.start w).keep hb
  clear hb
  go_wp2_with fail
  refine (within_any _ _ _ (by omega) (by omega)).mono ?_; rintro e w' ⟨rfl, rfl⟩
  rw [HX.out]
  go_wp2_with fail
  refine (within_any _ _ _ (by omega) (by omega)).mono ?_; rintro e w' ⟨rfl, rfl⟩
  rw [HY.out]
  go_wp2_with fail
  refine (forms_any n (by omega) n _ (by omega)).mono ?_; rintro e w2 ⟨ad, N, cp, R, rfl, hN, hR, hf⟩
  have F2 := F1.below.call hf
  rw [← hR] at T1 T2 T3 T4
  have HN := Lib.hid hN
  have hNb : N ≤ 40000 := by rw [← hN, ← List.length_map (f := fun p : Rw => p.2.2), T2.out]; exact pb
  have HF2 := Lib.hid F2
  clear F1 F2 hf hR hN hF pb
  go_wp2_with fail
  go_loopw [5, 6, 27] (fun s5 s6 s27 wr => ∃ t : Nat, t ≤ N ∧ s27 = .int .i64 t ∧ s5 = .int .i64 (cnt k ((R.take t).map (fun p => p.2.2)) : Nat) ∧ s6 = .int .i64 (cnt k ((R.take t).map (fun p => trn p.2.2)) : Nat) ∧
      Fr w wr (⟨43, .slice ad N cp, R.map rv⟩ :: R.map re)) (fun _ _ s27 _ => N - (intOf s27).toNat)
  case atStart => exact ⟨0, by omega, rfl, rfl, rfl, by simpa using HF2.out⟩
  case round =>
    obtain ⟨t, ht, rfl, rfl, rfl, hfr⟩ := hrel
    clear HF2
    by_cases hlt : t < N
    · obtain ⟨⟨a, c, l⟩, hp⟩ : ∃ p, R[t]? = some p := ⟨_, List.getElem?_eq_getElem (by rw [HN.out]; exact hlt)⟩
      have hmem := List.mem_of_getElem? hp
      have hmem2 : (re (a, c, l)) ∈ R.map re := List.mem_map_of_mem hmem
      have hok := T1.out l (List.mem_map_of_mem (f := fun p : Rw => p.2.2) hmem)
      have hY : Sa wr a (ints l) := hfr.mem (List.mem_cons_of_mem _ hmem2)
      have hO : Sa wr ad (R.map rv) := hfr.mem List.mem_cons_self
      obtain ⟨b, off, rfl, hb, hc⟩ := hO.at t (by rw [List.length_map, HN.out]; exact hlt)
      rw [List.getElem?_map, hp, Option.map_some] at hc
      have hc' : wr.cell? ⟨b, off + t, none⟩ = some (.slice a l.length c) := hc
      have e1 : (R.take (t + 1)).map (fun p => p.2.2) = (R.take t).map (fun p => p.2.2) ++ [l] := by rw [List.take_add_one, hp, List.map_append]; rfl
      have e2 : (R.take (t + 1)).map (fun p => trn p.2.2) = (R.take t).map (fun p => trn p.2.2) ++ [trn l] := by rw [List.take_add_one, hp, List.map_append]; rfl
      have b1 := cnt_le k ((R.take t).map (fun p => p.2.2))
      have b2 := cnt_le k ((R.take t).map (fun p => trn p.2.2))
      rw [List.length_map, List.length_take] at b1 b2
      have E1 := Lib.hid e1; have E2 := Lib.hid e2; have HOK := Lib.hid hok; have HM2 := Lib.hid hmem2; have HY := Lib.hid hY
      generalize (R.take t).map (fun p => p.2.2) = A1 at *
      generalize (R.take t).map (fun p => trn p.2.2) = A2 at *
      generalize hc1 : cnt k A1 = n1 at *
      generalize hc2 : cnt k A2 = n2 at *
      have HC1 := Lib.hid hc1; have HC2 := Lib.hid hc2
      clear hc1 hc2
      obtain ⟨m, hm⟩ : ∃ m, l.length = m := ⟨_, rfl⟩
      rw [hm] at hc'
      have HM := Lib.hid hm
      clear hc hO hY hmem hmem2 hok hp e1 e2 hm
      have d1 : (0 : Int) ≤ (t : Int) := by omega
      have d2 : (t : Int) < (N : Int) := by omega
      go_wp2_with fail
      refine (partTurned l m _ _ _ HY.out HM.out HOK.out).mono ?_; rintro e w3 ⟨ad3, cp3, rfl, hc3, hf3⟩
      have F4 := hfr.call hf3
      have F5 := F4.perm (M := (⟨43, .slice (some ⟨b, off, none⟩) N cp, R.map rv⟩ :: R.map re) ++ [⟨3, .slice ad3 (trn l).length cp3, ints (trn l)⟩]) List.perm_append_comm
      have F6 := F5.sub (M := (⟨43, .slice (some ⟨b, off, none⟩) N cp, R.map rv⟩ :: R.map re)) (List.sublist_append_left _ _)
      have HY3 : Sa w3 a (ints l) := F6.mem (List.mem_cons_of_mem _ HM2.out)
      have HT3 := F4.get 0 rfl
      have HF6 := Lib.hid F6
      obtain ⟨m2, hm2⟩ : ∃ m2, (trn l).length = m2 := ⟨_, rfl⟩
      rw [hm2]
      have HMM := Lib.hid hm2
      clear F4 F5 F6 hf3 hfr hc' hc3 hm2
      rcases Nat.eq_zero_or_pos m with hm0 | hm0
      case' inl =>
        subst hm0
        have h1 : hdLe k l = true := hdLe_nil _ _ HM.out
      case' inr =>
        obtain ⟨b4, o4, rfl, hb4, hc4⟩ := HY3.int0 (by rw [HM.out]; exact hm0)
        have z4 : ((m : Int) == 0) = false := by rw [beq_eq_false_iff_ne]; omega
        by_cases hle4 : nth l 0 ≤ k
        case' pos => have h1 : hdLe k l = true := hdLe_yes _ _ hle4
        case' neg => have h1 : hdLe k l = false := hdLe_no _ _ (by rw [HM.out]; exact hm0) hle4
        all_goals
          obtain ⟨v4, hv4⟩ : ∃ v4, nth l 0 = v4 := ⟨_, rfl⟩
          rw [hv4] at hc4 hle4
          clear hv4
      all_goals
        have H1 := Lib.hid h1; clear h1
        rcases Nat.eq_zero_or_pos m2 with hq0 | hq0
        case' inl =>
          subst hq0
          have h2 : hdLe k (trn l) = true := hdLe_nil _ _ HMM.out
        case' inr =>
          obtain ⟨b5, o5, rfl, hb5, hc5⟩ := HT3.int0 (by rw [HMM.out]; exact hq0)
          have z5 : ((m2 : Int) == 0) = false := by rw [beq_eq_false_iff_ne]; omega
          by_cases hle5 : nth (trn l) 0 ≤ k
          case' pos => have h2 : hdLe k (trn l) = true := hdLe_yes _ _ hle5
          case' neg => have h2 : hdLe k (trn l) = false := hdLe_no _ _ (by rw [HMM.out]; exact hq0) hle5
          all_goals
            obtain ⟨v5, hv5⟩ : ∃ v5, nth (trn l) 0 = v5 := ⟨_, rfl⟩
            rw [hv5] at hc5 hle5
            clear hv5
        all_goals
          have H2 := Lib.hid h2; clear h2 HT3
          have HY3' := Lib.hid HY3; clear HY3
          go_wp2_with (go_at_call 42; refine (partChk l _ _ _ _ HY3'.out HM.out HOK.out).mono ?_; rintro e w7 ⟨rfl, rfl⟩)
          go_roundw
          case rel =>
            refine ⟨t + 1, by omega, by go_num, ?_, ?_, HF6.out⟩
            · rw [E1.out]
              first | rw [cnt_yes _ _ _ H1.out, HC1.out]; rfl | rw [cnt_no _ _ _ H1.out, HC1.out]
            · rw [E2.out]
              first | rw [cnt_yes _ _ _ H2.out, HC2.out]; rfl | rw [cnt_no _ _ _ H2.out, HC2.out]
          case measure => simp only [intOf]; omega
    · obtain rfl : t = N := by omega
      rw [List.take_of_length_le (by rw [HN.out]; exact Nat.le_refl _)] 
      have e3 : R.map (fun p => trn p.2.2) = (R.map (fun p => p.2.2)).map trn := by rw [List.map_map]; rfl
      rw [e3, T3.out, T4.out]
      have e4 : t = pN n n := by rw [← T2.out, List.length_map, HN.out]
      have E4 := Lib.hid e4
      clear e3 e4
      have b1 := pN_small k n (by omega) (by omega)
      generalize hA : pN k n = A at *
      have HA := Lib.hid hA; clear hA
      have HF := Lib.hid hfr; clear hfr
      have q1 : ((t : Int) == (t : Int)) = true := by simp
      have q2 : ((A : Int) == (A : Int)) = true := by simp
      go_wp2_with fail
      refine (partCount_i _ _ n n _ rfl rfl (by omega) (by omega)).mono ?_; rintro e w3 ⟨rfl, hb⟩
      rw [← E4.out]
      have F3 := HF.out.below.keep hb
      clear hb
      go_wp2_with fail
      refine (partCount_i _ _ n k _ rfl rfl (by omega) (by omega)).mono ?_; rintro e w4 ⟨rfl, hb⟩
      rw [HA.out]
      replace F3 := F3.keep hb
      clear hb
      go_wp2_with fail
      refine (good2 _ _).mono ?_; rintro e w' ⟨rfl, rfl⟩
      replace F3 := F3.alloc (.cells #[.int .i64 0, .int .i64 0] 24)
      go_wp2_with fail
      go_ret
      exact ⟨rfl, F3.bel⟩
end Go.Proofs.Ytdcekplmmfenlaa
