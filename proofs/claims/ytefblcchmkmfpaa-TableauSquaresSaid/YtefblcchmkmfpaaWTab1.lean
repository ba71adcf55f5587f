/- The walk of the law TableauSquares. -/
import Derived.Test.YtefblcchmkmfpaaTabM
import Derived.Test.YtefblcchmkmfpaaRank
import Derived.Test.YtefblcchmkmfpaaGood
import Derived.Test.YtefblcchmkmfpaaSlFn
namespace Go.Proofs.Ytefblcchmkmfpaa
open Go.RowKit

theorem okT_parts {l : List Int} (h : okT l = true) : Shp l ∧ (0 ≤ cntL l ∧ cntL l ≤ 1000) ∧ l.length ≤ 10 ∧ (∀ i, i < l.length → corner l i = true → Shp (cutR l i) ∧ 0 ≤ cntL (cutR l i) ∧ cntL (cutR l i) ≤ 1000) ∧ (l = [] ∨ cntL l = lessK l l.length) := by
  unfold okT at h
  simp only [Bool.and_eq_true, List.all_eq_true, Bool.or_eq_true, decide_eq_true_eq, Bool.not_eq_true'] at h
  obtain ⟨⟨⟨⟨h1, h2⟩, h3⟩, h4⟩, h5⟩ := h
  refine ⟨shp_of h1, h2, h3, fun i hi hc => ?_, h5⟩
  rcases h4 i (List.mem_range.2 hi) with c | c
  · rw [hc] at c; cases c
  · exact ⟨shp_of c.1, c.2⟩
theorem fac_bd : ∀ m, m < 11 → 1 ≤ facN m ∧ facN m ≤ 3628800 := by decide +kernel
theorem lessK_bd {l : List Int} (h : ∀ i, i < l.length → corner l i = true → Shp (cutR l i) ∧ 0 ≤ cntL (cutR l i) ∧ cntL (cutR l i) ≤ 1000) : ∀ i, i ≤ l.length → 0 ≤ lessK l i ∧ lessK l i ≤ 1000 * i
  | 0, _ => by rw [lessK]; omega
  | i + 1, hi => by
    have h1 := lessK_bd h i (by omega)
    have h2 := h i (by omega)
    rw [lessK]
    by_cases c : corner l i = true
    · rw [if_pos c]; have := h2 c; omega
    · rw [if_neg c]; omega

set_option maxRecDepth 100000 in
set_option maxHeartbeats 8000000 in
theorem tabSquares_any (n0 k0 : Int) (w : World) :
    Calls Try.prog 3 #[.int .i64 n0, .int .i64 k0] w fun e w' => e = .returned (.bool true) ∧ Below w.heap.size w w' := by
  obtain ⟨m, hm⟩ : ∃ m : Nat, n0 % 11 = (m : Int) := ⟨(n0 % 11).toNat, by have := Int.emod_nonneg n0 (b := 11) (by omega); omega⟩
  have hm11 : m < 11 := by have := Int.emod_lt_of_pos n0 (b := 11) (by omega); omega
  have HM := Lib.hid hm
  have HOK := Lib.hid (forms_ok m hm11); have HSQ := Lib.hid (forms_sq m hm11); have HFW := Lib.hid (forms_few m hm11); have HNL := Lib.hid (forms_nil m hm11)
  have hs21 : Shp [2, 1] := shp_of (by decide +kernel)
  have hc21 : cntL [2, 1] = 2 := by decide +kernel
  have HS21 := Lib.hid hs21; have HC21 := Lib.hid hc21
  have hfac := fac_bd m hm11
  clear hm hs21 hc21
  go_enter Try.func3, Try.ntmps3
  go_wp2_with fail
  have F1 := (Fr.start w).lit [2, 1] #[.int .i64 2, .int .i64 1] rfl 2 rfl (by omega) 3
  refine (tabCount_any [2, 1] 2 _ _ _ (F1.get 0 rfl) rfl (by omega) HS21.out).mono ?_; rintro e w' ⟨rfl, rfl⟩
  rw [HC21.out]
  have HF1 := Lib.hid F1.below
  clear F1
  go_wp2_with fail
  refine (within_any _ _ _ (by omega) (by omega)).mono ?_; rintro e w' ⟨rfl, rfl⟩
  rw [HM.out]
  go_wp2_with fail
  refine (rankCount m _ (by omega)).mono ?_; rintro e w' ⟨rfl, rfl⟩
  obtain ⟨A, hA⟩ : ∃ A, facN m = A := ⟨_, rfl⟩
  rw [hA] at hfac ⊢
  have HA := Lib.hid hA
  clear hA
  go_wp2_with fail
  refine (forms_any m (by omega) m _ (by omega)).mono ?_; rintro e w2 ⟨ad, N, cp, R, rfl, hN, hR, hf⟩
  have HF2 := Lib.hid (HF1.out.call hf)
  have HN := Lib.hid hN; have HR := Lib.hid hR
  have hNb : 1 ≤ N ∧ N ≤ 42 := by have := HFW.out; rw [← hR, List.length_map, hN] at this; exact this
  have HROW : Hid (∀ t (h : t < N) (wr : World), Fr w wr (⟨25, .slice ad N cp, R.map rv⟩ :: R.map re) → ∃ (a : Option Addr) (c : Nat) (l : List Int), okT l = true ∧ l ∈ fL m m m ∧ re (a, c, l) ∈ R.map re ∧ l.length ≤ c ∧ Sa wr a (ints l) ∧
      (∃ b off, ad = some ⟨b, off, .none⟩ ∧ wr.cell? ⟨b, off + t, .none⟩ = some (.slice a l.length c)) ∧ (R.take (t + 1)).map (fun p => p.2.2) = (R.take t).map (fun p => p.2.2) ++ [l]) := Lib.hid fun t h wr hfr => by
    obtain ⟨⟨a, c, l⟩, hp⟩ : ∃ p, R[t]? = some p := ⟨_, List.getElem?_eq_getElem (by rw [HN.out]; exact h)⟩
    have hmem := List.mem_of_getElem? hp
    have hmem2 : (re (a, c, l)) ∈ R.map re := List.mem_map_of_mem hmem
    have hin : l ∈ fL m m m := by rw [← HR.out]; exact List.mem_map_of_mem (f := fun p : Rw => p.2.2) hmem
    have hO : Sa wr ad (R.map rv) := hfr.mem List.mem_cons_self
    obtain ⟨b, off, e, hb, hc⟩ := hO.at t (by rw [List.length_map, HN.out]; exact h)
    rw [List.getElem?_map, hp, Option.map_some] at hc
    have hcap : Fr w wr [⟨3, .slice a l.length c, ints l⟩] := hfr.pick (List.mem_cons_of_mem _ hmem2)
    refine ⟨a, c, l, HOK.out l hin, hin, hmem2, hcap.cap, hcap.get 0 rfl, ⟨b, off, e, hc⟩, ?_⟩
    rw [List.take_add_one, hp, List.map_append]; rfl
  clear hf hN hR
  go_wp2_with fail
  go_loopw [10, 47] (fun s10 s47 wr => ∃ (t : Nat) (S : Int), t ≤ N ∧ s47 = .int .i64 t ∧ s10 = .int .i64 S ∧ 0 ≤ S ∧ S ≤ 1000000 * t ∧ Hid (sqs ((R.take t).map (fun p => p.2.2)) = S) ∧
      Hid (Fr w wr (⟨25, .slice ad N cp, R.map rv⟩ :: R.map re))) (fun _ s _ => N - (intOf s).toNat)
  case atStart => exact ⟨0, 0, by omega, rfl, rfl, by omega, by omega, Lib.hid rfl, Lib.hid (by simpa using HF2.out)⟩
  case round =>
    obtain ⟨t, S, ht, rfl, rfl, s1, s2, HSM, HF⟩ := hrel
    by_cases hlt : t < N
    · obtain ⟨a, c, l, hok, -, -, hcap, hsa, ⟨b, off, rfl, hcell⟩, htk⟩ := HROW.out t hlt _ HF.out
      obtain ⟨p1, p2, p3, -, -⟩ := okT_parts hok
      have HY := Lib.hid hsa; have HP := Lib.hid p1
      have hst : sqs ((R.take (t + 1)).map (fun p => p.2.2)) = S + cntL l * cntL l := by rw [htk, sqs_snoc, HSM.out]
      obtain ⟨C, hC⟩ : ∃ C, cntL l = C := ⟨_, rfl⟩
      rw [hC] at p2 hst
      have HC := Lib.hid hC
      have hq1 : 0 ≤ C * C := Int.mul_nonneg p2.1 p2.1
      have hq2 : C * C ≤ 1000 * 1000 := Int.mul_le_mul p2.2 p2.2 p2.1 (by omega)
      obtain ⟨q, hq⟩ : ∃ q, C * C = q := ⟨_, rfl⟩
      rw [hq] at hst hq1 hq2
      have HST := Lib.hid hst
      obtain ⟨z, hz⟩ : ∃ z, l.length = z := ⟨_, rfl⟩
      rw [hz] at hcell hcap
      have HZ := Lib.hid hz
      have d1 : (0 : Int) ≤ (t : Int) := by omega
      have d2 : (t : Int) < (N : Int) := by omega
      clear hok hsa htk p1 p3 hst hC hz
      go_wp2_with fail
      refine (tabCount_any l z _ _ _ HY.out HZ.out hcap HP.out).mono ?_; rintro e w' ⟨rfl, rfl⟩
      rw [HC.out]
      go_wp2_with fail
      exact ⟨⟨t + 1, S + q, by omega, by simp, rfl, by omega, by omega, HST, HF⟩, by simp only [intOf]; omega⟩
    · obtain rfl : t = N := by omega
      have hS : S = (A : Int) := by
        rw [← HSM.out, List.take_of_length_le (by rw [HN.out]; exact Nat.le_refl _), HR.out, HSQ.out, HA.out]
      obtain ⟨q, hq⟩ : ∃ q : Nat, k0 % (t : Int) = (q : Int) := ⟨(k0 % (t : Int)).toNat, by have := Int.emod_nonneg k0 (b := (t : Int)) (by omega); omega⟩
      have hqt : q < t := by have := Int.emod_lt_of_pos k0 (b := (t : Int)) (by omega); omega
      have HQ := Lib.hid hq
      subst hS
      obtain ⟨a, c, l, hok, hin, hmem, hcap, hsa, ⟨b, off, rfl, hcell⟩, -⟩ := HROW.out q hqt _ HF.out
      obtain ⟨p1, p2, p3, p4, p5⟩ := okT_parts hok
      have hlb := lessK_bd p4
      have hnl := HNL.out l hin
      have HY := Lib.hid hsa; have HP := Lib.hid p1; have H4 := Lib.hid p4; have H5 := Lib.hid p5; have HLB := Lib.hid hlb; have HNL2 := Lib.hid hnl; have HMM := Lib.hid hmem
      obtain ⟨C, hC⟩ : ∃ C, cntL l = C := ⟨_, rfl⟩
      rw [hC] at p2
      have HC := Lib.hid hC
      obtain ⟨z, hz⟩ : ∃ z, l.length = z := ⟨_, rfl⟩
      rw [hz] at hcell hcap p3
      have HZ := Lib.hid hz
      have d1 : (0 : Int) ≤ (q : Int) := by omega
      have d2 : (q : Int) < (t : Int) := by omega
      clear hok hin hmem hsa p1 p4 p5 hlb hnl hC hz hq
      go_wp2_with (go_at_call 13; refine (within_any _ _ _ (by omega) (by omega)).mono ?_; rintro e w' ⟨rfl, rfl⟩; rw [HQ.out])
      refine (tabCount_any l z _ _ _ HY.out HZ.out hcap HP.out).mono ?_; rintro e w' ⟨rfl, rfl⟩
      rw [HC.out]
      clear hcell
      go_wp2_with fail
      go_loopw [18, 78] (fun s18 s78 wr => ∃ (i : Nat) (L : Int), i ≤ z ∧ s78 = .int .i64 i ∧ s18 = .int .i64 L ∧ 0 ≤ L ∧ L ≤ 1000 * i ∧ Hid (lessK l i = L) ∧
          Hid (Fr w wr (⟨25, .slice (some ⟨b, off, .none⟩) t cp, R.map rv⟩ :: R.map re))) (fun _ s _ => z - (intOf s).toNat)
      case atStart => exact ⟨0, 0, by omega, rfl, rfl, by omega, by omega, Lib.hid rfl, HF⟩
      case round =>
        obtain ⟨i, L, hi, rfl, rfl, l1, l2, HL, HF⟩ := hrel
        by_cases hlt2 : i < z
        · have HYW : Hid (Sa wr a (ints l)) := Lib.hid (HF.out.mem (List.mem_cons_of_mem _ HMM.out) (T := 3) (n := l.length) (cap := c))
          obtain ⟨b1, o1, rfl, _, cx⟩ := HYW.out.int i (by rw [HZ.out]; exact hlt2)
          have hx1 := HP.out.one i (by rw [HZ.out]; exact hlt2)
          have hx2 : nth l i ≤ 12 := by
            have h1 := HP.out.few (i + 1) (by rw [HZ.out]; omega)
            have h2 := psum_ge l HP.out i (by rw [HZ.out]; omega)
            rw [psumL] at h1; omega
          obtain ⟨x, hx⟩ : ∃ x, nth l i = x := ⟨_, rfl⟩
          rw [hx] at cx hx1 hx2
          have HX := Lib.hid hx
          have e1 : (0 : Int) ≤ (i : Int) := by omega
          have e2 : (i : Int) < (z : Int) := by omega
          clear hx
          by_cases hlast : i + 1 = z
          · have g1 : ((i : Int) == (z : Int) - 1) = true := beq_iff_eq.2 (by omega)
            have hcorn : corner l i = true := by unfold corner; rw [HZ.out]; rw [decide_eq_true hlast]; rfl
            have hco := H4.out i (by rw [HZ.out]; exact hlt2) hcorn
            have hstep : lessK l (i + 1) = L + cntL (cutR l i) := by rw [lessK, HL.out, if_pos hcorn]
            have hcut : cutR l i = if x - 1 = 0 then (l.set i (x - 1)).take i else l.set i (x - 1) := by unfold cutR; rw [HX.out]
            obtain ⟨D, hD⟩ : ∃ D, cntL (cutR l i) = D := ⟨_, rfl⟩
            rw [hD] at hstep
            have hco2 := hco.2
            rw [hD] at hco2
            have HCO := Lib.hid hco; have HSTEP := Lib.hid hstep; have HD := Lib.hid hD
            clear hcorn hco hstep hD hlast
            go_wp2_with fail
            refine (slClone l z _ _ _ HYW.out HZ.out (by omega)).mono ?_; rintro e w6 ⟨ad6, cp6, rfl, hcp6, hf⟩
            have HF6 := Lib.hid (HF.out.call hf)
            clear hf
            obtain ⟨g, rfl, -, ct, ft⟩ := HF6.out.openI i (by rw [HZ.out]; exact hlt2)
            rw [HX.out] at ct
            have HF7 := Lib.hid (HF6.out.setInt i (x - 1))
            have hb6 : (i : Int) ≤ (cp6 : Int) := by omega
            by_cases hx0 : x - 1 = 0
            · have hg : (x - 1 == 0) = true := beq_iff_eq.2 hx0
              rw [if_pos hx0] at hcut
              have HCUT := Lib.hid hcut
              have hsat : ∀ W, Sa W (some ⟨g, 0, .none⟩) (ints (l.set i (x - 1))) → Sa W (some ⟨g, 0, .none⟩) (ints ((l.set i (x - 1)).take i)) := fun W h => by rw [← ints_take]; exact h.take i
              have hlen : ((l.set i (x - 1)).take i).length = i := by rw [List.length_take, List.length_set, HZ.out]; omega
              have HSAT := Lib.hid hsat; have HLEN := Lib.hid hlen
              clear hcut hx0 hsat hlen
              go_wp2_with fail
              refine (tabCount_any _ i _ _ _ (HSAT.out _ (HF7.out.get 0 rfl)) HLEN.out (by omega) (HCUT.out ▸ HCO.out.1)).mono ?_; rintro e w' ⟨rfl, rfl⟩
              rw [← HCUT.out, HD.out]
              go_wp2_with fail
              exact ⟨⟨i + 1, L + D, by omega, by simp, rfl, by omega, by omega, HSTEP, Lib.hid HF7.out.tail⟩, by simp only [intOf]; omega⟩
            · have hg : (x - 1 == 0) = false := beq_eq_false_iff_ne.2 hx0
              rw [if_neg hx0] at hcut
              have HCUT := Lib.hid hcut
              have hlen : (l.set i (x - 1)).length = z := by rw [List.length_set, HZ.out]
              have HLEN := Lib.hid hlen
              clear hcut hx0 hlen
              go_wp2_with fail
              refine (tabCount_any _ z _ _ _ (HF7.out.get 0 rfl) HLEN.out (by omega) (HCUT.out ▸ HCO.out.1)).mono ?_; rintro e w' ⟨rfl, rfl⟩
              rw [← HCUT.out, HD.out]
              go_wp2_with fail
              exact ⟨⟨i + 1, L + D, by omega, by simp, rfl, by omega, by omega, HSTEP, Lib.hid HF7.out.tail⟩, by simp only [intOf]; omega⟩
          · have g1 : ((i : Int) == (z : Int) - 1) = false := beq_eq_false_iff_ne.2 (by omega)
            obtain ⟨_, _, e, _, cy⟩ := HYW.out.int (i + 1) (by rw [HZ.out]; omega)
            cases e
            obtain ⟨y, hy⟩ : ∃ y, nth l (i + 1) = y := ⟨_, rfl⟩
            rw [hy] at cy
            have HY2 := Lib.hid hy
            have e3 : (0 : Int) ≤ (i : Int) + 1 := by omega
            have e4 : (i : Int) + 1 < (z : Int) := by omega
            clear hy
            by_cases hyx : y < x
            · have g2 : decide (y < x) = true := decide_eq_true hyx
              have hcorn : corner l i = true := by unfold corner; rw [HZ.out]; rw [HY2.out, HX.out, g2, Bool.or_true]
              have hco := H4.out i (by rw [HZ.out]; exact hlt2) hcorn
              have hstep : lessK l (i + 1) = L + cntL (cutR l i) := by rw [lessK, HL.out, if_pos hcorn]
              have hcut : cutR l i = if x - 1 = 0 then (l.set i (x - 1)).take i else l.set i (x - 1) := by unfold cutR; rw [HX.out]
              obtain ⟨D, hD⟩ : ∃ D, cntL (cutR l i) = D := ⟨_, rfl⟩
              rw [hD] at hstep
              have hco2 := hco.2
              rw [hD] at hco2
              have HCO := Lib.hid hco; have HSTEP := Lib.hid hstep; have HD := Lib.hid hD
              clear hcorn hco hstep hD hlast hyx
              go_wp2_with fail
              refine (slClone l z _ _ _ HYW.out HZ.out (by omega)).mono ?_; rintro e w6 ⟨ad6, cp6, rfl, hcp6, hf⟩
              have HF6 := Lib.hid (HF.out.call hf)
              clear hf
              obtain ⟨g, rfl, -, ct, ft⟩ := HF6.out.openI i (by rw [HZ.out]; exact hlt2)
              rw [HX.out] at ct
              have HF7 := Lib.hid (HF6.out.setInt i (x - 1))
              have hb6 : (i : Int) ≤ (cp6 : Int) := by omega
              by_cases hx0 : x - 1 = 0
              · have hg : (x - 1 == 0) = true := beq_iff_eq.2 hx0
                rw [if_pos hx0] at hcut
                have HCUT := Lib.hid hcut
                have hsat : ∀ W, Sa W (some ⟨g, 0, .none⟩) (ints (l.set i (x - 1))) → Sa W (some ⟨g, 0, .none⟩) (ints ((l.set i (x - 1)).take i)) := fun W h => by rw [← ints_take]; exact h.take i
                have hlen : ((l.set i (x - 1)).take i).length = i := by rw [List.length_take, List.length_set, HZ.out]; omega
                have HSAT := Lib.hid hsat; have HLEN := Lib.hid hlen
                clear hcut hx0 hsat hlen
                go_wp2_with fail
                refine (tabCount_any _ i _ _ _ (HSAT.out _ (HF7.out.get 0 rfl)) HLEN.out (by omega) (HCUT.out ▸ HCO.out.1)).mono ?_; rintro e w' ⟨rfl, rfl⟩
                rw [← HCUT.out, HD.out]
                go_wp2_with fail
                exact ⟨⟨i + 1, L + D, by omega, by simp, rfl, by omega, by omega, HSTEP, Lib.hid HF7.out.tail⟩, by simp only [intOf]; omega⟩
              · have hg : (x - 1 == 0) = false := beq_eq_false_iff_ne.2 hx0
                rw [if_neg hx0] at hcut
                have HCUT := Lib.hid hcut
                have hlen : (l.set i (x - 1)).length = z := by rw [List.length_set, HZ.out]
                have HLEN := Lib.hid hlen
                clear hcut hx0 hlen
                go_wp2_with fail
                refine (tabCount_any _ z _ _ _ (HF7.out.get 0 rfl) HLEN.out (by omega) (HCUT.out ▸ HCO.out.1)).mono ?_; rintro e w' ⟨rfl, rfl⟩
                rw [← HCUT.out, HD.out]
                go_wp2_with fail
                exact ⟨⟨i + 1, L + D, by omega, by simp, rfl, by omega, by omega, HSTEP, Lib.hid HF7.out.tail⟩, by simp only [intOf]; omega⟩
            · have g2 : decide (y < x) = false := decide_eq_false hyx
              have hcorn : ¬ corner l i = true := by unfold corner; rw [HZ.out, HY2.out, HX.out, g2, decide_eq_false hlast]; simp
              have hstep : lessK l (i + 1) = L := by rw [lessK, HL.out, if_neg hcorn, Int.add_zero]
              have HSTEP := Lib.hid hstep
              clear hcorn hstep hlast hyx
              go_wp2_with fail
              exact ⟨⟨i + 1, L, by omega, by simp, rfl, by omega, by omega, HSTEP, HF⟩, by simp only [intOf]; omega⟩
        · obtain rfl : i = z := by omega
          have hcl : m = 0 ∨ C = L := by
            rcases HNL2.out with c1 | c1
            · exact .inl c1
            · rcases H5.out with c2 | c2
              · exact absurd c2 c1
              · right; rw [← HC.out, c2, HZ.out, HL.out]
          have HF9 := Lib.hid (HF.out.alloc (.cells #[.int .i64 0, .int .i64 0] 22))
          rcases hcl with c1 | c1
          · subst c1
            go_wp2_with fail
            refine (good2b _ (wr.heap.size) _ rfl).mono ?_; rintro e w' ⟨rfl, rfl⟩
            go_wp2_with fail
            go_ret
            exact ⟨by simp, HF9.out.bel⟩
          · subst c1
            by_cases hm0 : m = 0
            · subst hm0
              go_wp2_with fail
              refine (good2b _ (wr.heap.size) _ rfl).mono ?_; rintro e w' ⟨rfl, rfl⟩
              go_wp2_with fail
              go_ret
              exact ⟨by simp, HF9.out.bel⟩
            · have g1 : ((m : Int) == 0) = false := beq_eq_false_iff_ne.2 (by omega)
              go_wp2_with fail
              refine (good2b _ (wr.heap.size) _ rfl).mono ?_; rintro e w' ⟨rfl, rfl⟩
              go_wp2_with fail
              go_ret
              exact ⟨by simp, HF9.out.bel⟩
end Go.Proofs.Ytefblcchmkmfpaa
