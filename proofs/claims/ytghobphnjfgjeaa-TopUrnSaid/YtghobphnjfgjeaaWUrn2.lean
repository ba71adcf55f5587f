/- The walk of the law UrnAll. -/
import Derived.Test.YtghobphnjfgjeaaWUrn1
import Derived.Test.YtghobphnjfgjeaaSlFn
namespace Go.Proofs.Ytghobphnjfgjeaa
open Go.RowKit

/-! UrnAll -/
theorem urnL_bad {l : List Int} {more : Int} {ds : List Int} (h12 : ds.length ≤ 12) (h : (urnL l more ds).2.2 ≠ 0) : (urnL l more ds).1 = 0 ∧ (urnL l more ds).2.1 = 0 := by
  unfold urnL at h ⊢
  by_cases hc : urnChk l more ≠ 0
  · rw [if_pos hc]; exact ⟨rfl, rfl⟩
  · rw [if_neg hc, if_neg (by omega)] at h ⊢
    obtain ⟨ok, m1, m2⟩ := urnChk_ok (by omega : urnChk l more = 0)
    exact chn_bad more _ l ds m1 m2 ok (by omega) h
theorem urnL_good {l : List Int} {more : Int} {ds : List Int} (h12 : ds.length ≤ 12) (h : (urnL l more ds).2.2 = 0) : urnChk l more = 0 ∧ UOk l l.length 12 ∧ 0 ≤ more ∧ more ≤ 12 ∧ Val l.length ds := by
  unfold urnL at h
  by_cases hc : urnChk l more ≠ 0
  · rw [if_pos hc] at h; exact absurd h hc
  · rw [if_neg hc, if_neg (by omega)] at h
    obtain ⟨ok, m1, m2⟩ := urnChk_ok (by omega : urnChk l more = 0)
    exact ⟨by omega, ok, m1, m2, (chn_said more m1 m2 _ ds l 12 1 1 (by omega) (by omega) ok (by unfold Rat1; decide)).2.1 h⟩
theorem Val.snoc {n : Nat} {ds : List Int} (h : Val n ds) (t : Nat) (ht : t < n) : Val n (ds ++ [(t : Int)]) := fun x hx => by
  rcases List.mem_append.1 hx with hx | hx
  · exact h x hx
  · rw [List.mem_singleton] at hx; omega
theorem exD_snoc (m : Int) (l ds : List Int) (t : Int) : exD m l (ds ++ [t]) = exD m l ds * usum (hav m l ds) := by rw [exD_app, exD, exD, Int.mul_one]
theorem all_bd (m : Int) (h0 : 0 ≤ m) (h12 : m ≤ 12) (n : Nat) (l : List Int) (hu : UOk l n 12) (ds : List Int) (hv : Val n ds) : ∀ t, t ≤ n → 0 ≤ allS m l ds t ∧ allS m l ds t ≤ t * (exD m l ds * usum (hav m l ds))
  | 0, _ => by simp [allS]
  | t + 1, h => by
    have ih := all_bd m h0 h12 n l hu ds hv t (by omega)
    have b := exN_bd m h0 h12 n _ l 12 hu (hv.snoc t (by omega))
    rw [exD_snoc] at b
    rw [allS, Int.natCast_add, Int.add_mul]
    simp only [Int.natCast_one, Int.one_mul]
    omega
theorem all_math {l : List Int} {n : Nat} (hu : UOk l n 12) (m : Int) (h0 : 0 ≤ m) (h12 : m ≤ 12) (ds : List Int) (hv : Val n ds) :
    redP (allS m l ds n) (exD m l ds * usum (hav m l ds)) = redP (exN m l ds) (exD m l ds) ∧ redQ (allS m l ds n) (exD m l ds * usum (hav m l ds)) = redQ (exN m l ds) (exD m l ds) := by
  have hk := hav_ok m h0 h12 n ds l 12 hu hv
  rw [all_total m n l ds hk.len n (Nat.le_refl _), List.take_of_length_le (by rw [hk.len]; exact Nat.le_refl _)]
  have hp := hk.pos
  have hd := exD_pos m h0 ds l hu.pos
  refine red_eq (Int.mul_pos hd hp) hd ?_
  unfold Eqv
  generalize usum (hav m l ds) = S
  generalize exD m l ds = D
  grind

set_option maxRecDepth 100000 in
set_option maxHeartbeats 4000000 in
theorem urnAll_any (l : List Int) (n : Nat) (a : Option Addr) (ca : Nat) (more : Int) (l2 : List Int) (n2 : Nat) (b : Option Addr) (cb : Nat) (w : World) (h : Sa w a (ints l)) (hn : l.length = n) (hm : n ≤ maxLen)
    (h' : Sa w b (ints l2)) (hn2 : l2.length = n2) (hc2 : n2 ≤ cb) (hm2 : n2 ≤ maxLen) :
    Calls Try.prog 6 #[.slice a n ca, .int .i64 more, .slice b n2 cb] w fun e w' => e = .returned (.bool true) ∧ Below w.heap.size w w' := by
  unfold maxLen at hm hm2
  obtain ⟨m, m1, m2, m3⟩ : ∃ m : Nat, m ≤ n2 ∧ (m : Int) ≤ 3 ∧ (m = n2 ∨ (m : Int) = 3) := ⟨min n2 3, by omega, by omega, by omega⟩
  have HMIN := Lib.hid (run_min2 #[3, 3] 3 n2 3 m m1 m2 m3)
  have b1 : (m : Int) ≤ (cb : Int) := by omega
  have HN := Lib.hid hn; have HS := Lib.hid h
  obtain ⟨ds, hds⟩ : ∃ ds, l2.take m = ds := ⟨_, rfl⟩
  have HDS : Hid (Sa w b (ints ds)) := Lib.hid (by have := h'.take m; rw [ints_take, hds] at this; exact this)
  have HDL : Hid (ds.length = m) := Lib.hid (by rw [← hds, List.length_take]; omega)
  clear h h' hds hn2 m3 hc2
  by_cases he : (urnL l more ds).2.2 ≠ 0
  · have hb0 := urnL_bad (by rw [HDL.out]; omega) he
    obtain ⟨X, Y, er, hU⟩ : ∃ X Y er, urnL l more ds = (X, Y, er) := ⟨_, _, _, rfl⟩
    rw [hU] at he hb0
    obtain ⟨rfl, rfl⟩ : X = 0 ∧ Y = 0 := hb0
    have HU := Lib.hid hU
    have z : (er != 0) = true := bne_iff_ne.2 he
    clear he hU hn
    go_enter Try.func6, Try.ntmps6
    go_wp2_with fail
    refine (urns_any _).mono ?_; rintro e w1 ⟨rfl, hb⟩
    have F1 := (Fr.start w).keep hb
    clear hb
    go_wp2_with fail
    refine (ratios_any _).mono ?_; rintro e w2 ⟨rfl, hb⟩
    replace F1 := F1.keep hb
    clear hb
    have hmin := HMIN.out
    go_wp2_with fail
    refine (urnChance l n _ _ more ds m _ _ _ (F1.old HS.out) HN.out (F1.old HDS.out) HDL.out).mono ?_; rintro e w3 ⟨rfl, hb⟩
    rw [HU.out]
    have F2 := (F1.keep hb).rat 0 0
    clear F1 hb
    obtain ⟨c0, c1, c2, -⟩ := F2.ratAt 0 rfl
    go_wp2_with fail
    go_ret
    exact ⟨by simp, F2.bel⟩
  · obtain ⟨hc, ok, mo1, mo2, hv⟩ := urnL_good (by rw [HDL.out]; omega) (show (urnL l more ds).2.2 = 0 by omega)
    rw [hn] at ok hv
    have n1 := ok.n1
    have n5 := ok.n5
    have dl4 : ds.length ≤ 3 := by rw [HDL.out]; omega
    have U1 := urnL_small l n more ds hc ok mo1 mo2 hv (by omega)
    have U2 : ∀ t : Nat, t < n → urnL l more (ds ++ [(t : Int)]) = (redP (exN more l (ds ++ [(t : Int)])) (exD more l ds * usum (hav more l ds)), redQ (exN more l (ds ++ [(t : Int)])) (exD more l ds * usum (hav more l ds)), 0) := fun t ht => by
      rw [urnL_small l n more (ds ++ [(t : Int)]) hc ok mo1 mo2 (hv.snoc t ht) (by simp; omega), exD_snoc]
    have NB : ∀ t : Nat, t < n → 0 ≤ exN more l (ds ++ [(t : Int)]) ∧ exN more l (ds ++ [(t : Int)]) ≤ exD more l ds * usum (hav more l ds) := fun t ht => by
      have := exN_bd more mo1 mo2 n _ l 12 ok (hv.snoc t ht)
      rw [exD_snoc] at this
      exact this
    have SB := all_bd more mo1 mo2 n l ok ds hv
    have D0 := exD_small more mo1 mo2 n l (ds ++ [((0 : Nat) : Int)]) ok (hv.snoc 0 (by omega)) (by simp; omega)
    rw [exD_snoc] at D0
    obtain ⟨M1, M2⟩ := all_math ok more mo1 mo2 ds hv
    have ST : ∀ t, allS more l ds (t + 1) = allS more l ds t + exN more l (ds ++ [(t : Int)]) := fun _ => rfl
    have S0 : allS more l ds 0 = 0 := rfl
    generalize exD more l ds * usum (hav more l ds) = D at *
    obtain ⟨x1, hx1⟩ : ∃ z, redP (exN more l ds) (exD more l ds) = z := ⟨_, rfl⟩
    obtain ⟨x2, hx2⟩ : ∃ z, redQ (exN more l ds) (exD more l ds) = z := ⟨_, rfl⟩
    rw [hx1, hx2] at U1
    rw [hx1] at M1
    rw [hx2] at M2
    have HU1 := Lib.hid U1; have HU2 := Lib.hid U2; have HNB := Lib.hid NB; have HM1 := Lib.hid M1; have HM2 := Lib.hid M2; have HST := Lib.hid ST; have HSB := Lib.hid SB; have HS0 := Lib.hid S0
    obtain ⟨D1, D2⟩ := D0
    have RZ := Lib.hid (red_zero D D1)
    clear ok U1 U2 NB M1 M2 ST SB hx1 hx2 hc hn S0 hv dl4 he
    go_enter Try.func6, Try.ntmps6
    go_wp2_with fail
    refine (urns_any _).mono ?_; rintro e w1 ⟨rfl, hb⟩
    have F1 := (Fr.start w).keep hb
    clear hb
    go_wp2_with fail
    refine (ratios_any _).mono ?_; rintro e w2 ⟨rfl, hb⟩
    replace F1 := F1.keep hb
    clear hb
    have hmin := HMIN.out
    go_wp2_with fail
    clear hmin
    refine (urnChance l n _ _ more ds m _ _ _ (F1.old HS.out) HN.out (F1.old HDS.out) HDL.out).mono ?_; rintro e w3 ⟨rfl, hb⟩
    rw [HU1.out]
    have F3 := ((F1.keep hb).rat x1 x2).rat' 0 1 (w3.heap.size + 1) (by simp)
    clear F1 hb
    go_wp2_with fail
    obtain ⟨A, hA⟩ : ∃ A, w3.heap.size = A := ⟨_, rfl⟩
    rw [hA] at F3 ⊢
    obtain ⟨B, hB⟩ : ∃ B, A + 1 = B := ⟨_, rfl⟩
    rw [hB] at F3 ⊢
    go_loopw [41] (fun i wr => ∃ (t : Nat) (X Y : Int), t ≤ n ∧ i = .int .i64 t ∧ Hid (redP (allS more l ds t) D = X ∧ redQ (allS more l ds t) D = Y) ∧ Fr w wr [eR B X Y, eR A x1 x2]) (fun i _ => n - (intOf i).toNat)
    case atStart => exact ⟨0, 0, 1, by omega, rfl, Lib.hid (by rw [HS0.out]; exact RZ.out), F3⟩
    case round =>
      obtain ⟨t, X, Y, ht, rfl, HXY, hfr⟩ := hrel
      clear F3 hA hB
      by_cases hlt : t < n
      · have sb := HSB.out t ht
        have sb2 := HSB.out (t + 1) hlt
        have nb := HNB.out t hlt
        have tD : (t : Int) * D ≤ 5 * D := Int.mul_le_mul_of_nonneg_right (by omega) (by omega)
        have tD2 : ((t + 1 : Nat) : Int) * D ≤ 5 * D := Int.mul_le_mul_of_nonneg_right (by omega) (by omega)
        have r1 := red_rat (allS more l ds t) D (by omega) (by omega)
        have r2 := red_rat (exN more l (ds ++ [(t : Int)])) D (by omega) (by omega)
        have r3 := red_rat (allS more l ds (t + 1)) D (by omega) (by omega)
        have ra := red_add (allS more l ds t) (exN more l (ds ++ [(t : Int)])) D D1
        rw [← HST.out] at ra
        have u2 := HU2.out t hlt
        rw [HXY.out.1, HXY.out.2] at r1 ra
        obtain ⟨X2, hX2⟩ : ∃ z, redP (allS more l ds (t + 1)) D = z := ⟨_, rfl⟩
        obtain ⟨Y2, hY2⟩ : ∃ z, redQ (allS more l ds (t + 1)) D = z := ⟨_, rfl⟩
        obtain ⟨p, hp⟩ : ∃ z, redP (exN more l (ds ++ [(t : Int)])) D = z := ⟨_, rfl⟩
        obtain ⟨q, hq⟩ : ∃ z, redQ (exN more l (ds ++ [(t : Int)])) D = z := ⟨_, rfl⟩
        rw [hX2, hY2] at r3 ra
        rw [hp, hq] at r2 ra u2
        have R1 := Lib.hid r1; have R2 := Lib.hid r2; have R3 := Lib.hid r3; have RA := Lib.hid ra; have UU := Lib.hid u2
        have HXY2 := Lib.hid (And.intro hX2 hY2)
        have HDA : Hid ((ds ++ [(t : Int)]).length = m + 1) := Lib.hid (by simp [HDL.out])
        clear sb sb2 nb tD tD2 r1 r2 r3 ra u2 hX2 hY2 hp hq
        go_wp2_with fail
        refine (slClone ds m _ _ _ (hfr.old HDS.out) HDL.out (by omega)).mono ?_; rintro e w4 ⟨ad3, cp3, rfl, hc3, hf⟩
        have F4 := hfr.call hf
        clear hfr hf
        go_wp2_with (with_reducible refine at_slot 51 ?_; go_must (refine wpList_pushInt rfl _ _ rfl ad3 m cp3 _ (t : Int) _ rfl F4 rfl ?_ ?_); rotate_left; intro ad' cp' w2 hf2 hlt2)
        · refine (urnChance l n _ _ more (ds ++ [(t : Int)]) (m + 1) _ _ _ (hf2.old HS.out) HN.out (hf2.get 0 rfl) HDA.out).mono ?_; rintro e w5 ⟨rfl, hb⟩
          rw [UU.out]
          have F5 := (hf2.tail.keep hb).rat p q
          clear F4 hf2 hb
          obtain ⟨c0, c1, c2, -⟩ := F5.ratAt 0 rfl
          obtain ⟨g0, g1, g2, -⟩ := F5.ratAt 1 rfl
          go_wp2_with fail
          refine (add_fits X Y p q X2 Y2 _ R1.out R2.out RA.out R3.out).mono ?_; rintro e w6 ⟨rfl, hb⟩
          have F6 := (F5.tail.keep hb).rat' X2 Y2 w6.heap.size rfl
          clear F5 hb c0 c1 c2 g0 g1 g2
          obtain ⟨c0, c1, c2, c3, c4, c5⟩ := F6.ratAt 0 rfl
          obtain ⟨g0, g1, g2, g3, g4, g5⟩ := F6.ratAt 1 rfl
          have F8 := Lib.hid (F6.tail.ratPut X2 Y2)
          clear F6
          go_wp2_with fail
          exact ⟨⟨t + 1, X2, Y2, by omega, by simp, HXY2, F8.out⟩, by simp only [intOf]; omega⟩
        · omega
      · obtain rfl : t = n := by omega
        obtain ⟨c0, c1, c2, -⟩ := hfr.ratAt 0 rfl
        obtain ⟨g0, g1, g2, -⟩ := hfr.ratAt 1 rfl
        have q1 : X = x1 := HXY.out.1.symm.trans HM1.out
        have q2 : Y = x2 := HXY.out.2.symm.trans HM2.out
        subst q1 q2
        have HF := Lib.hid hfr
        clear hfr
        go_wp2_with fail
        go_ret
        exact ⟨by simp, HF.out.bel⟩
end Go.Proofs.Ytghobphnjfgjeaa
