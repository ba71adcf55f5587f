/- The walk of the law TableauBack. -/
import Derived.Test.YtefblcchmkmfpaaTabLv
import Derived.Test.YtefblcchmkmfpaaTabK4
import Derived.Test.YtefblcchmkmfpaaPlc
import Derived.Test.YtefblcchmkmfpaaMats2
import Derived.Test.YtefblcchmkmfpaaGood
namespace Go.Proofs.Ytefblcchmkmfpaa
open Go.RowKit

theorem pq_old {adp adq : Option Addr} {np cp nq cq : Nat} {RP RQ : List Rw} {M : List Ent} : ∀ e, e ∈ pqE adp np cp RP adq nq cq RQ [] → e ∈ pqE adp np cp RP adq nq cq RQ M := fun e he => by
  have : pqE adp np cp RP adq nq cq RQ M = pqE adp np cp RP adq nq cq RQ [] ++ M := by simp
  rw [this]; exact List.mem_append_left _ he
theorem isMat_bd {R : List Rw} {P : List (List Int)} (hl : lsR R = P) (h : ∀ p ∈ R, p.2.2.length ≤ 9223372036854775807) : ∀ i, i < P.length → lenN P i ≤ 9223372036854775807 := fun i hi => by
  subst hl
  rw [lsR_len] at hi
  unfold lenN
  rw [getD_get _ i (by rw [lsR_len]; exact hi), lsR_get R i hi]
  exact h _ (List.getElem_mem hi)
set_option maxRecDepth 100000 in
set_option maxHeartbeats 16000000 in
theorem tabBack_law (l0 : List Int) (n0 : Nat) (a : Option Addr) (cap : Nat) (RX RY : List Rw) (mx my : Nat) (ax ay : Option Addr) (cx cy : Nat) (w : World) (h : Sa w a (ints l0)) (hn : l0.length = n0) (hc : n0 ≤ cap) (hm : n0 ≤ maxLen)
    (hx : Rm w ax RX) (hy : Rm w ay RY) (hlx : RX.length = mx) (hly : RY.length = my) (h1 : mx ≤ 9223372036854775807) (h2 : my ≤ 9223372036854775807) (h3 : ∀ p ∈ RX, p.2.2.length ≤ 9223372036854775807) (h4 : ∀ p ∈ RY, p.2.2.length ≤ 9223372036854775807) :
    Calls Try.prog 7 #[.slice a n0 cap, .agg #[.slice ax mx cx, .slice ay my cy]] w fun e w' => e = .returned (.bool true) ∧ Below w.heap.size w w' := by
  have HS := Lib.hid h; have HN := Lib.hid hn; have HX := Lib.hid hx; have HY := Lib.hid hy; have HLX := Lib.hid hlx; have HLY := Lib.hid hly; have H3 := Lib.hid h3; have H4 := Lib.hid h4
  obtain ⟨q1, q2⟩ := permL_ok l0 10
  clear h hn hx hy hlx hly h3 h4
  have HF0 := Lib.hid ((Fr.start w).rp (.slice ax mx cx) (.slice ay my cy) w.heap.size rfl)
  obtain ⟨E, hE⟩ : ∃ E, w.heap.size = E := ⟨_, rfl⟩
  go_enter Try.func7, Try.ntmps7
  go_wp2_with fail
  refine (tableaux_any _).mono ?_; rintro e w1 ⟨rfl, hb⟩
  have HF1 : Hid (Fr w w1 [eP E (.slice ax mx cx) (.slice ay my cy)]) := Lib.hid (by rw [← hE]; exact HF0.out.keep hb)
  clear hb HF0 hE
  go_wp2_with fail
  refine (permOf_any l0 n0 _ _ 10 _ (HF1.out.old HS.out) HN.out hc hm (by omega)).mono ?_; rintro e w2 ⟨ad, n, cp, rfl, hlen, hcp, hf⟩
  have HF2 := Lib.hid (HF1.out.call hf)
  clear hf HF1
  generalize permL l0 10 = A at *
  have hn10 : n ≤ 10 := by omega
  have HA := Lib.hid hlen; have HP := Lib.hid q2
  obtain ⟨o1, o2, o3, o4, o5⟩ := rsk_ok q2 hlen hn10 (rsk_inv q2 n hlen).2
  have HGD := tabOk_gd o1 o2 o3
  rw [o4] at HGD
  have HG := Lib.hid HGD
  have O1 := Lib.hid o1; have O2 := Lib.hid o2; have O3 := Lib.hid o3; have O4 := Lib.hid o4; have O5 := Lib.hid o5
  clear q1 q2 hlen o1 o2 o3 o4 o5 HGD
  go_wp2_with fail
  refine (tabOf A n _ _ _ (HF2.out.get 0 rfl) HA.out HP.out hn10).mono ?_
  rintro e w3 ⟨adp, np, cp1, RP, adq, nq, cq1, RQ, rfl, g1, g2, g3, g4, hF⟩
  obtain ⟨P, hP⟩ : ∃ P, (rsk A n).1 = P := ⟨_, rfl⟩
  obtain ⟨Q, hQ⟩ : ∃ Q, (rsk A n).2 = Q := ⟨_, rfl⟩
  rw [hP] at g1 O1 O3 O4 O5 HG
  rw [hQ] at g2 O2 O3 O5 HG
  have e1 : nq = np := by rw [← g4, ← g3, ← lsR_len, ← lsR_len RP, g1, g2]; have := congrArg List.length O3.out; simpa using this.symm
  subst e1
  have HPL : Hid (P.length = nq) := Lib.hid (by rw [← g1, lsR_len, g3])
  have HQL : Hid (Q.length = nq) := Lib.hid (by rw [← g2, lsR_len, g4])
  have hnq : nq ≤ 10 := by rw [← HPL.out]; exact O1.out.few
  have HF3 := Lib.hid ((HF2.out.call hF).rp (.slice adp nq cp1) (.slice adq nq cq1) w3.heap.size rfl)
  have G1 := Lib.hid g1; have G2 := Lib.hid g2
  have hpq := HF3.out.rmPQ (adp := adp) (np := nq) (cp := cp1) (RP := RP) (adq := adq) (nq := nq) (cq := cq1) (RQ := RQ) (fun e he => List.mem_cons_of_mem _ (List.mem_append_left _ he))
  obtain ⟨W3, hW3⟩ : ∃ W3, w3.alloc (.cells #[.slice adp nq cp1, .slice adq nq cq1] 37) = W3 := ⟨_, rfl⟩
  rw [hW3] at hpq HF3
  have HPQ := Lib.hid hpq
  obtain ⟨D, hD⟩ : ∃ D, w3.heap.size = D := ⟨_, rfl⟩
  rw [hD] at HF3
  obtain ⟨c0, c1, -, -, -, -⟩ := HF3.out.rpM (b := D) (v1 := .slice adp nq cp1) (v2 := .slice adq nq cq1) (by simp)
  rw [← hW3] at c0 c1
  have HHP := Lib.hid hP; have HHQ := Lib.hid hQ
  have HBK := Lib.hid (tabBack RP RQ P Q nq n adp adq cp1 cq1 W3 hpq.1 hpq.2 g1 g2 HPL.out HQL.out O1.out O2.out HG.out O4.out)
  rw [O5.out] at HBK
  rw [← hW3] at HBK
  have HW3 := Lib.hid hW3
  clear hF g1 g2 g3 g4 HF2 hpq hP hQ hW3
  go_wp2_with fail
  refine HBK.out.mono ?_; rintro e w4 ⟨ad4, cp4, rfl, hc4, hf⟩
  rw [HW3.out] at hf
  have HF4 := Lib.hid (HF3.out.call hf)
  have HK4 := Lib.hid hf.bel
  clear hf HF3 c0 c1 HBK hD
  go_wp2_with fail
  refine (good2b _ w4.heap.size _ rfl).mono ?_; rintro e w' ⟨rfl, rfl⟩
  have HF5 := Lib.hid (HF4.out.alloc (.cells #[.int .i64 0, .int .i64 0] 22))
  have HK5 := Lib.hid (kin_trans HK4.out (kin_alloc (Below.refl _ _) (.cells #[.int .i64 0, .int .i64 0] 22)))
  clear HF4 HK4
  go_wp2_with fail
  refine (slEqual A A n n _ _ _ _ _ (HF5.out.mem (T := 3) (ad := ad) (n := n) (cap := cp) (by simp)) (HF5.out.mem (T := 3) (ad := ad4) (n := n) (cap := cp4) (by simp)) HA.out HA.out (by omega) (by omega)).mono ?_; rintro e w5 ⟨rfl, hf⟩
  rw [decide_eq_true rfl]
  have HF6 := Lib.hid (HF5.out.keep hf.bel)
  have HK6 := Lib.hid (kin_trans HK5.out hf.bel)
  clear hf HF5 HK5
  obtain ⟨c0, c1, -, -, -, -⟩ := HF6.out.rpM (b := D) (v1 := .slice adp nq cp1) (v2 := .slice adq nq cq1) (by simp)
  go_wp2_with fail
  refine (tabChk RP P nq adp cp1 _ (HPQ.out.1.keep HK6.out) G1.out HPL.out (by omega) (fun i hi => by have := lenN_tot P i (by rw [HPL.out]; exact hi); have := O1.out.tot; omega)).mono ?_
  rintro e w6 ⟨er, rfl, her, hf⟩
  obtain rfl : er = 0 := by
    rcases her with ⟨h, _⟩ | ⟨_, h⟩
    · exact h
    · exact absurd O1.out h
  have HF7 := Lib.hid (HF6.out.keep hf.bel)
  have HK7 := Lib.hid (kin_trans HK6.out hf.bel)
  clear hf her HF6 HK6 c0 c1
  obtain ⟨c0, c1, -, -, -, -⟩ := HF7.out.rpM (b := D) (v1 := .slice adp nq cp1) (v2 := .slice adq nq cq1) (by simp)
  go_wp2_with fail
  refine (tabChk RQ Q nq adq cq1 _ (HPQ.out.2.keep HK7.out) G2.out HQL.out (by omega) (fun i hi => by have := lenN_tot Q i (by rw [HQL.out]; exact hi); have := O2.out.tot; omega)).mono ?_
  rintro e w7 ⟨er, rfl, her, hf⟩
  obtain rfl : er = 0 := by
    rcases her with ⟨h, _⟩ | ⟨_, h⟩
    · exact h
    · exact absurd O2.out h
  have HF8 := Lib.hid (HF7.out.keep hf.bel)
  have HK8 := Lib.hid (kin_trans HK7.out hf.bel)
  clear hf her HF7 HK7 c0 c1
  obtain ⟨c0, c1, -, -, -, -⟩ := HF8.out.rpM (b := D) (v1 := .slice adp nq cp1) (v2 := .slice adq nq cq1) (by simp)
  have z0 : ((nq : Int) != (nq : Int)) = false := by simp
  go_wp2_with fail
  clear z0
  have hLEN : ∀ i, i < nq → lenN P i = lenN Q i := fun i hi => by
    have h := congrArg (fun L => L[i]?) O3.out
    have hp : i < P.length := by rw [HPL.out]; exact hi
    have hq : i < Q.length := by rw [HQL.out]; exact hi
    simp only [List.getElem?_map, List.getElem?_eq_getElem hp, List.getElem?_eq_getElem hq] at h
    unfold lenN
    rw [getD_get P i hp, getD_get Q i hq]
    simpa using h
  have HLEN := Lib.hid hLEN
  clear hLEN
  obtain ⟨L8, hF8, hL1, hL2⟩ : ∃ L, Fr w w7 L ∧ eP D (.slice adp nq cp1) (.slice adq nq cq1) ∈ L ∧ eP E (.slice ax mx cx) (.slice ay my cy) ∈ L := ⟨_, HF8.out, by simp, by simp⟩
  have HL1 := Lib.hid hL1; have HL2 := Lib.hid hL2
  clear hL1 hL2 HF8 c0 c1
  go_loopw [64] (fun i wr => ∃ r : Nat, r ≤ nq ∧ i = .int .i64 r ∧ Hid (Fr w wr L8) ∧ Hid (Below W3.heap.size W3 wr)) (fun i _ => nq - (intOf i).toNat)
  case atStart => exact ⟨0, by omega, rfl, Lib.hid hF8, HK8⟩
  case round =>
    obtain ⟨i, hi, rfl, HF, HK⟩ := hrel
    clear HK8 hF8
    by_cases hlt : i < nq
    · obtain ⟨b1, o1, a1, q1, rfl, -, x1, -⟩ := (HPQ.out.1.keep HK.out).rowAt G1.out i (by rw [HPL.out]; exact hlt)
      obtain ⟨b2, o2, a2, q2, rfl, -, x2, -⟩ := (HPQ.out.2.keep HK.out).rowAt G2.out i (by rw [HQL.out]; exact hlt)
      have e1 : (P.getD i []).length = lenN P i := rfl
      have e2 : (Q.getD i []).length = lenN P i := by rw [HLEN.out i hlt]; rfl
      rw [e1] at x1
      rw [e2] at x2
      obtain ⟨c0, c1, -, -, -, -⟩ := HF.out.rpM HL1.out
      obtain ⟨z, hz⟩ : ∃ z, lenN P i = z := ⟨_, rfl⟩
      rw [hz] at x1 x2
      have d1 : (0 : Int) ≤ (i : Int) := by omega
      have d2 : (i : Int) < (nq : Int) := by omega
      have z1 : ((z : Int) != (z : Int)) = false := by simp
      clear e1 e2 hz
      go_wp2_with fail
      go_quiet (fail)
      go_wp2_with fail
      exact ⟨⟨i + 1, by omega, by simp, Lib.hid (HF.out.drewN _), Lib.hid (kin_trans HK.out ((Fr.start wr).drewN _).bel)⟩, by simp only [intOf]; omega⟩
    · obtain ⟨c0, c1, -, -, -, -⟩ := HF.out.rpM HL2.out
      obtain ⟨PX, hPX⟩ : ∃ PX, lsR RX = PX := ⟨_, rfl⟩
      obtain ⟨PY, hPY⟩ : ∃ PY, lsR RY = PY := ⟨_, rfl⟩
      have HPX := Lib.hid hPX; have HPY := Lib.hid hPY
      have HLPX : Hid (PX.length = mx) := Lib.hid (by rw [← hPX, lsR_len, HLX.out])
      have HLPY : Hid (PY.length = my) := Lib.hid (by rw [← hPY, lsR_len, HLY.out])
      have z3 : decide ((i : Int) < (nq : Int)) = false := decide_eq_false (by omega)
      clear hPX hPY HK
      go_wp2_with fail
      clear z3
      by_cases hok : TabOk PX ∧ TabOk PY ∧ PX.map List.length = PY.map List.length
      · obtain ⟨k1, k2, k3⟩ := hok
        have hmm : my = mx := by have := congrArg List.length k3; simp only [List.length_map, HLPX.out, HLPY.out] at this; exact this.symm
        subst hmm
        obtain ⟨m, hm'⟩ : ∃ m, totN PX = m := ⟨_, rfl⟩
        have hm10 : m ≤ 10 := by rw [← hm']; exact k1.tot
        have HG2 := tabOk_gd k1 k2 k3
        obtain ⟨b1, b2⟩ := back_ok k1 k2 k3
        rw [hm'] at HG2 b1 b2
        have HBL := Lib.hid (back_len m PX PY)
        obtain ⟨C, hC⟩ : ∃ C, back m PX PY = C := ⟨_, rfl⟩
        have HBK := Lib.hid (tabBack RX RY PX PY my m ax ay cx cy wr (HX.out.keep HF.out.bel) (HY.out.keep HF.out.bel) HPX.out HPY.out HLPX.out HLPY.out k1 k2 HG2 hm')
        rw [hC] at b1 b2 HBL HBK
        have B1 := Lib.hid b1; have B2 := Lib.hid b2
        have hmy : my ≤ 1000 := by have := k1.few; rw [HLPX.out] at this; omega
        clear k3 HG2 b1 b2 hC hm'
        refine HBK.out.mono ?_; rintro e w8 ⟨ad5, cp5, rfl, hc5, hf⟩
        have HF9 := Lib.hid (HF.out.call hf)
        clear hf HF HBK c0 c1 k1 k2
        go_wp2_with fail
        refine (tabOf C m _ _ _ (HF9.out.mem (T := 3) (ad := ad5) (n := m) (cap := cp5) (by simp)) HBL.out B1.out hm10).mono ?_
        rintro e w9 ⟨adu, nu, cu, RU, adv, nv, cv, RV, rfl, h5, h6, h7, h8, hF⟩
        rw [B2.out] at h5 h6
        obtain rfl : nu = my := by rw [← h7, ← lsR_len, h5, HLPX.out]
        obtain rfl : nv = nu := by rw [← h8, ← lsR_len, h6, HLPY.out]
        have H5 := Lib.hid h5; have H6 := Lib.hid h6; have H7 := Lib.hid h7; have H8 := Lib.hid h8
        have HF10 := Lib.hid ((HF9.out.call hF).rp (.slice adu nv cu) (.slice adv nv cv) w9.heap.size rfl)
        clear hF h5 h6 h7 h8 HF9
        obtain ⟨c0, c1, -, -, -, -⟩ := HF10.out.rpM (b := w9.heap.size) (v1 := .slice adu nv cu) (v2 := .slice adv nv cv) (by simp)
        obtain ⟨d0, d1, -, -, -, -⟩ := HF10.out.rpM (b := E) (v1 := .slice ax nv cx) (v2 := .slice ay nv cy) (List.mem_cons_of_mem _ (List.mem_append_right _ (List.mem_append_right _ HL2.out)))
        have HUV := Lib.hid (HF10.out.rmPQ (adp := adu) (np := nv) (cp := cu) (RP := RU) (adq := adv) (nq := nv) (cq := cv) (RQ := RV) (fun e he => List.mem_cons_of_mem _ (List.mem_append_left _ he)))
        go_wp2_with fail
        refine (rowsSame RU RX nv _ _ _ _ _ HUV.out.1 (HX.out.keep HF10.out.bel) H7.out (by rw [H5.out, HPX.out]) hmy (row_small (l := C) (k := m) (.inl (by rw [H5.out, B2.out])) hm10)).mono ?_; rintro e w10 ⟨rfl, hf⟩
        have HF11 := Lib.hid (HF10.out.keep hf.bel)
        have HK := Lib.hid hf.bel
        clear hf HF10 c0 c1 d0 d1
        obtain ⟨c0, c1, -, -, -, -⟩ := HF11.out.rpM (b := w9.heap.size) (v1 := .slice adu nv cu) (v2 := .slice adv nv cv) (by simp)
        obtain ⟨d0, d1, -, -, -, -⟩ := HF11.out.rpM (b := E) (v1 := .slice ax nv cx) (v2 := .slice ay nv cy) (List.mem_cons_of_mem _ (List.mem_append_right _ (List.mem_append_right _ HL2.out)))
        go_wp2_with fail
        refine (rowsSame RV RY nv _ _ _ _ _ (HUV.out.2.keep HK.out) (HY.out.keep HF11.out.bel) H8.out (by rw [H6.out, HPY.out]) hmy (row_small (l := C) (k := m) (.inr (by rw [H6.out, B2.out])) hm10)).mono ?_; rintro e w11 ⟨rfl, hf⟩
        have HF12 := Lib.hid (HF11.out.keep hf.bel)
        clear hf HF11 c0 c1 d0 d1
        go_wp2_with fail
        go_ret
        exact ⟨by simp, HF12.out.bel⟩
      · have HBN := Lib.hid (tabBackNo RX RY PX PY mx my ax ay cx cy wr (HX.out.keep HF.out.bel) (HY.out.keep HF.out.bel) HPX.out HPY.out HLPX.out HLPY.out h1 h2
          (fun j hj => isMat_bd HPX.out H3.out j (by rw [HLPX.out]; exact hj)) (fun j hj => isMat_bd HPY.out H4.out j (by rw [HLPY.out]; exact hj)) hok)
        refine HBN.out.mono ?_; rintro e w8 ⟨er, hne, rfl, hf⟩
        have HF9 := Lib.hid (HF.out.keep hf.bel)
        have z : (er != 0) = true := by rw [bne_iff_ne]; exact hne
        clear hf HF c0 c1 HBN hok
        go_wp2_with fail
        go_ret
        exact ⟨by simp, HF9.out.bel⟩
theorem tabBack_row (a : Option Addr) (len cap : Nat) (z : List Int) (ax : Option Addr) (mx cx : Nat) (ay : Option Addr) (my cy : Nat) (w : World) (h : IsRow .i64 w a len cap z) (hx : IsMat w ax mx cx) (hy : IsMat w ay my cy) :
    Calls Try.prog 7 #[.slice a len cap, .agg #[.slice ax mx cx, .slice ay my cy]] w fun e w' => e = .returned (.bool true) ∧ Below w.heap.size w w' := by
  obtain ⟨-, x1, RX, x2, x3, x4⟩ := hx
  obtain ⟨-, y1, RY, y2, y3, y4⟩ := hy
  exact tabBack_law (z.take len) len a cap RX RY mx my ax ay cx cy w h.sa.1 h.sa.2.1 h.cap h.sa.2.2.1 x3 y3 x2 y2 x1 y1 (fun p hp => (x4 p hp).1) (fun p hp => (y4 p hp).1)
end Go.Proofs.Ytefblcchmkmfpaa
