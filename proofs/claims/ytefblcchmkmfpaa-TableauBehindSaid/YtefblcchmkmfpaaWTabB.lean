/- The walk of the law TableauBehind. -/
import Derived.Test.YtefblcchmkmfpaaTabLv
import Derived.Test.YtefblcchmkmfpaaRmS
import Derived.Test.YtefblcchmkmfpaaKnu
import Derived.Test.YtefblcchmkmfpaaTbL
import Derived.Test.YtefblcchmkmfpaaSlFn2
import Derived.Test.YtefblcchmkmfpaaGood
namespace Go.Proofs.Ytefblcchmkmfpaa
open Go.RowKit

theorem nth_rev (l : List Int) (i : Nat) (h : i < l.length) : nth l.reverse i = nth l (l.length - 1 - i) := by
  unfold nth
  rw [List.getD_eq_getElem?_getD, List.getD_eq_getElem?_getD, List.getElem?_reverse h]
theorem isP_rev {l : List Int} (h : IsP l) : IsP l.reverse := by
  refine ⟨fun i hi => ?_, fun i j hi hj e => ?_⟩
  · rw [List.length_reverse] at hi ⊢
    rw [nth_rev l i hi]
    exact h.bd _ (by omega)
  · rw [List.length_reverse] at hi hj
    rw [nth_rev l i hi, nth_rev l j hj] at e
    have := h.inj _ _ (by omega) (by omega) e
    omega
theorem Fr.rmPQ {w0 w : World} {L : List Ent} {adp adq : Option Addr} {np cp nq cq : Nat} {RP RQ : List Rw} (h : Fr w0 w L) (hs : ∀ e, e ∈ pqE adp np cp RP adq nq cq RQ [] → e ∈ L) : Rm w adp RP ∧ Rm w adq RQ := by
  refine ⟨h.rm (n := np) (cap := cp) (hs _ (by simp)) (fun p hp => hs _ ?_), h.rm (n := nq) (cap := cq) (hs _ (by simp)) (fun p hp => hs _ ?_)⟩
  · exact List.mem_cons_of_mem _ (List.mem_append_left _ (List.mem_map_of_mem hp))
  · exact List.mem_cons_of_mem _ (List.mem_append_right _ (List.mem_cons_of_mem _ (List.mem_append_left _ (List.mem_map_of_mem hp))))
/-- the row i of rows that read as these -/
theorem Rm.row_at {w : World} {a : Option Addr} {R : List Rw} {T : List (List Int)} (h : Rm w a R) (e : lsR R = T) (i : Nat) (r : List Int) (hi : T[i]? = some r) :
    ∃ b off a1 c1, a = some ⟨b, off, .none⟩ ∧ w.cell? ⟨b, off + i, .none⟩ = some (.slice a1 r.length c1) ∧ Sa w a1 (ints r) := by
  have hiR : i < R.length := by
    have := (List.getElem?_eq_some_iff.1 hi).1
    rw [← e, lsR_len] at this; exact this
  obtain ⟨b, off, ea, _, hc, hs⟩ := h.at i hiR
  have hr : R[i].2.2 = r := by
    rw [← e] at hi
    unfold lsR at hi
    rw [List.getElem?_map, List.getElem?_eq_getElem hiR] at hi
    exact Option.some.inj hi
  unfold rv at hc
  rw [hr] at hc hs
  exact ⟨b, off, _, _, ea, hc, hs⟩
set_option maxRecDepth 100000 in
set_option maxHeartbeats 8000000 in
theorem tabBehind_any (l0 : List Int) (n0 : Nat) (a : Option Addr) (cap : Nat) (w : World) (h : Sa w a (ints l0)) (hn : l0.length = n0) (hc : n0 ≤ cap) (hm : n0 ≤ maxLen) :
    Calls Try.prog 4 #[.slice a n0 cap] w fun e w' => e = .returned (.bool true) ∧ Below w.heap.size w w' := by
  have HS := Lib.hid h; have HN := Lib.hid hn
  obtain ⟨q1, q2⟩ := permL_ok l0 10
  clear h hn
  go_enter Try.func4, Try.ntmps4
  go_wp2_with fail
  refine (tableaux_any _).mono ?_; rintro e w1 ⟨rfl, hb⟩
  have HF1 := Lib.hid ((Fr.start w).keep hb)
  clear hb
  go_wp2_with fail
  refine (permOf_any l0 n0 _ _ 10 _ (HF1.out.old HS.out) HN.out hc hm (by omega)).mono ?_; rintro e w2 ⟨ad, n, cp, rfl, hlen, hcp, hf⟩
  have HF2 := Lib.hid (HF1.out.call hf)
  clear hf HF1
  generalize permL l0 10 = A at *
  have hn10 : n ≤ 10 := by omega
  have HA := Lib.hid hlen; have HP := Lib.hid q2; have HPR := Lib.hid (isP_rev q2)
  have HRL : Hid (A.reverse.length = n) := Lib.hid (by rw [List.length_reverse, hlen])
  have hnd := isP_nodup q2
  have HT : Hid ((rsk A n).1 = insAll A) := Lib.hid (by rw [rsk_P A n (by omega), List.take_of_length_le (by omega)])
  have HT' : Hid ((rsk A.reverse n).1 = tr (insAll A)) := Lib.hid (by rw [rsk_P _ n (by rw [HRL.out]; exact Nat.le_refl _), List.take_of_length_le (by rw [HRL.out]; exact Nat.le_refl _)]; exact ins_rev hnd)
  have HSD := Lib.hid (ins_std _ A rfl hnd)
  have hbd := rsk_bd A n
  rw [HT.out] at hbd
  have HBD := Lib.hid hbd
  clear q1 q2 hlen hnd hbd
  go_wp2_with fail
  refine (slClone A n _ _ _ (HF2.out.get 0 rfl) HA.out (by omega)).mono ?_; rintro e w3 ⟨adv, cpv, rfl, hcv, hf⟩
  have F3 := HF2.out.call hf
  clear hf HF2
  go_wp2_with fail
  refine (slReverseAll A n cpv adv _ _ F3 (by omega)).mono ?_; rintro e w4 ⟨rfl, hf⟩
  have HF4 : Hid (Fr w w4 [⟨3, .slice adv n cpv, ints A.reverse⟩, ⟨3, .slice ad n cp, ints A⟩]) := Lib.hid (by simpa using hf)
  clear hf F3
  go_wp2_with fail
  refine (tabOf A n _ _ _ (HF4.out.get 1 rfl) HA.out HP.out hn10).mono ?_
  rintro e w5 ⟨adp, np, cp1, RP, adq, nq, cq, RQ, rfl, h1, h2, h3, h4, hF⟩
  rw [HT.out] at h1
  have HF5 := Lib.hid ((HF4.out.call hF).rp (.slice adp np cp1) (.slice adq nq cq) w5.heap.size rfl)
  have H1 := Lib.hid h1; have H3 := Lib.hid h3
  clear hF h1 h2 h3 h4 HF4
  go_wp2_with fail
  refine (tabOf A.reverse n _ _ _ (HF5.out.mem (T := 3) (n := n) (cap := cpv) (by simp)) HRL.out HPR.out hn10).mono ?_
  rintro e w6 ⟨adp', np', cp1', RP', adq', nq', cq', RQ', rfl, g1, g2, g3, g4, hF⟩
  rw [HT'.out] at g1
  have HF6 := Lib.hid ((HF5.out.call hF).rp (.slice adp' np' cp1') (.slice adq' nq' cq') w6.heap.size rfl)
  have G1 := Lib.hid g1; have G3 := Lib.hid g3
  clear hF g1 g2 g3 g4 HF5
  go_wp2_with fail
  refine (good2b _ (w6.heap.size + 1) _ (by simp)).mono ?_; rintro e w' ⟨rfl, rfl⟩
  have HF7 := Lib.hid (HF6.out.alloc (.cells #[.int .i64 0, .int .i64 0] 22))
  clear HF6
  obtain ⟨WW, hWW⟩ : ∃ WW, ((w6.alloc (.cells #[.slice adp' np' cp1', .slice adq' nq' cq'] 37)).alloc (.cells #[.int .i64 0, .int .i64 0] 22)) = WW := ⟨_, rfl⟩
  rw [hWW] at HF7 ⊢
  clear hWW
  obtain ⟨B1, hB1⟩ : ∃ B1, w5.heap.size = B1 := ⟨_, rfl⟩
  obtain ⟨B2, hB2⟩ : ∃ B2, w6.heap.size = B2 := ⟨_, rfl⟩
  obtain ⟨c0, c1, -, -, -, -⟩ := HF7.out.rpM (b := w5.heap.size) (v1 := .slice adp np cp1) (v2 := .slice adq nq cq) (by simp)
  obtain ⟨d0, d1, -, -, -, -⟩ := HF7.out.rpM (b := w6.heap.size) (v1 := .slice adp' np' cp1') (v2 := .slice adq' nq' cq') (by simp)
  rw [hB1] at c0
  rw [hB2] at d0
  clear c1 d1
  have HPQ := Lib.hid (HF7.out.rmPQ (adp := adp) (np := np) (cp := cp1) (RP := RP) (adq := adq) (nq := nq) (cq := cq) (RQ := RQ) (fun e he => List.mem_cons_of_mem _ (List.mem_append_right _ (List.mem_cons_of_mem _ (List.mem_append_left _ he))))).1
  have HPQ' := Lib.hid (HF7.out.rmPQ (adp := adp') (np := np') (cp := cp1') (RP := RP') (adq := adq') (nq := nq') (cq := cq') (RQ := RQ') (fun e he => List.mem_cons_of_mem _ (List.mem_append_left _ he))).1
  have HBEL := Lib.hid HF7.out.bel
  have HL : Hid ((insAll A).length = np) := Lib.hid (by rw [← H1.out, lsR_len, H3.out])
  have HL' : Hid ((tr (insAll A)).length = np') := Lib.hid (by rw [← G1.out, lsR_len, G3.out])
  rw [hB1, hB2]
  clear HF7 hB1 hB2
  go_wp2_with fail
  go_loop [39] (fun i => ∃ k : Nat, k ≤ np ∧ i = .int .i64 k) (fun i => np - (intOf i).toNat)
  case atStart => exact ⟨0, by omega, rfl⟩
  case round =>
    obtain ⟨i, hi, rfl⟩ := hrel
    by_cases hlt : i < np
    · obtain ⟨r, hr⟩ : ∃ r, (insAll A)[i]? = some r := ⟨_, List.getElem?_eq_getElem (by rw [HL.out]; exact hlt)⟩
      obtain ⟨b1, o1, a1, q1, e1, x1, s1⟩ := HPQ.out.row_at H1.out i r hr
      subst e1
      have hrl : r.length ≤ 10 := by
        have := HBD.out.2.2.1 r (List.mem_of_getElem? hr)
        omega
      have HCOL := Lib.hid (tr_get (insAll A) HSD.out i r hr)
      have HS1 := Lib.hid s1
      have hnp : np ≤ 10 := by have := HBD.out.1; rw [HL.out] at this; omega
      obtain ⟨m, hm⟩ : ∃ m, r.length = m := ⟨_, rfl⟩
      have HM := Lib.hid hm
      rw [hm] at x1 hrl
      clear s1 hm hr
      have d1 : (0 : Int) ≤ (i : Int) := by omega
      have d2 : (i : Int) < (np : Int) := by omega
      go_wp2_with fail
      go_loop [46] (fun j => ∃ k : Nat, k ≤ m ∧ j = .int .i64 k) (fun j => m - (intOf j).toNat)
      case atStart => exact ⟨0, by omega, rfl⟩
      case round =>
        obtain ⟨k, hk, rfl⟩ := hrel
        by_cases hlt2 : k < m
        · obtain ⟨c, hc1, hc2, hc3⟩ := HCOL.out k (by rw [HM.out]; exact hlt2)
          obtain ⟨b2, o2, a2, q2, e2, x2, s2⟩ := HPQ'.out.row_at G1.out k c hc1
          subst e2
          obtain ⟨b3, o3, rfl, _, x3⟩ := HS1.out.int k (by rw [HM.out]; exact hlt2)
          obtain ⟨b4, o4, rfl, _, x4⟩ := s2.int i hc2
          rw [hc3] at x4
          have hkp : k < np' := by rw [← HL'.out]; exact (List.getElem?_eq_some_iff.1 hc1).1
          obtain ⟨v, hv⟩ : ∃ v, nth r k = v := ⟨_, rfl⟩
          rw [hv] at x3 x4
          obtain ⟨cl, hcl⟩ : ∃ cl, c.length = cl := ⟨_, rfl⟩
          rw [hcl] at x2 hc2
          clear hv hcl hc1 hc3 s2
          have f1 : decide ((np' : Int) ≤ (k : Int)) = false := decide_eq_false (by omega)
          have f2 : decide ((cl : Int) ≤ (i : Int)) = false := decide_eq_false (by omega)
          have f3 : (0 : Int) ≤ (k : Int) := by omega
          have f4 : (k : Int) < (np' : Int) := by omega
          have f5 : (i : Int) < (cl : Int) := by omega
          have f6 : (v != v) = false := by simp
          go_wp2_with fail
          go_round
          case rel => exact ⟨k + 1, by omega, by go_num⟩
          case measure => simp only [intOf]; omega
        · go_wp2_with fail
          exact ⟨⟨i + 1, by omega, by go_num⟩, by simp only [intOf]; omega⟩
    · obtain rfl : i = np := by omega
      clear hlt
      rcases Nat.eq_zero_or_pos i with h0 | h0
      · subst h0
        have hT0 : insAll A = [] := List.eq_nil_of_length_eq_zero HL.out
        have hnp' : np' = 0 := by rw [← HL'.out, hT0]; rfl
        clear hT0
        subst hnp'
        go_wp2_with fail
        go_quiet (fail)
        go_wp2_with fail
        go_ret
        exact ⟨by simp, kin_trans HBEL.out ⟨rfl, rfl, rfl, Nat.le_refl _, fun _ _ => rfl⟩⟩
      · obtain ⟨r0, R0, hT⟩ : ∃ r0 R0, insAll A = r0 :: R0 := by
          cases hq : insAll A with
          | nil => have := HL.out; rw [hq] at this; simp at this; omega
          | cons r0 R0 => exact ⟨r0, R0, rfl⟩
        have hnp' : np' = r0.length := by rw [← HL'.out, hT, tr_len]
        obtain ⟨b1, o1, a1, q1, e1, x1, s1⟩ := HPQ.out.row_at H1.out 0 r0 (by rw [hT]; rfl)
        subst e1
        rw [← hnp', Nat.add_zero] at x1
        have g5 : ((i : Int) == 0) = false := by rw [beq_eq_false_iff_ne]; omega
        have g6 : decide ((0 : Int) < (i : Int)) = true := decide_eq_true (by omega)
        have g7 : ((np' : Int) == (np' : Int)) = true := by simp
        clear hnp' hT s1
        go_wp2_with fail
        go_quiet (fail)
        go_wp2_with fail
        go_ret
        exact ⟨by simp, kin_trans HBEL.out ⟨rfl, rfl, rfl, Nat.le_refl _, fun _ _ => rfl⟩⟩
theorem tabBehind_row (a : Option Addr) (len cap : Nat) (z : List Int) (w : World) (h : IsRow .i64 w a len cap z) :
    Calls Try.prog 4 #[.slice a len cap] w fun e w' => e = .returned (.bool true) ∧ Below w.heap.size w w' :=
  tabBehind_any (z.take len) len a cap w h.sa.1 h.sa.2.1 h.cap h.sa.2.2.1
end Go.Proofs.Ytefblcchmkmfpaa
