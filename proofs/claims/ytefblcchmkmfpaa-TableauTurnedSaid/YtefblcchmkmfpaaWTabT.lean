/- The walk of the law TableauTurned. -/
import Derived.Test.YtefblcchmkmfpaaTabLv
import Derived.Test.YtefblcchmkmfpaaRmS
import Derived.Test.YtefblcchmkmfpaaVie
import Derived.Test.YtefblcchmkmfpaaGrp
import Derived.Test.YtefblcchmkmfpaaGood
namespace Go.Proofs.Ytefblcchmkmfpaa
open Go.RowKit

def plc (l : List Int) (t : Nat) : Option Nat := if t < l.length then some (nth l t).toNat else none
theorem plc_rsk {l : List Int} (h : ∀ i, i < l.length → 0 ≤ nth l i) : ∀ k, k ≤ l.length → rsk l k = SF (plc l) k
  | 0, _ => rfl
  | k + 1, hk => by
    have hp : plc l k = some (nth l k).toNat := by unfold plc; rw [if_pos (by omega)]
    have := h k (by omega)
    rw [SF_some hp, rsk, plc_rsk h k (by omega), show (((nth l k).toNat : Nat) : Int) = nth l k by omega]
theorem plc_opp {l : List Int} (h : IsP l) : Opp l.length (plc l) (plc (invL l)) := by
  have hl := invL_len l
  have key : ∀ t v, plc l t = some v → plc (invL l) v = some t := fun t v e => by
    unfold plc at e ⊢
    split at e
    · next ht =>
      have hv := Option.some.inj e
      obtain ⟨a1, a2⟩ := h.at t ht
      have a3 := invL_at h t ht
      rw [hv] at a1 a3
      rw [if_pos (by omega), a3]; simp
    · cases e
  refine ⟨fun t v => ⟨key t v, fun e => ?_⟩, fun t v e => ?_, fun t v e => ?_⟩
  · unfold plc at e
    split at e
    · next hv =>
      rw [hl] at hv
      obtain ⟨i, hi, e2⟩ := isP_get h v hv
      have a3 := invL_at h i hi
      rw [e2] at a3
      rw [a3] at e
      have : i = t := by have := Option.some.inj e; omega
      subst this
      unfold plc
      rw [if_pos hi, e2]
    · cases e
  · unfold plc at e
    split at e
    · assumption
    · cases e
  · unfold plc at e
    split at e
    · next ht =>
      have := h.at t ht
      have := Option.some.inj e
      omega
    · cases e
theorem rsk_inv {l : List Int} (h : IsP l) (n : Nat) (hn : l.length = n) : (rsk l n).1 = (rsk (invL l) n).2 ∧ (rsk l n).2 = (rsk (invL l) n).1 := by
  subst hn
  have h2 := inv_isP h
  rw [plc_rsk (fun i hi => (h.bd i hi).1) _ (Nat.le_refl _), plc_rsk (fun i hi => (h2.bd i hi).1) _ (by rw [invL_len]; exact Nat.le_refl _)]
  exact SF_opp _ (plc_opp h) rfl
theorem row_small {R : List Rw} {l : List Int} {k : Nat} (h : lsR R = (rsk l k).1 ∨ lsR R = (rsk l k).2) (hk : k ≤ 10) : ∀ p ∈ R, p.2.2.length ≤ 1000 := fun p hp => by
  have hb := rsk_bd l k
  have hm : p.2.2 ∈ lsR R := List.mem_map_of_mem (f := fun p : Rw => p.2.2) hp
  rcases h with h | h
  · rw [h] at hm; have := hb.2.2.1 _ hm; omega
  · rw [h] at hm; have := hb.2.2.2 _ hm; omega
theorem Fr.rmPQ {w0 w : World} {L : List Ent} {adp adq : Option Addr} {np cp nq cq : Nat} {RP RQ : List Rw} (h : Fr w0 w L) (hs : ∀ e, e ∈ pqE adp np cp RP adq nq cq RQ [] → e ∈ L) : Rm w adp RP ∧ Rm w adq RQ := by
  refine ⟨h.rm (n := np) (cap := cp) (hs _ (by simp)) (fun p hp => hs _ ?_), h.rm (n := nq) (cap := cq) (hs _ (by simp)) (fun p hp => hs _ ?_)⟩
  · exact List.mem_cons_of_mem _ (List.mem_append_left _ (List.mem_map_of_mem hp))
  · exact List.mem_cons_of_mem _ (List.mem_append_right _ (List.mem_cons_of_mem _ (List.mem_append_left _ (List.mem_map_of_mem hp))))
set_option maxRecDepth 100000 in
set_option maxHeartbeats 8000000 in
theorem tabTurned_any (l0 : List Int) (n0 : Nat) (a : Option Addr) (cap : Nat) (w : World) (h : Sa w a (ints l0)) (hn : l0.length = n0) (hc : n0 ≤ cap) (hm : n0 ≤ maxLen) :
    Calls Try.prog 5 #[.slice a n0 cap] w fun e w' => e = .returned (.bool true) ∧ Below w.heap.size w w' := by
  have HS := Lib.hid h; have HN := Lib.hid hn
  obtain ⟨q1, q2⟩ := permL_ok l0 10
  clear h hn
  go_enter Try.func5, Try.ntmps5
  go_wp2_with fail
  refine (tableaux_any _).mono ?_; rintro e w1 ⟨rfl, hb⟩
  have HF1 := Lib.hid ((Fr.start w).keep hb)
  clear hb
  go_wp2_with fail
  refine (permOf_any l0 n0 _ _ 10 _ (HF1.out.old HS.out) HN.out hc hm (by omega)).mono ?_; rintro e w2 ⟨ad, n, cp, rfl, hlen, hcp, hf⟩
  have HF2 := Lib.hid (HF1.out.call hf)
  clear hf HF1
  generalize permL l0 10 = A at *
  have hn10 : n ≤ 10 := by omega
  obtain ⟨v1, v2⟩ := rsk_inv q2 n hlen
  have hvl := invL_len A
  rw [hlen] at hvl
  have HA := Lib.hid hlen; have HP := Lib.hid q2; have HPV := Lib.hid (inv_isP q2); have HVL := Lib.hid hvl
  have HV1 := Lib.hid v1; have HV2 := Lib.hid v2
  clear q1 q2 hlen v1 v2 hvl
  go_wp2_with fail
  refine (permInv A n _ _ _ (HF2.out.get 0 rfl) HA.out HP.out hn10).mono ?_; rintro e w3 ⟨adv, cpv, rfl, hcv, hf⟩
  have HF3 : Hid (Fr w w3 [⟨3, .slice adv n cpv, ints (invL A)⟩, ⟨3, .slice ad n cp, ints A⟩]) := Lib.hid (by simpa using HF2.out.call hf)
  clear hf HF2
  go_wp2_with fail
  refine (tabOf A n _ _ _ (HF3.out.get 1 rfl) HA.out HP.out hn10).mono ?_
  rintro e w4 ⟨adp, np, cp1, RP, adq, nq, cq, RQ, rfl, h1, h2, h3, h4, hF⟩
  obtain ⟨N, hN⟩ : ∃ N, w4.heap.size = N := ⟨_, rfl⟩
  have HF4 := Lib.hid ((HF3.out.call hF).rp (.slice adp np cp1) (.slice adq nq cq) N hN)
  have H1 := Lib.hid h1; have H2 := Lib.hid h2; have H3 := Lib.hid h3; have H4 := Lib.hid h4
  clear hF h1 h2 h3 h4 HF3
  go_wp2_with fail
  refine (tabOf (invL A) n _ _ _ (HF4.out.mem (T := 3) (n := n) (cap := cpv) (by simp)) HVL.out HPV.out hn10).mono ?_
  rintro e w5 ⟨adp', np', cp1', RP', adq', nq', cq', RQ', rfl, g1, g2, g3, g4, hF⟩
  have HF5 := Lib.hid ((HF4.out.call hF).rp (.slice adp' np' cp1') (.slice adq' nq' cq') w5.heap.size rfl)
  have G1 := Lib.hid g1; have G2 := Lib.hid g2; have G3 := Lib.hid g3; have G4 := Lib.hid g4
  have e1 : np = nq' := by rw [← H3.out, ← G4.out, ← lsR_len RP, ← lsR_len RQ', H1.out, G2.out, HV1.out]
  have e2 : nq = np' := by rw [← H4.out, ← G3.out, ← lsR_len RQ, ← lsR_len RP', H2.out, G1.out, HV2.out]
  have hnp : np ≤ 1000 := by rw [← H3.out, ← lsR_len RP, H1.out]; have := (rsk_bd A n).1; omega
  have hnq : nq ≤ 1000 := by rw [← H4.out, ← lsR_len RQ, H2.out]; have := (rsk_bd A n); omega
  subst e1; subst e2
  clear hF g1 g2 g3 g4 HF4 hN
  go_wp2_with fail
  refine (good3b _ (w5.heap.size + 1) _ (by simp)).mono ?_; rintro e w' ⟨rfl, rfl⟩
  have HF6 := Lib.hid (HF5.out.alloc (.cells #[.int .i64 0, .int .i64 0, .int .i64 0] 22))
  clear HF5
  obtain ⟨c0, c1, -, -, -, -⟩ := HF6.out.rpM (b := N) (v1 := .slice adp np cp1) (v2 := .slice adq nq cq) (by simp)
  obtain ⟨d0, d1, -, -, -, -⟩ := HF6.out.rpM (b := w5.heap.size) (v1 := .slice adp' nq cp1') (v2 := .slice adq' np cq') (by simp)
  have HPQ := Lib.hid (HF6.out.rmPQ (adp := adp) (np := np) (cp := cp1) (RP := RP) (adq := adq) (nq := nq) (cq := cq) (RQ := RQ) (fun e he => List.mem_cons_of_mem _ (List.mem_append_right _ (List.mem_cons_of_mem _ (List.mem_append_left _ he)))))
  have HPQ' := Lib.hid (HF6.out.rmPQ (adp := adp') (np := nq) (cp := cp1') (RP := RP') (adq := adq') (nq := np) (cq := cq') (RQ := RQ') (fun e he => List.mem_cons_of_mem _ (List.mem_append_left _ he)))
  go_wp2_with fail
  refine (rowsSame RP RQ' np _ _ _ _ _ HPQ.out.1 HPQ'.out.2 H3.out (by rw [H1.out, G2.out, HV1.out]) hnp (row_small (.inl H1.out) hn10)).mono ?_; rintro e w6 ⟨rfl, hf⟩
  have HF7 := Lib.hid (HF6.out.keep hf.bel)
  have HK := Lib.hid hf.bel
  clear hf HF6 c0 c1 d0 d1
  obtain ⟨c0, c1, -, -, -, -⟩ := HF7.out.rpM (b := N) (v1 := .slice adp np cp1) (v2 := .slice adq nq cq) (by simp)
  obtain ⟨d0, d1, -, -, -, -⟩ := HF7.out.rpM (b := w5.heap.size) (v1 := .slice adp' nq cp1') (v2 := .slice adq' np cq') (by simp)
  go_wp2_with fail
  refine (rowsSame RQ RP' nq _ _ _ _ _ (HPQ.out.2.keep HK.out) (HPQ'.out.1.keep HK.out) H4.out (by rw [H2.out, G1.out, HV2.out]) hnq (row_small (.inr H2.out) hn10)).mono ?_; rintro e w7 ⟨rfl, hf⟩
  have HF8 := Lib.hid (HF7.out.keep hf.bel)
  clear hf HF7 c0 c1 d0 d1
  go_wp2_with fail
  go_ret
  exact ⟨by simp, HF8.out.bel⟩
theorem tabTurned_row (a : Option Addr) (len cap : Nat) (z : List Int) (w : World) (h : IsRow .i64 w a len cap z) :
    Calls Try.prog 5 #[.slice a len cap] w fun e w' => e = .returned (.bool true) ∧ Below w.heap.size w w' :=
  tabTurned_any (z.take len) len a cap w h.sa.1 h.sa.2.1 h.cap h.sa.2.2.1
end Go.Proofs.Ytefblcchmkmfpaa
