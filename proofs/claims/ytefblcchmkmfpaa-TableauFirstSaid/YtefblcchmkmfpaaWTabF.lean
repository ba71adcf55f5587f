/- The walk of the law TableauFirst. -/
import Derived.Test.YtefblcchmkmfpaaTabLv
import Derived.Test.YtefblcchmkmfpaaTbL
import Derived.Test.YtefblcchmkmfpaaGood
namespace Go.Proofs.Ytefblcchmkmfpaa
open Go.RowKit

theorem Fr.outM {w0 w : World} {ad : Option Addr} {n cap : Nat} {R : List Rw} {L : List Ent} (h : Fr w0 w L) (hm : outE ad n cap R ∈ L) (i : Nat) (hi : i < R.length) :
    ∃ g, ad = some ⟨g, 0, .none⟩ ∧ w.cell? ⟨g, i, .none⟩ = some (.slice R[i].1 R[i].2.2.length R[i].2.1) := by
  obtain ⟨g, e, _, h2⟩ := h.outAt hm (by omega)
  exact ⟨g, e, h2 i hi⟩
set_option maxRecDepth 100000 in
set_option maxHeartbeats 8000000 in
theorem tabFirst_any (l0 : List Int) (n0 : Nat) (a : Option Addr) (cap : Nat) (w : World) (h : Sa w a (ints l0)) (hn : l0.length = n0) (hc : n0 ≤ cap) (hm : n0 ≤ maxLen) :
    Calls Try.prog 6 #[.slice a n0 cap] w fun e w' => e = .returned (.bool true) ∧ Below w.heap.size w w' := by
  have HS := Lib.hid h; have HN := Lib.hid hn
  obtain ⟨q1, q2⟩ := permL_ok l0 10
  clear h hn
  go_enter Try.func6, Try.ntmps6
  go_wp2_with fail
  refine (tableaux_any _).mono ?_; rintro e w1 ⟨rfl, hb⟩
  have HF1 := Lib.hid ((Fr.start w).keep hb)
  clear hb
  go_wp2_with fail
  refine (permOf_any l0 n0 _ _ 10 _ (HF1.out.old HS.out) HN.out hc hm (by omega)).mono ?_; rintro e w2 ⟨ad, n, cp, rfl, hlen, hcp, hf⟩
  have HF2 := Lib.hid (HF1.out.call hf)
  clear hf HF1
  generalize permL l0 10 = A at *
  have hn10 : n ≤ 10 := by omega
  have HA := Lib.hid hlen; have HP := Lib.hid q2
  have hnd := isP_nodup q2
  have hup := frow_up hnd
  have hdn := rows_down hnd
  have hrP := rsk_P A n (by omega)
  rw [hlen] at hup hdn
  rw [show A.take n = A from List.take_of_length_le (by omega)] at hrP
  have HUP := Lib.hid hup; have HDN := Lib.hid hdn; have HRP := Lib.hid hrP
  have HROW := Lib.hid (insAll_row A)
  have HNE := Lib.hid (frow_ne A)
  clear hnd hup hdn hrP q1 q2 hlen
  go_wp2_with fail
  refine (tabOf A n _ _ _ (HF2.out.get 0 rfl) HA.out HP.out (by omega)).mono ?_
  rintro e w3 ⟨adp, np, cp1, RP, adq, nq, cq, RQ, rfl, h1, h2, h3, h4, hF⟩
  obtain ⟨N, hN⟩ : ∃ N, w3.heap.size = N := ⟨_, rfl⟩
  have HF3 : Hid (Fr w (w3.alloc (.cells #[.slice adp np cp1, .slice adq nq cq] 37)) [eP N (.slice adp np cp1) (.slice adq nq cq), outE adp np cp1 RP, ⟨3, .slice ad n cp, ints A⟩]) := Lib.hid (by
    have h5 := HF2.out.call hF
    have h6 := h5.rp (.slice adp np cp1) (.slice adq nq cq) N hN
    refine h6.sub (.cons_cons _ (.cons_cons _ ?_))
    refine List.singleton_sublist.2 (List.mem_append_right _ (by simp)))
  rw [HRP.out] at h1
  have HL := Lib.hid h1; have HL3 := Lib.hid h3
  have HNP : Hid (np = (bestK mDn A n).length) := Lib.hid (by rw [← HDN.out, ← h1, lsR_len, h3])
  clear hF h1 h2 h3 h4
  go_wp2_with fail
  refine (lin_up A n _ _ _ (HF3.out.get 2 rfl) HA.out (by omega) hcp).mono ?_; rintro e w4 ⟨ad4, cp4, rfl, hc4, hf⟩
  have HF4 := Lib.hid (HF3.out.keep hf.bel)
  clear hf hN HF3
  go_wp2_with fail
  refine (lin_down A n _ _ _ (HF4.out.get 2 rfl) HA.out (by omega) hcp).mono ?_; rintro e w5 ⟨ad5, cp5, rfl, hc5, hf⟩
  have HF5 := Lib.hid (HF4.out.keep hf.bel)
  clear hf HF4
  go_wp2_with fail
  refine (good3b _ w5.heap.size _ rfl).mono ?_; rintro e w' ⟨rfl, rfl⟩
  have HF6 := Lib.hid (HF5.out.alloc (.cells #[.int .i64 0, .int .i64 0, .int .i64 0] 22))
  clear HF5
  obtain ⟨c0, c1, -, -, -, -⟩ := HF6.out.rpM (b := N) (v1 := .slice adp np cp1) (v2 := .slice adq nq cq) (by simp)
  rcases Nat.eq_zero_or_pos n with h0 | h0
  · subst h0
    have hA0 : A = [] := List.eq_nil_of_length_eq_zero HA.out
    have hnp : np = 0 := by
      have := HL.out
      rw [hA0] at this
      rw [← HL3.out, ← lsR_len, this]; rfl
    clear hA0
    subst hnp
    go_wp2_with fail
    go_ret
    exact ⟨rfl, HF6.out.bel⟩
  · have hAne : A ≠ [] := by
      intro e
      have := HA.out
      rw [e] at this; simp at this; omega
    have h1 := HL.out
    rw [HROW.out hAne] at h1
    obtain ⟨⟨a0, d0, r0⟩, R', rfl⟩ : ∃ p R', RP = p :: R' := by
      cases RP with
      | nil => simp [lsR] at h1
      | cons p R' => exact ⟨p, R', rfl⟩
    have hr0 : r0 = frow A := by
      simp [lsR] at h1
      exact h1.1
    have hnp : 0 < np := by rw [← HL3.out]; simp
    obtain ⟨g, e, hc0⟩ := HF6.out.outM (ad := adp) (n := np) (cap := cp1) (R := (a0, d0, r0) :: R') (by simp) 0 (by simp)
    subst e
    simp only [List.getElem_cons_zero] at hc0
    have hrl : r0.length = (bestK mUp A n).length := by rw [hr0, HUP.out]
    rw [hrl] at hc0
    have hnp2 := HNP.out
    obtain ⟨u, hu⟩ : ∃ u, (bestK mUp A n).length = u := ⟨_, rfl⟩
    rw [hu] at hc0 ⊢
    rw [← hnp2]
    clear hu hrl hr0 h1 hnp2 hAne
    have g5 : ((n : Int) == 0) = false := by rw [beq_eq_false_iff_ne]; omega
    have g6 : decide ((0 : Int) < (np : Int)) = true := decide_eq_true (by omega)
    go_wp2_with fail
    go_ret
    exact ⟨by simp, HF6.out.bel⟩
theorem tabFirst_row (a : Option Addr) (len cap : Nat) (z : List Int) (w : World) (h : IsRow .i64 w a len cap z) :
    Calls Try.prog 6 #[.slice a len cap] w fun e w' => e = .returned (.bool true) ∧ Below w.heap.size w w' :=
  tabFirst_any (z.take len) len a cap w h.sa.1 h.sa.2.1 h.cap h.sa.2.2.1
end Go.Proofs.Ytefblcchmkmfpaa
