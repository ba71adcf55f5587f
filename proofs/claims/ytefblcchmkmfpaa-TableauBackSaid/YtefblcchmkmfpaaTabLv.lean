/- castkeep.tableaux -/
import Derived.Test.YtefblcchmkmfpaaTabO
import Derived.Test.YtefblcchmkmfpaaSlEq2
namespace Go.Proofs.Ytefblcchmkmfpaa
open Go.RowKit

theorem lsR2 {R : List Rw} {l0 l1 : List Int} (h : lsR R = [l0, l1]) : ∃ a0 c0 a1 c1, R = [((a0, c0, l0) : Rw), (a1, c1, l1)] := by
  match R, h with
  | [(a0, c0, m0), (a1, c1, m1)], h =>
    simp [lsR] at h
    obtain ⟨rfl, rfl⟩ := h
    exact ⟨_, _, _, _, rfl⟩
theorem rsk120 : rsk [1, 2, 0] 3 = ([[0, 2], [1]], [[0, 1], [2]]) := by decide
theorem isP120 : IsP [1, 2, 0] := isP_lit _ (by decide) (by decide)
theorem Fr.outAt {w0 w : World} {ad : Option Addr} {n cap : Nat} {R : List Rw} {L : List Ent} (h : Fr w0 w L) (hm : outE ad n cap R ∈ L) (h0 : 0 < R.length) :
    ∃ g, ad = some ⟨g, 0, .none⟩ ∧ g < w.heap.size ∧ ∀ i (hi : i < R.length), w.cell? ⟨g, i, .none⟩ = some (rv R[i]) := by
  obtain ⟨g, e, _, h1, h2, _⟩ := (h.pick hm).open (by simpa using h0)
  exact ⟨g, e, h1, fun i hi => by rw [h2 i (by simpa using hi), List.getElem?_map, List.getElem?_eq_getElem hi]; rfl⟩
set_option maxRecDepth 100000 in
set_option maxHeartbeats 4000000 in
theorem tableaux_any (w : World) : Calls Try.prog 18 #[] w fun e w' => e = .returned (.bool true) ∧ Below w.heap.size w w' := by
  have P0 := Lib.hid isP120
  have R0 := Lib.hid rsk120
  go_enter Try.func18, Try.ntmps18
  go_wp2_with fail
  have F1 := (Fr.start w).lit [1, 2, 0] #[.int .i64 1, .int .i64 2, .int .i64 0] rfl 3 rfl (by omega) 3
  refine (tabOf [1, 2, 0] 3 _ _ _ (F1.get 0 rfl) rfl P0.out (by omega)).mono ?_
  rw [R0.out]
  rintro e w1 ⟨adp, np, cp, RP, adq, nq, cq, RQ, rfl, h1, h2, h3, h4, hF⟩
  obtain ⟨a0, c0, a1, c1, rfl⟩ := lsR2 h1
  obtain ⟨b0, d0, b1, d1, rfl⟩ := lsR2 h2
  have e3 : np = 2 := h3.symm
  have e4 : nq = 2 := h4.symm
  clear h3 h4
  subst e3; subst e4
  have HF2 : Hid (Fr w w1 [outE adp 2 cp [(a0, c0, [0, 2]), (a1, c1, [1])], re (a0, c0, [0, 2]), re (a1, c1, [1]), outE adq 2 cq [(b0, d0, [0, 1]), (b1, d1, [2])], re (b0, d0, [0, 1]), re (b1, d1, [2])]) := Lib.hid (F1.call hF |>.sub (by simp))
  obtain ⟨N, hN⟩ : ∃ N, w1.heap.size = N := ⟨_, rfl⟩
  have HF3 := Lib.hid (HF2.out.rp (.slice adp 2 cp) (.slice adq 2 cq) N hN)
  have HN := Lib.hid hN
  clear F1 hF h1 h2
  obtain ⟨p0, p1, -, -, z0, z1⟩ := HF3.out.rpM (b := N) (v1 := .slice adp 2 cp) (v2 := .slice adq 2 cq) (by simp)
  obtain ⟨gp, e, -, hcp⟩ := HF3.out.outAt (ad := adp) (n := 2) (cap := cp) (R := [(a0, c0, [0, 2]), (a1, c1, [1])]) (by simp) (by simp)
  subst e
  obtain ⟨gq, e, -, hcq⟩ := HF3.out.outAt (ad := adq) (n := 2) (cap := cq) (R := [(b0, d0, [0, 1]), (b1, d1, [2])]) (by simp) (by simp)
  subst e
  have x0 : _ = some (Value.slice a0 2 c0) := hcp 0 (by simp)
  have x1 : _ = some (Value.slice a1 1 c1) := hcp 1 (by simp)
  have y0 : _ = some (Value.slice b0 2 d0) := hcq 0 (by simp)
  have y1 : _ = some (Value.slice b1 1 d1) := hcq 1 (by simp)
  clear hcp hcq
  go_wp2_with fail
  have HA0 := Lib.hid (HF3.out.lit' [0, 2] #[.int .i64 0, .int .i64 2] rfl 2 rfl (by omega) 3 (N + 1) (by simp [HN.out]))
  refine (slEqual [0, 2] [0, 2] 2 2 _ _ _ _ _ (HA0.out.get 3 rfl) (HA0.out.get 0 rfl) rfl rfl (by omega) (by omega)).mono ?_; rintro e w3 ⟨rfl, hf⟩
  rw [decide_eq_true rfl]
  have HG0 : Hid (Fr w w3 [eP N (.slice (some ⟨gp, 0, .none⟩) 2 cp) (.slice (some ⟨gq, 0, .none⟩) 2 cq), outE (some ⟨gp, 0, .none⟩) 2 cp [(a0, c0, [0, 2]), (a1, c1, [1])], re (a0, c0, [0, 2]), re (a1, c1, [1]), outE (some ⟨gq, 0, .none⟩) 2 cq [(b0, d0, [0, 1]), (b1, d1, [2])], re (b0, d0, [0, 1]), re (b1, d1, [2])]) := Lib.hid (HA0.out.tail.keep hf.bel)
  clear hf HA0 HF3 p0 p1 z0 z1 x0 x1 y0 y1
  obtain ⟨p0, p1, -, -, z0, z1⟩ := HG0.out.rpM (b := N) (v1 := .slice (some ⟨gp, 0, .none⟩) 2 cp) (v2 := .slice (some ⟨gq, 0, .none⟩) 2 cq) (by simp)
  obtain ⟨_, e, -, hcp⟩ := HG0.out.outAt (ad := some ⟨gp, 0, .none⟩) (n := 2) (cap := cp) (R := [(a0, c0, [0, 2]), (a1, c1, [1])]) (by simp) (by simp)
  cases e
  obtain ⟨_, e, -, hcq⟩ := HG0.out.outAt (ad := some ⟨gq, 0, .none⟩) (n := 2) (cap := cq) (R := [(b0, d0, [0, 1]), (b1, d1, [2])]) (by simp) (by simp)
  cases e
  have x0 : _ = some (Value.slice a0 2 c0) := hcp 0 (by simp)
  have x1 : _ = some (Value.slice a1 1 c1) := hcp 1 (by simp)
  have y0 : _ = some (Value.slice b0 2 d0) := hcq 0 (by simp)
  have y1 : _ = some (Value.slice b1 1 d1) := hcq 1 (by simp)
  clear hcp hcq
  go_wp2_with fail
  have HA1 := Lib.hid (HG0.out.lit' [1] #[.int .i64 1] rfl 1 rfl (by omega) 3 w3.heap.size rfl)
  refine (slEqual [1] [1] 1 1 _ _ _ _ _ (HA1.out.get 4 rfl) (HA1.out.get 0 rfl) rfl rfl (by omega) (by omega)).mono ?_; rintro e w4 ⟨rfl, hf⟩
  rw [decide_eq_true rfl]
  have HG1 : Hid (Fr w w4 [eP N (.slice (some ⟨gp, 0, .none⟩) 2 cp) (.slice (some ⟨gq, 0, .none⟩) 2 cq), outE (some ⟨gp, 0, .none⟩) 2 cp [(a0, c0, [0, 2]), (a1, c1, [1])], re (a0, c0, [0, 2]), re (a1, c1, [1]), outE (some ⟨gq, 0, .none⟩) 2 cq [(b0, d0, [0, 1]), (b1, d1, [2])], re (b0, d0, [0, 1]), re (b1, d1, [2])]) := Lib.hid (HA1.out.tail.keep hf.bel)
  clear hf HA1 HG0 p0 p1 z0 z1 x0 x1 y0 y1
  obtain ⟨p0, p1, -, -, z0, z1⟩ := HG1.out.rpM (b := N) (v1 := .slice (some ⟨gp, 0, .none⟩) 2 cp) (v2 := .slice (some ⟨gq, 0, .none⟩) 2 cq) (by simp)
  obtain ⟨_, e, -, hcp⟩ := HG1.out.outAt (ad := some ⟨gp, 0, .none⟩) (n := 2) (cap := cp) (R := [(a0, c0, [0, 2]), (a1, c1, [1])]) (by simp) (by simp)
  cases e
  obtain ⟨_, e, -, hcq⟩ := HG1.out.outAt (ad := some ⟨gq, 0, .none⟩) (n := 2) (cap := cq) (R := [(b0, d0, [0, 1]), (b1, d1, [2])]) (by simp) (by simp)
  cases e
  have x0 : _ = some (Value.slice a0 2 c0) := hcp 0 (by simp)
  have x1 : _ = some (Value.slice a1 1 c1) := hcp 1 (by simp)
  have y0 : _ = some (Value.slice b0 2 d0) := hcq 0 (by simp)
  have y1 : _ = some (Value.slice b1 1 d1) := hcq 1 (by simp)
  clear hcp hcq
  go_wp2_with fail
  have HA2 := Lib.hid (HG1.out.lit' [0, 1] #[.int .i64 0, .int .i64 1] rfl 2 rfl (by omega) 3 w4.heap.size rfl)
  refine (slEqual [0, 1] [0, 1] 2 2 _ _ _ _ _ (HA2.out.get 6 rfl) (HA2.out.get 0 rfl) rfl rfl (by omega) (by omega)).mono ?_; rintro e w5 ⟨rfl, hf⟩
  rw [decide_eq_true rfl]
  have HG2 : Hid (Fr w w5 [eP N (.slice (some ⟨gp, 0, .none⟩) 2 cp) (.slice (some ⟨gq, 0, .none⟩) 2 cq), outE (some ⟨gp, 0, .none⟩) 2 cp [(a0, c0, [0, 2]), (a1, c1, [1])], re (a0, c0, [0, 2]), re (a1, c1, [1]), outE (some ⟨gq, 0, .none⟩) 2 cq [(b0, d0, [0, 1]), (b1, d1, [2])], re (b0, d0, [0, 1]), re (b1, d1, [2])]) := Lib.hid (HA2.out.tail.keep hf.bel)
  clear hf HA2 HG1 p0 p1 z0 z1 x0 x1 y0 y1
  obtain ⟨p0, p1, -, -, z0, z1⟩ := HG2.out.rpM (b := N) (v1 := .slice (some ⟨gp, 0, .none⟩) 2 cp) (v2 := .slice (some ⟨gq, 0, .none⟩) 2 cq) (by simp)
  obtain ⟨_, e, -, hcp⟩ := HG2.out.outAt (ad := some ⟨gp, 0, .none⟩) (n := 2) (cap := cp) (R := [(a0, c0, [0, 2]), (a1, c1, [1])]) (by simp) (by simp)
  cases e
  obtain ⟨_, e, -, hcq⟩ := HG2.out.outAt (ad := some ⟨gq, 0, .none⟩) (n := 2) (cap := cq) (R := [(b0, d0, [0, 1]), (b1, d1, [2])]) (by simp) (by simp)
  cases e
  have x0 : _ = some (Value.slice a0 2 c0) := hcp 0 (by simp)
  have x1 : _ = some (Value.slice a1 1 c1) := hcp 1 (by simp)
  have y0 : _ = some (Value.slice b0 2 d0) := hcq 0 (by simp)
  have y1 : _ = some (Value.slice b1 1 d1) := hcq 1 (by simp)
  clear hcp hcq
  go_wp2_with fail
  have HA3 := Lib.hid (HG2.out.lit' [2] #[.int .i64 2] rfl 1 rfl (by omega) 3 w5.heap.size rfl)
  refine (slEqual [2] [2] 1 1 _ _ _ _ _ (HA3.out.get 7 rfl) (HA3.out.get 0 rfl) rfl rfl (by omega) (by omega)).mono ?_; rintro e w6 ⟨rfl, hf⟩
  rw [decide_eq_true rfl]
  have HG3 : Hid (Fr w w6 [eP N (.slice (some ⟨gp, 0, .none⟩) 2 cp) (.slice (some ⟨gq, 0, .none⟩) 2 cq), outE (some ⟨gp, 0, .none⟩) 2 cp [(a0, c0, [0, 2]), (a1, c1, [1])], re (a0, c0, [0, 2]), re (a1, c1, [1]), outE (some ⟨gq, 0, .none⟩) 2 cq [(b0, d0, [0, 1]), (b1, d1, [2])], re (b0, d0, [0, 1]), re (b1, d1, [2])]) := Lib.hid (HA3.out.tail.keep hf.bel)
  clear hf HA3 HG2 p0 p1 z0 z1 x0 x1 y0 y1
  go_wp2_with fail
  go_ret
  exact ⟨by simp, HG3.out.bel⟩
end Go.Proofs.Ytefblcchmkmfpaa
