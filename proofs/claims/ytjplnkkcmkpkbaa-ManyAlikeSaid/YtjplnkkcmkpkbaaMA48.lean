/- Several of my texts in one: Mn29, Mn32. -/
import Derived.Test.YtjplnkkcmkpkbaaMA47
set_option linter.unusedSimpArgs false
set_option linter.unusedVariables false
/- The machine, 29: one call of many.Run, from its entry to behind its return: put together. -/
namespace Go.Proofs.Ytjplnkkcmkpkbaa
open Go.Conc Go.ConcN Go.RowKit Go.Conc.Lib Go.ConcR.Gen Go.ConcN.Gen
open Go.ConcR (KK wgBlock WgAt stA smA rd wr mk DC0)

section
variable {E : Event → Prop} {q : Ph} {w w' : World} {bc bj bo : Nat} {T : Array Value} {v : Value} {c : Frame} {cs : List Frame}
set_option maxRecDepth 100000 in
theorem endGo (hT : RT4 q bc bj bo T) (hc : w'.cell? ⟨bo, 0, none⟩ = some v) (hE : E ⟨.cell ⟨bo, 0, none⟩, false, false⟩) (hF : AtRel w' w) :
    Gz Try.prog (DE E) (fun g w'' => g = G (c.finish (.tuple #[v, .int .i64 0])) cs ∧ AtRel w' w'') (G (b4.at ⟨T, []⟩ (.inRegion ops17 [] :: [.code rest18])) (c :: cs)) w := by
  obtain ⟨hsz, t3, t6, t7, t9, t31⟩ := hT
  obtain ⟨v0, v1, v2, v3, v4, v5, v6, v7, v8, v9, v10, v11, v12, v13, v14, v15, v16, v17, v18, v19, v20, v21, v22, v23, v24, v25, v26, v27, v28, v29, v30, v31, v32, v33, v34, v35, v36, v37, v38, rfl⟩ := arr39 T hsz
  simp only [List.getElem?_toArray, List.getElem?_cons_zero, List.getElem?_cons_succ, Option.some.injEq] at t3 t6 t7 t9 t31
  subst t3 t6 t7 t9 t31
  refine Gz.goes (n := 60) ?_
  simp only [ops17, rest18, tail4, after4, body4, Try.f4, Option.getD_some]
  u_c stepG_region_end atRl hF
  u_c stepG_seq atRl hF
  u_reg atRl hF
  refine Goes.stop (fun w₁ h₁ => ?_)
  replace hF := atRl hF h₁
  clear h₁
  refine gz_ld (v := v) atRl rfl rfl (by k_ne) hF (fun w hw => ?_) (fun w hw e he => ?_) (fun w' hF' => ?_)
  · (obtain ⟨d, rfl⟩ := hw; unfold execOp; simp [go_sem, Act.eval, at_cell, hc])
  · (obtain ⟨d, rfl⟩ := hw; unfold execOp at he; simp [go_sem, Act.eval, at_cell, hc] at he; subst he; exact hE)
  replace hF := hF'
  clear hF'
  refine Gz.goes (n := 60) ?_
  walk_nrm
  u_op atRl hF
  u_op atRl hF
  u_c stepG_region_end atRl hF
  u_c stepG_ret' atRl hF
  u_in atRl hF
  rw [stepG_leave rfl rfl Try.func4 (results_tmp2 rfl _ _ _) (events_results_tmp2 rfl _ _)]
  simp only [goes_go]
  refine ⟨by u_nil, ?_⟩
  exact Goes.stop fun w₁ h₁ => .stop fun w₂ h₂ => ⟨rfl, atRl (atRl hF h₁) h₂⟩
end

section
variable {W w w' : World} {slJ : Value} {N n N0 j0 : Nat} {Old : Nat → Prop} {D : Nat → List Deed} {aJ : Option Addr} {capJ : Nat}
theorem sent0 (h : AtRel (wR5 W slJ N) w) : Sent (wR5 W slJ N) (W.heap.size + 3) N 0 w := by
  obtain ⟨d, rfl⟩ := h
  exact ⟨fun _ _ => rfl, wR_3, rfl, rfl, rfl, rfl⟩
theorem low_of (hO : ∀ b, Old b → b < N0) {b : Nat} (hb : b < N0 + 6) (h5 : b ≠ N0 + 5) (h3 : b ≠ N0 + 3) (h1 : b ≠ N0 + 1) (ho : N0 ≤ b ∨ ¬ Old b) : (phOf N0 N n j0 Old D).low b :=
  ⟨hb, h5, h3, h1, fun h => ho.elim (fun x => by have := hO b h; omega) fun x => x h⟩
theorem wf_of (hO : ∀ b, Old b → b < W.heap.size) (hR : Rdy (wR5 W slJ N) W.heap.size N w) : WF (phOf W.heap.size N n j0 Old D) w (W.heap.size + 4) W.heap.size (W.heap.size + 2) slJ := by
  refine ⟨low_of hO (by omega) (by omega) (by omega) (by omega) (.inl (by omega)), low_of hO (by omega) (by omega) (by omega) (by omega) (.inl (by omega)), low_of hO (by omega) (by omega) (by omega) (by omega) (.inl (by omega)), ?_, ?_, ?_⟩
  · have := (hR.blk (W.heap.size + 4) (by omega) (by omega)).trans wR_4
    simp only [World.cell?, this]; rfl
  · have := (hR.blk W.heap.size (by omega) (by omega)).trans wR_0
    simp only [World.cell?, this]; rfl
  · have := (hR.blk (W.heap.size + 2) (by omega) (by omega)).trans wR_2
    simp only [World.cell?, this]; rfl
/-- the k-th job's value -/
noncomputable def svOf (w : World) (aJ : Option Addr) (k : Nat) : Value := match aJ with
  | some ad => (w.cell? ⟨ad.block, ad.off + k, none⟩).getD undef
  | none => undef
theorem jobs_of (hJ : JobsIn W Old aJ N D) (hR : Rdy (wR5 W (.slice aJ N capJ) N) W.heap.size N w) : Jobs (phOf W.heap.size N n j0 Old D) w (.slice aJ N capJ) (svOf w aJ) := by
  have hold : ∀ b, b < W.heap.size → w.heap[b]? = W.heap[b]? := fun b hb => (hR.blk b (by omega) (by omega)).trans (wR_old hb)
  have hcell : ∀ a : Addr, a.block < W.heap.size → w.cell? a = W.cell? a := fun a ha => by
    obtain ⟨b, o, s⟩ := a
    simp only [World.cell?, hold b ha]
  refine ⟨fun k v0 v1 F w h => ResF.slices h, by rw [hR.size]; exact Nat.le_refl _, ⟨outC N, (hR.blk (W.heap.size + 1) (by omega) (by omega)).trans wR_1, outC_size⟩, ⟨0, 0, hR.wg⟩, fun k hk => ?_⟩
  obtain ⟨J, oJ, a, n, cap, rfl, h1, h2, h3, h4, h5, h6⟩ := hJ.job k hk
  have e : svOf w (some ⟨J, oJ, none⟩) k = .slice a n cap := by
    simp only [svOf]
    rw [hcell _ h1, h3]; rfl
  refine ⟨J, oJ, capJ, rfl, low_of hJ.old (by omega) (by omega) (by omega) (by omega) (.inr h2), ?_, fun w₁ hr => ?_⟩
  · rw [e, hcell _ h1, h3]
  · rw [e]
    refine does_of (D := D k) (fun _ _ _ _ => Iff.rfl) (JobAt.at ⟨⟨h4.len, fun h0 => ?_, h4.nm⟩, h5, fun ad ha => ?_⟩ hr)
    · obtain ⟨b, off, e1, hb, hc⟩ := h4.sa h0
      exact ⟨b, off, e1, by rw [hR.size]; omega, fun i hi => (hcell _ hb).trans (hc i hi)⟩
    · rcases h6 ad ha with k0 | ⟨k1, k2, k3, cs, el, fz, k4⟩
      · exact .inl k0
      · exact .inr ⟨low_of hJ.old (by omega) (by omega) (by omega) (by omega) (.inr k2), k3, cs, el, fz, (hold _ k1).trans k4⟩
end

section
variable {Old : Nat → Prop} {gs : Array Goroutine} {w : World} {sl : Option (Nat × Nat)} {t : Trace} {qo : Nat → Nat} {B C n N : Nat} {aJ : Option Addr} {capJ : Nat} {D : Nat → List Deed} {c : Frame} {cs : List Frame}
set_option maxHeartbeats 1000000 in
/-- ONE CALL OF many.Run -/
theorem runCall (hn1 : 1 ≤ n) (hn8 : n ≤ 8) (hN : N ≤ 5864062014634) (h0 : gs[0]? = some (G (Frame.enter Try.prog 4 #[.int .i64 (n : Nat), .slice aJ N capJ] .normal) (c :: cs))) (hL : Leavers Try.prog t gs qo) (hI : TI (ShO Old) B gs.size C t) (hB : B ≤ w.heap.size) (hJ : JobsIn w Old aJ N D) :
    Gets Try.prog (crowd gs w sl) t fun m' t' => ∃ gs' w' sl' q', m' = crowd gs' w' sl' ∧ gs'.size = gs.size + n ∧ gs'[0]? = some (G (c.finish (.tuple #[.slice (some ⟨w.heap.size + 1, 0, none⟩) N N, .int .i64 0])) cs) ∧
      Leavers Try.prog t' gs' q' ∧ TI (ShO fun b => Old b ∨ b = w.heap.size + 5) w'.heap.size gs'.size w'.heap.size t' ∧ RunRes w Old N D w' := by
  have hpos : 0 < gs.size := (Array.getElem?_eq_some_iff.1 h0).1
  have hI1 : TI (ShO Old) (w.heap.size + 5) gs.size (w.heap.size + 1) t := hI.next (by omega) (by omega)
  have hE : ∀ b o wr, w.heap.size ≤ b → b < w.heap.size + 5 → b ≠ w.heap.size + 1 → EvI (ShO Old) (w.heap.size + 5) (w.heap.size + 1) ⟨.cell ⟨b, o, none⟩, wr, false⟩ := fun b o wr h1 h2 h3 => evI_cell (fun h => by have := hJ.old b h; omega) h2 h3
  have hb : (wR5 w (.slice aJ N capJ) N).cell? ⟨w.heap.size + 4, 0, none⟩ = some (.chan (some (w.heap.size + 3))) := by
    have := wR_4 (W := w) (slJ := .slice aJ N capJ) (N := N)
    simp only [World.cell?, this]; rfl
  refine (walkR TI.keeps (ti_own hpos) ⟨gs, _, w, sl, qo, rfl, rfl, h0, runBegin (by omega) (by omega) hN evI_room hE (atRel_refl w), hL, hI1⟩).bind fun m1 t1 h1 => ?_
  refine (sendLoop (a := (n : Nat)) (cs := c :: cs) (.slice aJ N capJ) TI.keeps (ti_own hpos) (fun t fn pos s h => h.sent hpos (by omega)) hN hb (hE _ _ _ (by omega) (by omega) (by omega)) N 0 _ _ (by omega) (h1.mono fun g w' x => ⟨⟨_, _, _, _, _, _, x.1⟩, sent0 x.2⟩)).bind fun m2 t2 h2 => ?_
  refine (walkR TI.keeps (ti_own hpos) (h2.mono fun g w' x => shutGo (.slice aJ N capJ) hN wR_size hb (hE _ _ _ (by omega) (by omega) (by omega)) (evI_close (by omega)) x)).bind fun m3 t3 h3 => ?_
  clear h1 h2 hI hI1 hL h0
  obtain ⟨gs3, a3, w3, sl3, q3, rfl, hsz3, h03, ⟨⟨T, hTs, u3, u6, u7, u9, u31, u32, rfl⟩, hR⟩, hL3, hI3⟩ := h3
  have hj : gs.size - 1 + 1 = gs.size := by omega
  obtain ⟨K, m', t', hrun, gs', w', sl', a', qo', rfl, hO⟩ := runPhase (sl := sl3) (q := phOf w.heap.size N n (gs.size - 1) Old D) (resOkOf _ _ _ _ _ _) (geomOf _ _ _ _ _ _) (wf_of hJ.old hR) (jobs_of hJ hR) (by show n < 9; omega) hn1
    ⟨hTs, u3, u6, u7, u9, u31⟩ u32 (by rw [hsz3]; exact hj.symm) h03 hL3 (by show TI (ShO Old) (w.heap.size + 5) (gs.size - 1 + 1) (w.heap.size + 1) t3; rw [hj]; exact hI3)
    (fun l hl hs => by obtain ⟨a, rfl, h⟩ := hs; exact hl.2.2.2.2 h) ⟨Nat.zero_le _, hR.ch⟩ hR.wg
  refine Gets.bind (G1 := fun m t => m = crowd gs' w' sl' ∧ t = t') ⟨K, _, _, hrun, rfl, rfl⟩ ?_
  rintro m t ⟨rfl, rfl⟩
  clear hrun h03 hL3 hI3
  obtain ⟨T', hT', rfl, hRS, _⟩ := hO.fin
  have hti := hO.ti
  have hgs : gs'.size = gs.size + n := by have := hO.size; change gs'.size = gs.size - 1 + n + 1 at this; omega
  have hlow : w.heap.size + 6 ≤ w'.heap.size := hO.low
  rw [show (fun l => ShO Old l ∨ ShN (phOf w.heap.size N n (gs.size - 1) Old D).Wg l) = ShO (fun b => Old b ∨ b = w.heap.size + 5) from ShO.add Old _] at hti
  have hbo : w'.cell? ⟨w.heap.size + 2, 0, none⟩ = some (.slice (some ⟨w.heap.size + 1, 0, none⟩) N N) := (low_cell hRS (wf_of (n := n) (j0 := gs.size - 1) (D := D) hJ.old hR).lo).trans (wf_of (n := n) (j0 := gs.size - 1) (D := D) hJ.old hR).out
  have hE2 : EvI (ShO fun b => Old b ∨ b = w.heap.size + 5) w'.heap.size w'.heap.size ⟨.cell ⟨w.heap.size + 2, 0, none⟩, false, false⟩ := evI_cell (fun h => h.elim (fun h => absurd (hJ.old _ h) (by omega)) fun h => absurd h (by omega)) (by omega) (by omega)
  refine (walkR TI.keeps (ti_own (by omega)) ⟨gs', _, w', sl', qo', rfl, rfl, hO.at0, endGo hT' hbo hE2 (atRel_refl w'), hO.leave, hti⟩).mono fun m4 t4 h4 => ?_
  obtain ⟨gs4, a4, w4, sl4, q4, rfl, hsz4, h04, ⟨rfl, hA⟩, hL4, hI4⟩ := h4
  obtain ⟨d, rfl⟩ := hA
  refine ⟨gs4, _, sl4, q4, rfl, by rw [hsz4]; exact hgs, h04, hL4, by rw [hsz4]; exact hI4, ⟨fun b hb ho => ?_, hlow, hRS.os.trans hR.os, hRS.tape.trans hR.tape, hRS.out.trans hR.out, fun k hk => ?_⟩⟩
  · exact ((hRS.low b (low_of hJ.old (by omega) (by omega) (by omega) (by omega) (.inr ho))).trans (hR.blk b (by omega) (by omega))).trans (wR_old hb)
  · obtain ⟨v0, v1, F, r1, r2, r3, r4⟩ := hO.res k hk
    exact ⟨v0, v1, F, r1, r2, r3, r4⟩
end
end Go.Proofs.Ytjplnkkcmkpkbaa
/- The machine, 32: calls of many.Run one behind the other, with goroutine 0's own walks between them. -/
namespace Go.Proofs.Ytjplnkkcmkpkbaa
open Go.Conc Go.ConcN Go.RowKit Go.Conc.Lib Go.ConcR.Gen Go.ConcN.Gen
open Go.ConcR (KK wgBlock WgAt stA smA rd wr mk DC0)

section
variable {E : Event → Prop} {W w : World} {aJ : Option Addr} {capJ N : Nat} {a : Int} {c : Frame} {cs : List Frame}
set_option maxRecDepth 100000 in
/-- hands there are too few of, or too many -/
theorem runRefuse (ha : ¬ (1 ≤ a ∧ a ≤ 8)) (hF : AtRel W w) :
    Gz Try.prog (DE E) (fun g w' => g = G (c.finish (.tuple #[.slice none 0 0, .int .i64 1])) cs ∧ AtRel (wR1 W (.slice aJ N capJ)) w')
      (G (Frame.enter Try.prog 4 #[.int .i64 a, .slice aJ N capJ] .normal) (c :: cs)) w := by
  have e : Frame.enter Try.prog 4 #[.int .i64 a, .slice aJ N capJ] .normal = b4.at ⟨#[.int .i64 a, .slice aJ N capJ] ++ Array.replicate 37 undef, []⟩ [.code body4] := by
    simp [Frame.enter, Frame.at, Try.func4, base, body4, Try.f4]
  rw [e]
  refine Gz.goes (n := 60) ?_
  simp only [body4, Try.f4, Option.getD_some]
  walk_nrm
  u_c stepG_seq atRl hF
  u_reg atRl hF
  refine Goes.stop (fun w₁ h₁ => ?_)
  replace hF := atRl hF h₁
  clear h₁
  refine gz_val (v := .pointer (some ⟨W.heap.size, 0, none⟩)) (W' := wR1 W (.slice aJ N capJ)) rfl rfl (by k_ne) hF (fun d => ?_) (fun d e he => ?_) (fun w' hF' => ?_)
  · (unfold execOp; simp [go_sem, Act.eval, at_size, at_alloc, wR1])
  · (unfold execOp at he; simp [go_sem, Act.eval] at he)
  replace hF := hF'
  clear hF'
  refine Gz.goes (n := 60) ?_
  walk_nrm
  u_op atRl hF
  u_op atRl hF
  u_c stepG_region_end atRl hF
  u_c stepG_seq atRl hF
  u_c stepG_seq atRl hF
  u_reg atRl hF
  u_op atRl hF
  by_cases h1 : a < 1
  · have d1 : decide (a < 1) = true := decide_eq_true h1
    clear ha h1
    u_op atRl hF
    u_op atRl hF
    u_skip atRl hF
    u_skip atRl hF
    u_op atRl hF
    u_c stepG_region_end atRl hF
    u_cond true atRl hF
    u_c stepG_seq atRl hF
    u_reg atRl hF
    u_op atRl hF
    u_op atRl hF
    u_c stepG_region_end atRl hF
    u_c stepG_ret' atRl hF
    u_in atRl hF
    rw [stepG_leave rfl rfl Try.func4 (results_tmp2 rfl _ _ _) (events_results_tmp2 rfl _ _)]
    simp only [goes_go]
    refine ⟨by u_nil, ?_⟩
    exact Goes.stop fun w₁ h₁ => .stop fun w₂ h₂ => ⟨rfl, atRl (atRl hF h₁) h₂⟩
  · have d1 : decide (a < 1) = false := decide_eq_false h1
    have d2 : decide (8 < a) = true := decide_eq_true (by omega)
    clear ha h1
    u_op atRl hF
    u_op atRl hF
    u_op atRl hF
    u_op atRl hF
    u_op atRl hF
    u_c stepG_region_end atRl hF
    u_cond true atRl hF
    u_c stepG_seq atRl hF
    u_reg atRl hF
    u_op atRl hF
    u_op atRl hF
    u_c stepG_region_end atRl hF
    u_c stepG_ret' atRl hF
    u_in atRl hF
    rw [stepG_leave rfl rfl Try.func4 (results_tmp2 rfl _ _ _) (events_results_tmp2 rfl _ _)]
    simp only [goes_go]
    refine ⟨by u_nil, ?_⟩
    exact Goes.stop fun w₁ h₁ => .stop fun w₂ h₂ => ⟨rfl, atRl (atRl hF h₁) h₂⟩
end

/-- the results of all jobs lie at C -/
structure Got (w : World) (Old : Nat → Prop) (C N : Nat) (D : Nat → List Deed) : Prop where
  lt : C < w.heap.size
  new : ¬ Old C
  res : ∀ k, k < N → ∃ v0 v1 F, ResF (runR ⟨[], []⟩ (D k)) v0 v1 F w ∧ w.cell? ⟨C, 2 * k, none⟩ = some v0 ∧ w.cell? ⟨C, 2 * k + 1, none⟩ = some v1 ∧ ∀ b, F b → b < w.heap.size ∧ ¬ Old b
/-- what a call of many.Run leaves -/
structure RunOut (w : World) (Old : Nat → Prop) (N : Nat) (D : Nat → List Deed) (n : Int) (v : Value) (e : Int) (w' : World) (Old' : Nat → Prop) : Prop where
  blk : ∀ b, b < w.heap.size → ¬ Old b → w'.heap[b]? = w.heap[b]?
  size : w.heap.size ≤ w'.heap.size
  os : w'.os = w.os
  tape : w'.tape = w.tape
  out : w'.output = w.output
  old : ∀ b, Old' b → Old b ∨ (w.heap.size ≤ b ∧ b < w'.heap.size)
  res : (1 ≤ n ∧ n ≤ 8 ∧ e = 0 ∧ ∃ C, v = .slice (some ⟨C, 0, none⟩) N N ∧ Got w' Old' C N D) ∨ (¬ (1 ≤ n ∧ n ≤ 8) ∧ e = 1 ∧ v = .slice none 0 0)
section
variable {w w' : World} {Old Old' : Nat → Prop} {N C : Nat} {D : Nat → List Deed}
/-- results stand through a later call -/
theorem Got.later (h : Got w Old C N D) (hb : ∀ b, b < w.heap.size → ¬ Old b → w'.heap[b]? = w.heap[b]?) (hs : w.heap.size ≤ w'.heap.size) (ho : ∀ b, Old' b → Old b ∨ w.heap.size ≤ b) : Got w' Old' C N D := by
  have hn : ∀ b, b < w.heap.size → ¬ Old b → ¬ Old' b := fun b h1 h2 h3 => (ho b h3).elim h2 fun h4 => by omega
  have hc : ∀ a : Addr, a.block < w.heap.size → ¬ Old a.block → w'.cell? a = w.cell? a := fun a h1 h2 => by
    obtain ⟨b, o, s⟩ := a
    simp only [World.cell?, hb b h1 h2]
  refine ⟨Nat.lt_of_lt_of_le h.lt hs, hn _ h.lt h.new, fun k hk => ?_⟩
  obtain ⟨v0, v1, F, r1, r2, r3, r4⟩ := h.res k hk
  exact ⟨v0, v1, F, r1.at fun b hf => hb b (r4 b hf).1 (r4 b hf).2, (hc _ h.lt h.new).trans r2, (hc _ h.lt h.new).trans r3, fun b hf => ⟨Nat.lt_of_lt_of_le (r4 b hf).1 hs, hn b (r4 b hf).1 (r4 b hf).2⟩⟩
end
/-- goroutine 0 between two calls, all others leaving -/
def MS (Old : Nat → Prop) (Q : Goroutine → World → Prop) (m : Machine) (t : Trace) : Prop :=
  ∃ gs a w sl q, m = crowd gs w sl ∧ gs[0]? = some a ∧ Leavers Try.prog t gs q ∧ TI (ShO Old) w.heap.size gs.size w.heap.size t ∧ (∀ b, Old b → b < w.heap.size) ∧ Q a w
/-- goroutine 0 stands at the entry of many.Run; what is held behind it -/
def CallQ (Q' : (Nat → Prop) → Goroutine → World → Prop) (Old : Nat → Prop) (g : Goroutine) (w : World) : Prop :=
  ∃ (n : Int) (aJ : Option Addr) (N capJ : Nat) (c : Frame) (cs : List Frame) (D : Nat → List Deed), g = G (Frame.enter Try.prog 4 #[.int .i64 n, .slice aJ N capJ] .normal) (c :: cs) ∧ N ≤ 5864062014634 ∧ JobsIn w Old aJ N D ∧
    ∀ Old' v e w', RunOut w Old N D n v e w' Old' → Q' Old' (G (c.finish (.tuple #[v, .int .i64 e])) cs) w'
section
variable {Old : Nat → Prop} {m : Machine} {t : Trace}
theorem ms_walk {Q : Goroutine → World → Prop} (h : MS Old (fun g w => Gz Try.prog (DE (EvI (ShO Old) w.heap.size w.heap.size)) (fun g' w' => w.heap.size ≤ w'.heap.size ∧ Q g' w') g w) m t) : Gets Try.prog m t (MS Old Q) := by
  obtain ⟨gs, a, w, sl, q, rfl, h0, hL, hI, hO, hG⟩ := h
  have hpos : 0 < gs.size := (Array.getElem?_eq_some_iff.1 h0).1
  refine (walkR TI.keeps (ti_own hpos) ⟨gs, a, w, sl, q, rfl, rfl, h0, hG, hL, hI⟩).mono fun m t h => ?_
  obtain ⟨gs', a', w', sl', q', rfl, hs, h0', ⟨hle, hQ⟩, hL', hI'⟩ := h
  exact ⟨gs', a', w', sl', q', rfl, h0', hL', by rw [hs]; exact hI'.next hle hle, fun b hb => Nat.lt_of_lt_of_le (hO b hb) hle, hQ⟩
theorem ms_run {Q' : (Nat → Prop) → Goroutine → World → Prop} (h : MS Old (CallQ Q' Old) m t) : Gets Try.prog m t (fun m t => ∃ Old', MS Old' (Q' Old') m t) := by
  obtain ⟨gs, _, w, sl, q, rfl, h0, hL, hI, hO, n, aJ, N, capJ, c, cs, D, rfl, hN, hJ, hQ⟩ := h
  have hpos : 0 < gs.size := (Array.getElem?_eq_some_iff.1 h0).1
  by_cases hn : 1 ≤ n ∧ n ≤ 8
  · obtain ⟨k, rfl⟩ : ∃ k : Nat, n = k := ⟨n.toNat, by omega⟩
    refine (runCall (sl := sl) (n := k) (by omega) (by omega) hN h0 hL hI (Nat.le_refl _) hJ).mono fun m t h => ?_
    obtain ⟨gs', w', sl', q', rfl, _, h0', hL', hI', hR⟩ := h
    have hsz := hR.size
    refine ⟨fun b => Old b ∨ b = w.heap.size + 5, gs', _, w', sl', q', rfl, h0', hL', hI', fun b hb => hb.elim (fun h => by have := hO b h; omega) fun h => by omega, hQ _ _ _ _ ⟨hR.blk, by omega, hR.os, hR.tape, hR.out, fun b hb => hb.imp id fun h => ⟨by omega, by omega⟩, .inl ⟨by omega, by omega, rfl, _, rfl, by omega, fun h => h.elim (fun h => by have := hO _ h; omega) fun h => by omega, fun j hj => ?_⟩⟩⟩
    obtain ⟨v0, v1, F, r1, r2, r3, r4⟩ := hR.res j hj
    exact ⟨v0, v1, F, r1, r2, r3, fun b hb => ⟨(r4 b hb).2, fun h => h.elim (fun h => by have := hO _ h; have := (r4 b hb).1; omega) fun h => by have := (r4 b hb).1; omega⟩⟩
  · refine (walkR TI.keeps (ti_own hpos) ⟨gs, _, w, sl, q, rfl, rfl, h0, runRefuse hn (atRel_refl w), hL, hI⟩).mono fun m t h => ?_
    obtain ⟨gs', _, _, sl', q', rfl, hs, h0', ⟨rfl, d, rfl⟩, hL', hI'⟩ := h
    have sz : ((wR1 w (.slice aJ N capJ)).at d).heap.size = w.heap.size + 1 := by rw [at_size]; simp [wR1]
    refine ⟨Old, gs', _, _, sl', q', rfl, h0', hL', by rw [hs]; exact hI'.next (by omega) (by omega), fun b hb => by have := hO b hb; omega, hQ _ _ _ _ ⟨fun b hb _ => Below.heap_alloc _ _ _ hb, by omega, rfl, rfl, rfl, fun b hb => .inl hb, .inr ⟨hn, rfl, rfl⟩⟩⟩
end
end Go.Proofs.Ytjplnkkcmkpkbaa
