/- Several of my texts in one: Mn37, Mn38. -/
import Derived.Test.YtjplnkkcmkpkbaaMA51
set_option linter.unusedSimpArgs false
set_option linter.unusedVariables false
/- The machine, 37: castkeep.ManyAlike: its loop; castkeep.Within. -/
namespace Go.Proofs.Ytjplnkkcmkpkbaa
open Go.Conc Go.ConcN Go.RowKit Go.Conc.Lib Go.ConcR.Gen Go.ConcN.Gen
open Go.ConcR (KK wgBlock WgAt stA smA rd wr mk DC0)

noncomputable def itM : List Item := [.inLoop loopM, .inBlock 0, .code tailM]
section
variable {E : Event → Prop} {W w : World} {a k : Int} {aJ : Option Addr} {i N capJ Cx Cy cx cy : Nat} {u0 u1 y0 y1 : Value}
def HdM (W : World) (a k : Int) (aJ : Option Addr) (N capJ Cx cx Cy cy : Nat) (i : Nat) (g : Goroutine) (w : World) : Prop :=
  (∃ T : Array Value, T.size = 157 ∧ T[0]? = some (.int .i64 a) ∧ T[2]? = some (.slice aJ N capJ) ∧ T[3]? = some (.int .i64 k) ∧ T[11]? = some (.slice (some ⟨Cx, 0, none⟩) N cx) ∧ T[13]? = some (.slice (some ⟨Cy, 0, none⟩) N cy) ∧ T[90]? = some (.int .i64 (N : Nat)) ∧ T[91]? = some (.int .i64 (i : Nat)) ∧
    g = G (b3.at ⟨T, []⟩ (.code loopM :: itM)) []) ∧ AtRel W w
set_option maxRecDepth 100000 in
set_option maxHeartbeats 4000000 in
theorem roundM (hi : i < N) (hN : N ≤ 5864062014634) (hx0 : W.cell? ⟨Cx, i * 2, none⟩ = some u0) (hx1 : W.cell? ⟨Cx, i * 2 + 1, none⟩ = some u1) (hy0 : W.cell? ⟨Cy, i * 2, none⟩ = some y0) (hy1 : W.cell? ⟨Cy, i * 2 + 1, none⟩ = some y1) (hEx : ∀ o, E ⟨.cell ⟨Cx, o, none⟩, false, false⟩) (hEy : ∀ o, E ⟨.cell ⟨Cy, o, none⟩, false, false⟩)
    (q5 : ∀ (c : Frame) (cs : List Frame) (w : World), AtRel W w → Gz Try.prog (DE E) (fun g w => g = G (c.finish (.bool true)) cs ∧ AtRel W w) (G (Frame.enter Try.prog 5 #[u0, y0] .normal) (c :: cs)) w)
    (q6 : ∀ (c : Frame) (cs : List Frame) (w : World), AtRel W w → Gz Try.prog (DE E) (fun g w => g = G (c.finish (.bool true)) cs ∧ AtRel W w) (G (Frame.enter Try.prog 6 #[u1, y1] .normal) (c :: cs)) w) {g : Goroutine} (h : HdM W a k aJ N capJ Cx cx Cy cy i g w) :
    Gz Try.prog (DE E) (HdM W a k aJ N capJ Cx cx Cy cy (i + 1)) g w := by
  obtain ⟨⟨T, hsz, t0, t2, t3, t11, t13, t90, t91, rfl⟩, hF⟩ := h
  have d1 : decide ((i : Int) < (N : Int)) = true := decide_eq_true (by omega)
  have hw : IntKind.i64.wrap ((i : Int) + 1) = ((i + 1 : Nat) : Int) := by rw [IntKind.wrap_i64]; omega
  refine Gz.bind (Stop := fun g w => (∃ T : Array Value, T.size = 157 ∧ T[0]? = some (.int .i64 a) ∧ T[2]? = some (.slice aJ N capJ) ∧ T[3]? = some (.int .i64 k) ∧ T[11]? = some (.slice (some ⟨Cx, 0, none⟩) N cx) ∧ T[13]? = some (.slice (some ⟨Cy, 0, none⟩) N cy) ∧ T[15]? = some (.int .i64 (i : Nat)) ∧ T[90]? = some (.int .i64 (N : Nat)) ∧ T[91]? = some (.int .i64 (i : Nat)) ∧
    g = G (b3.at ⟨T, []⟩ (.code (.region 11 opsM true) :: .code aftM :: .inBlock 1 :: .code incM :: itM)) []) ∧ AtRel W w) ?_ ?_
  · obtain ⟨f, rfl⟩ := lit_of hsz
    have f0 := lit_at (by omega) t0
    have f2 := lit_at (by omega) t2
    have f3 := lit_at (by omega) t3
    have f11 := lit_at (by omega) t11
    have f13 := lit_at (by omega) t13
    have f90 := lit_at (by omega) t90
    have f91 := lit_at (by omega) t91
    clear hsz t0 t2 t3 t11 t13 t90 t91
    simp only [opsM, aftM, incM, itM, loopM, tailM, rest6m, rest5m, rest4m, rest2m]
    simp only [body3, Try.f3, Option.getD_some]
    simp only [List.range, List.range.loop, List.map_cons, List.map_nil, f0, f2, f3, f11, f13, f90, f91]
    clear f0 f2 f3 f11 f13 f90 f91
    refine Gz.goes (n := 60) ?_
    u_c stepG_seq atRl hF
    u_reg atRl hF
    u_op atRl hF
    u_c stepG_region_end atRl hF
    u_c stepG_seq atRl hF
    u_cond true atRl hF
    u_c stepG_skip atRl hF
    u_c stepG_seq atRl hF
    u_c stepG_block atRl hF
    u_c stepG_seq atRl hF
    u_reg atRl hF
    u_op atRl hF
    u_op atRl hF
    u_c stepG_region_end atRl hF
    u_c stepG_seq atRl hF
    exact Goes.stop fun w₁ h₁ => .stop fun w₂ h₂ => ⟨⟨_, rfl, rfl, rfl, rfl, rfl, rfl, rfl, rfl, rfl, rfl⟩, atRl (atRl hF h₁) h₂⟩
  clear hF t0 t2 t3 t11 t13 t90 t91 hsz
  rintro g w ⟨⟨T, hsz, t0, t2, t3, t11, t13, t15, t90, t91, rfl⟩, hF⟩
  refine (drawM (cx := cx) (cy := cy) hi hx0 hx1 hy0 hy1 hEx hEy q5 q6 hsz t11 t13 t15 hF).bind ?_
  clear hF t15 q5 q6
  rintro g w ⟨rfl, hF⟩
  obtain ⟨f, rfl⟩ := lit_of hsz
  have f0 := lit_at (by omega) t0
  have f2 := lit_at (by omega) t2
  have f3 := lit_at (by omega) t3
  have f11 := lit_at (by omega) t11
  have f13 := lit_at (by omega) t13
  have f90 := lit_at (by omega) t90
  have f91 := lit_at (by omega) t91
  clear hsz t0 t2 t3 t11 t13 t90 t91 hx0 hx1 hy0 hy1
  simp only [opsM, aftM, incM, itM, loopM, tailM, rest6m, rest5m, rest4m, rest2m]
  simp only [body3, Try.f3, Option.getD_some]
  simp only [List.range, List.range.loop, List.map_cons, List.map_nil, f0, f2, f3, f11, f13, f90, f91, List.zip_cons_cons, List.zip_nil_right, List.foldl_cons, List.foldl_nil]
  clear f0 f2 f3 f11 f13 f90 f91
  refine Gz.goes (n := 60) ?_
  walk_nrm
  u_c stepG_region_end atRl hF
  u_cond false atRl hF
  u_c stepG_skip atRl hF
  u_c stepG_inBlock atRl hF
  u_reg atRl hF
  u_op atRl hF
  u_op atRl hF
  u_c stepG_region_end atRl hF
  u_c stepG_inLoop atRl hF
  exact Goes.stop fun w₁ h₁ => .stop fun w₂ h₂ => ⟨⟨_, rfl, rfl, rfl, rfl, rfl, rfl, rfl, rfl, rfl⟩, atRl (atRl hF h₁) h₂⟩
end
/-! ### castkeep.Within -/
noncomputable def bodyW : Code := Try.f7.body.getD .skip
noncomputable def bodyR : Code := Try.f13.body.getD .skip
section
variable {E : Event → Prop} {W w : World} {k : Int} {N : Nat} {c : Frame} {cs : List Frame}
set_option maxRecDepth 100000 in
theorem restGz (hN : 0 < N) (hN2 : N ≤ 5864062014634) : ∃ kk : Nat, kk < N ∧ ∀ (c : Frame) (cs : List Frame) (w : World), AtRel W w → Gz Try.prog (DE E) (fun g w => g = G (c.finish (.int .i64 (kk : Nat))) cs ∧ AtRel W w) (G (Frame.enter Try.prog 13 #[.int .i64 k, .int .i64 (N : Nat)] .normal) (c :: cs)) w := by
  have e : Frame.enter Try.prog 13 #[.int .i64 k, .int .i64 (N : Nat)] .normal = (base 13).at ⟨#[.int .i64 k, .int .i64 (N : Nat)] ++ Array.replicate 12 undef, []⟩ [.code bodyR] := by
    simp [Frame.enter, Frame.at, Try.func13, base, bodyR, Try.f13]
  have hb := Int.tmod_lt_of_pos k (show (0 : Int) < (N : Int) by omega)
  have hb2 : -(N : Int) < k.tmod N := by
    have := Int.tmod_lt_of_pos (-k) (show (0 : Int) < (N : Int) by omega)
    rw [Int.neg_tmod] at this
    omega
  obtain ⟨r, hr⟩ : ∃ r, k.tmod N = r := ⟨_, rfl⟩
  rw [hr] at hb hb2
  have hn0 : N ≠ 0 := by omega
  by_cases hneg : r < 0
  · obtain ⟨kk, hk⟩ : ∃ kk : Nat, r + N = (kk : Int) := ⟨(r + N).toNat, by omega⟩
    refine ⟨kk, by omega, fun c cs w hF => ?_⟩
    rw [e]
    have hw2 : IntKind.i64.wrap (r + N) = (kk : Int) := by rw [IntKind.wrap_i64]; omega
    have d1 : decide (r < 0) = true := decide_eq_true hneg
    clear hb hb2 hneg hk
    refine Gz.goes (n := 60) ?_
    simp only [bodyR, Try.f13, Option.getD_some]
    walk_nrm
    u_c stepG_seq atRl hF
    u_reg atRl hF
    u_op atRl hF
    u_c stepG_region_end atRl hF
    u_c stepG_seq atRl hF
    u_reg atRl hF
    u_op atRl hF
    u_op atRl hF
    refine Goes.stop (fun w₁ h₁ => ?_)
    replace hF := atRl hF h₁
    clear h₁
    refine gz_ld (v := .int .i64 r) atRl rfl rfl (by k_ne) hF (fun w hw => ?_) (fun w hw e he => ?_) (fun w' hF' => ?_)
    · (unfold execOp; simp [go_sem, Act.eval, hn0, hr])
    · (unfold execOp at he; simp [go_sem, Act.eval, hn0, hr] at he)
    replace hF := hF'
    clear hF'
    refine Gz.goes (n := 60) ?_
    walk_nrm
    u_op atRl hF
    u_c stepG_region_end atRl hF
    u_c stepG_seq atRl hF
    u_c stepG_seq atRl hF
    u_reg atRl hF
    u_op atRl hF
    u_op atRl hF
    u_c stepG_region_end atRl hF
    u_cond true atRl hF
    u_reg atRl hF
    u_op atRl hF
    u_op atRl hF
    u_op atRl hF
    u_op atRl hF
    u_c stepG_region_end atRl hF
    u_c stepG_seq atRl hF
    u_reg atRl hF
    u_op atRl hF
    u_op atRl hF
    u_c stepG_region_end atRl hF
    u_c stepG_ret' atRl hF
    u_in atRl hF
    rw [stepG_leave rfl rfl Try.func13 (results_tmp rfl _ _ _) (events_results_tmp rfl _ _)]
    simp only [goes_go]
    refine ⟨by u_nil, ?_⟩
    exact Goes.stop fun w₁ h₁ => .stop fun w₂ h₂ => ⟨rfl, atRl (atRl hF h₁) h₂⟩
  · obtain ⟨kk, rfl⟩ : ∃ kk : Nat, r = (kk : Int) := ⟨r.toNat, by omega⟩
    refine ⟨kk, by omega, fun c cs w hF => ?_⟩
    rw [e]
    have d1 : decide ((kk : Int) < 0) = false := decide_eq_false hneg
    clear hb hb2 hneg
    refine Gz.goes (n := 60) ?_
    simp only [bodyR, Try.f13, Option.getD_some]
    walk_nrm
    u_c stepG_seq atRl hF
    u_reg atRl hF
    u_op atRl hF
    u_c stepG_region_end atRl hF
    u_c stepG_seq atRl hF
    u_reg atRl hF
    u_op atRl hF
    u_op atRl hF
    refine Goes.stop (fun w₁ h₁ => ?_)
    replace hF := atRl hF h₁
    clear h₁
    refine gz_ld (v := .int .i64 (kk : Nat)) atRl rfl rfl (by k_ne) hF (fun w hw => ?_) (fun w hw e he => ?_) (fun w' hF' => ?_)
    · (unfold execOp; simp [go_sem, Act.eval, hn0, hr])
    · (unfold execOp at he; simp [go_sem, Act.eval, hn0, hr] at he)
    replace hF := hF'
    clear hF'
    refine Gz.goes (n := 60) ?_
    walk_nrm
    u_op atRl hF
    u_c stepG_region_end atRl hF
    u_c stepG_seq atRl hF
    u_c stepG_seq atRl hF
    u_reg atRl hF
    u_op atRl hF
    u_op atRl hF
    u_c stepG_region_end atRl hF
    u_cond false atRl hF
    u_c stepG_skip atRl hF
    u_c stepG_seq atRl hF
    u_reg atRl hF
    u_op atRl hF
    u_op atRl hF
    u_c stepG_region_end atRl hF
    u_c stepG_ret' atRl hF
    u_in atRl hF
    rw [stepG_leave rfl rfl Try.func13 (results_tmp rfl _ _ _) (events_results_tmp rfl _ _)]
    simp only [goes_go]
    refine ⟨by u_nil, ?_⟩
    exact Goes.stop fun w₁ h₁ => .stop fun w₂ h₂ => ⟨rfl, atRl (atRl hF h₁) h₂⟩
set_option maxRecDepth 100000 in
theorem withinGz (hN : 0 < N) (hN2 : N ≤ 5864062014634) (k : Int) : ∃ kk : Nat, kk < N ∧ ∀ (c : Frame) (cs : List Frame) (w : World), AtRel W w → Gz Try.prog (DE E) (fun g w => g = G (c.finish (.int .i64 (kk : Nat))) cs ∧ AtRel W w) (G (Frame.enter Try.prog 7 #[.int .i64 k, .int .i64 (N : Nat)] .normal) (c :: cs)) w := by
  obtain ⟨kk, hk, hrest⟩ := restGz (E := E) (W := W) (k := k) hN hN2
  refine ⟨kk, hk, fun c cs w hF => ?_⟩
  have e : Frame.enter Try.prog 7 #[.int .i64 k, .int .i64 (N : Nat)] .normal = (base 7).at ⟨#[.int .i64 k, .int .i64 (N : Nat)] ++ Array.replicate 6 undef, []⟩ [.code bodyW] := by
    simp [Frame.enter, Frame.at, Try.func7, base, bodyW, Try.f7]
  rw [e]
  refine Gz.goes (n := 60) ?_
  simp only [bodyW, Try.f7, Option.getD_some]
  walk_nrm
  u_c stepG_seq atRl hF
  u_reg atRl hF
  u_op atRl hF
  u_c stepG_region_end atRl hF
  u_c stepG_seq atRl hF
  u_reg atRl hF
  u_op atRl hF
  u_op atRl hF
  refine Goes.stop (fun w₁ h₁ => ?_)
  replace hF := atRl hF h₁
  refine gz_call #[.int .i64 k, .int .i64 (N : Nat)] atRl rfl rfl (by k_ne) rfl Try.func13 (by kernel_rfl) rfl hF (by simp [Act.eval]) (fun w' hF => ?_)
  refine (hrest _ _ w' hF).bind ?_
  clear hF h₁
  rintro g w ⟨rfl, hF⟩
  rw [Frame.finish_at]
  refine Gz.goes (n := 60) ?_
  walk_nrm
  u_op atRl hF
  u_c stepG_region_end atRl hF
  u_c stepG_ret' atRl hF
  u_in atRl hF
  rw [stepG_leave rfl rfl Try.func7 (results_tmp rfl _ _ _) (events_results_tmp rfl _ _)]
  simp only [goes_go]
  refine ⟨by u_nil, ?_⟩
  exact Goes.stop fun w₁ h₁ => .stop fun w₂ h₂ => ⟨rfl, atRl (atRl hF h₁) h₂⟩
end
end Go.Proofs.Ytjplnkkcmkpkbaa
/- The machine, 38: castkeep.ManyAlike behind its loop. -/
namespace Go.Proofs.Ytjplnkkcmkpkbaa
open Go.Conc Go.ConcN Go.RowKit Go.Conc.Lib Go.ConcR.Gen Go.ConcN.Gen
open Go.ConcR (KK wgBlock WgAt stA smA rd wr mk DC0)

theorem slice_one (J oJ N cap kk : Nat) (hk : kk < N) (hc : N ≤ cap) (W : World) : (Instr.slice 22 (.slice (some ⟨J, oJ, none⟩) N cap) (some (.int .i64 (kk : Nat))) (some (.int .i64 ((kk : Int) + 1))) none).run Try.prog W = .ok (.slice (some ⟨J, oJ + kk, none⟩) 1 (cap - kk)) W := by
  have ht : Try.prog.underlying 22 = some (.slice (Try.prog.elem 22)) := by kernel_rfl
  have hsz : Sem.run Try.prog (sizeOf (Try.prog.elem 22)) W = .ok 1 W := by kernel_rfl
  rw [run_slice_lh W 22 (some ⟨J, oJ, none⟩) N cap ht .i64 .i64 kk ((kk : Int) + 1) (by omega) (by omega) (by omega), hsz]
  have e1 : ((kk : Int) + 1).toNat = kk + 1 := by omega
  have e2 : ¬ cap = kk := by omega
  simp [Result.andThen, sliced, e1, e2, Addr.add]
theorem slice_ev (J oJ N cap kk : Nat) (hk : kk < N) (hc : N ≤ cap) (W : World) (es : Array Event) : (Instr.slice 22 (.slice (some ⟨J, oJ, none⟩) N cap) (some (.int .i64 (kk : Nat))) (some (.int .i64 ((kk : Int) + 1))) none).events Try.prog W es = es := by
  have h1 : (0 : Int) ≤ (kk : Int) + 1 := by omega
  have h2 : (kk : Int) + 1 ≤ (cap : Int) := by omega
  simp [Instr.slice, Instr.sliceBounds, Instr.sliceBound, asIntOf, h1, h2]
theorem sliceAt_ev (J oJ N cap kk : Nat) (hk : kk < N) (hc : N ≤ cap) (W : World) (es : Array Event) : (Instr.sliceAt 22 (.slice (some ⟨J, oJ, none⟩) N cap) (some (.int .i64 (kk : Nat))) (some (.int .i64 ((kk : Int) + 1))) none).events Try.prog W es = es := by
  simp only [Instr.sliceAt, Sem.events_bind, events_underlying, run_underlying Try.underlying22, Result.evThen_ok]
  exact slice_ev J oJ N cap kk hk hc W es
section
variable {E : Event → Prop} {W w : World} {a k : Int} {aJ : Option Addr} {N capJ Cx Cy Cz cx cy cz kk J oJ : Nat} {u0 z0 : Value} {Stop : Goroutine → World → Prop} {T : Array Value}
set_option maxRecDepth 100000 in
set_option maxHeartbeats 4000000 in
/-- there are no jobs -/
theorem seg6z {g : Goroutine} (h : HdM W a k aJ 0 capJ Cx cx Cy cy 0 g w) : Gz Try.prog (DE E) (EndQ W) g w := by
  obtain ⟨⟨T, hsz, t0, t2, t3, t11, t13, t90, t91, rfl⟩, hF⟩ := h
  obtain ⟨f, rfl⟩ := lit_of hsz
  have f0 := lit_at (by omega) t0
  have f2 := lit_at (by omega) t2
  have f3 := lit_at (by omega) t3
  have f11 := lit_at (by omega) t11
  have f13 := lit_at (by omega) t13
  have f90 := lit_at (by omega) t90
  have f91 := lit_at (by omega) t91
  clear hsz t0 t2 t3 t11 t13 t90 t91
  simp only [itM, loopM, tailM, rest6m, rest5m, rest4m, rest2m]
  simp only [body3, Try.f3, Option.getD_some]
  simp only [List.range, List.range.loop, List.map_cons, List.map_nil, f0, f2, f3, f11, f13, f90, f91, List.zip_cons_cons, List.zip_nil_right, List.foldl_cons, List.foldl_nil]
  clear f0 f2 f3 f11 f13 f90 f91
  refine Gz.goes (n := 60) ?_
  u_c stepG_seq atRl hF
  u_reg atRl hF
  u_op atRl hF
  u_c stepG_region_end atRl hF
  u_c stepG_seq atRl hF
  u_cond false atRl hF
  u_exit atRl hF
  u_c stepG_seq atRl hF
  u_c stepG_seq atRl hF
  u_reg atRl hF
  u_op atRl hF
  u_op atRl hF
  u_op atRl hF
  u_c stepG_region_end atRl hF
  u_cond true atRl hF
  u_c stepG_seq atRl hF
  u_reg atRl hF
  u_op atRl hF
  u_c stepG_region_end atRl hF
  u_c stepG_ret' atRl hF
  exact Goes.stop fun w₁ h₁ => .stop fun w₂ h₂ => ⟨⟨_, _, rfl, rfl⟩, atRl (atRl hF h₁) h₂⟩
set_option maxRecDepth 100000 in
set_option maxHeartbeats 4000000 in
/-- to the last call -/
theorem seg6 (hN : 0 < N) (hN2 : N ≤ 5864062014634) (hc : N ≤ capJ) (hkk : kk < N) (hwi : ∀ (c : Frame) (cs : List Frame) (w : World), AtRel W w → Gz Try.prog (DE E) (fun g w => g = G (c.finish (.int .i64 (kk : Nat))) cs ∧ AtRel W w) (G (Frame.enter Try.prog 7 #[.int .i64 k, .int .i64 (N : Nat)] .normal) (c :: cs)) w)
    {g : Goroutine} (h : HdM W a k (some ⟨J, oJ, none⟩) N capJ Cx cx Cy cy N g w)
    (next : ∀ (T : Array Value) w', T.size = 157 → T[3]? = some (.int .i64 (kk : Nat)) → T[11]? = some (.slice (some ⟨Cx, 0, none⟩) N cx) → AtRel W w' →
      Gz Try.prog (DE E) Stop (G (Frame.enter Try.prog 4 #[.int .i64 a, .slice (some ⟨J, oJ + kk, none⟩) 1 (capJ - kk)] .normal) [b3.at ⟨T, []⟩ (.inRegion ops17m [6, 7, 8, 9, 10, 11] :: [.code tail18])]) w') : Gz Try.prog (DE E) Stop g w := by
  obtain ⟨⟨T, hsz, t0, t2, t3, t11, t13, t90, t91, rfl⟩, hF⟩ := h
  have d1 : decide ((N : Int) < (N : Int)) = false := decide_eq_false (by omega)
  have d2 : ((N : Int) == 0) = false := by rw [beq_eq_false_iff_ne]; omega
  have hw : IntKind.i64.wrap ((kk : Int) + 1) = (kk : Int) + 1 := by rw [IntKind.wrap_i64]; omega
  obtain ⟨f, rfl⟩ := lit_of hsz
  have f0 := lit_at (by omega) t0
  have f2 := lit_at (by omega) t2
  have f3 := lit_at (by omega) t3
  have f11 := lit_at (by omega) t11
  have f13 := lit_at (by omega) t13
  have f90 := lit_at (by omega) t90
  have f91 := lit_at (by omega) t91
  clear hsz t0 t2 t3 t11 t13 t90 t91
  simp only [ops17m, tail18, tail16, itM, loopM, tailM, rest6m, rest5m, rest4m, rest2m] at next ⊢
  simp only [body3, Try.f3, Option.getD_some] at next ⊢
  simp only [List.range, List.range.loop, List.map_cons, List.map_nil, f0, f2, f3, f11, f13, f90, f91, List.zip_cons_cons, List.zip_nil_right, List.foldl_cons, List.foldl_nil]
  clear f0 f2 f3 f11 f13 f90 f91
  refine Gz.goes (n := 60) ?_
  u_c stepG_seq atRl hF
  u_reg atRl hF
  u_op atRl hF
  u_c stepG_region_end atRl hF
  u_c stepG_seq atRl hF
  u_cond false atRl hF
  u_exit atRl hF
  u_c stepG_seq atRl hF
  u_c stepG_seq atRl hF
  u_reg atRl hF
  u_op atRl hF
  u_op atRl hF
  u_op atRl hF
  u_c stepG_region_end atRl hF
  u_cond false atRl hF
  u_c stepG_skip atRl hF
  u_c stepG_seq atRl hF
  u_reg atRl hF
  u_op atRl hF
  u_op atRl hF
  u_op atRl hF
  refine Goes.stop (fun w₁ h₁ => ?_)
  replace hF := atRl hF h₁
  refine gz_call #[.int .i64 k, .int .i64 (N : Nat)] atRl rfl rfl (by k_ne) rfl Try.func7 (by kernel_rfl) rfl hF (by simp [Act.eval]) (fun w' hF => ?_)
  refine (hwi _ _ w' hF).bind ?_
  clear hF h₁
  rintro g w ⟨rfl, hF⟩
  rw [Frame.finish_at]
  refine Gz.goes (n := 60) ?_
  walk_nrm
  u_op atRl hF
  u_c stepG_region_end atRl hF
  u_c stepG_seq atRl hF
  u_reg atRl hF
  u_op atRl hF
  u_op atRl hF
  u_op atRl hF
  u_op atRl hF
  u_op atRl hF
  refine Goes.stop (fun w₁ h₁ => ?_)
  replace hF := atRl hF h₁
  clear h₁
  refine gz_ld (v := .slice (some ⟨J, oJ + kk, none⟩) 1 (capJ - kk)) atRl rfl rfl (by k_ne) hF (fun w hw => ?_) (fun w hw e he => ?_) (fun w' hF' => ?_)
  · (have hx := slice_one J oJ N capJ kk hkk hc w; unfold execOp; simp [go_sem, Act.eval, hx])
  · (have hx := sliceAt_ev J oJ N capJ kk hkk hc w; unfold execOp at he; simp [go_sem, Act.eval, hx] at he)
  replace hF := hF'
  clear hF'
  refine Gz.goes (n := 60) ?_
  walk_nrm
  refine Goes.stop (fun w₁ h₁ => ?_)
  replace hF := atRl hF h₁
  refine gz_call #[.int .i64 a, .slice (some ⟨J, oJ + kk, none⟩) 1 (capJ - kk)] atRl rfl rfl (by k_ne) rfl Try.func4 (by kernel_rfl) rfl hF (by simp [Act.eval]) (fun w' hF => ?_)
  exact next _ w' rfl rfl rfl hF
set_option maxRecDepth 100000 in
set_option maxHeartbeats 4000000 in
/-- behind the last call, to the end -/
theorem seg7 (hsz : T.size = 157) (t3 : T[3]? = some (.int .i64 (kk : Nat))) (t11 : T[11]? = some (.slice (some ⟨Cx, 0, none⟩) N cx)) (hkk : kk < N) (hz0 : W.cell? ⟨Cz, 0, none⟩ = some z0) (hx0 : W.cell? ⟨Cx, kk * 2, none⟩ = some u0) (hEx : ∀ o, E ⟨.cell ⟨Cx, o, none⟩, false, false⟩) (hEz : ∀ o, E ⟨.cell ⟨Cz, o, none⟩, false, false⟩)
    (q5 : ∀ (c : Frame) (cs : List Frame) (w : World), AtRel W w → Gz Try.prog (DE E) (fun g w => g = G (c.finish (.bool true)) cs ∧ AtRel W w) (G (Frame.enter Try.prog 5 #[z0, u0] .normal) (c :: cs)) w) (hF : AtRel W w) :
    Gz Try.prog (DE E) (EndQ W) (G ((b3.at ⟨T, []⟩ (.inRegion ops17m [6, 7, 8, 9, 10, 11] :: [.code tail18])).finish (.tuple #[.slice (some ⟨Cz, 0, none⟩) 1 cz, .int .i64 0])) []) w := by
  rw [Frame.finish_at]
  refine Gz.bind (Stop := fun g w => (∃ T : Array Value, T.size = 157 ∧ T[3]? = some (.int .i64 (kk : Nat)) ∧ T[11]? = some (.slice (some ⟨Cx, 0, none⟩) N cx) ∧ T[16]? = some (.slice (some ⟨Cz, 0, none⟩) 1 cz) ∧ T[17]? = some (.int .i64 0) ∧ g = G (b3.at ⟨T, []⟩ (.code (.region 18 ops18m true) :: [.code .ret])) []) ∧ AtRel W w) ?_ ?_
  · obtain ⟨f, rfl⟩ := lit_of hsz
    have f3 := lit_at (by omega) t3
    have f11 := lit_at (by omega) t11
    clear hsz t3 t11
    simp only [ops17m, ops18m, tail18, tail16, tailM, rest6m, rest5m, rest4m, rest2m]
    simp only [body3, Try.f3, Option.getD_some]
    simp only [List.range, List.range.loop, List.map_cons, List.map_nil, f3, f11, List.zip_cons_cons, List.zip_nil_right, List.foldl_cons, List.foldl_nil]
    clear f3 f11
    refine Gz.goes (n := 60) ?_
    walk_nrm
    u_op atRl hF
    u_op atRl hF
    u_op atRl hF
    u_op atRl hF
    u_op atRl hF
    u_c stepG_region_end atRl hF
    u_c stepG_seq atRl hF
    exact Goes.stop fun w₁ h₁ => .stop fun w₂ h₂ => ⟨⟨_, rfl, rfl, rfl, rfl, rfl, rfl⟩, atRl (atRl hF h₁) h₂⟩
  clear hF t3 t11 hsz
  rintro g w ⟨⟨T, hsz, t3, t11, t16, t17, rfl⟩, hF⟩
  refine (drawZ (cx := cx) (cz := cz) hkk hz0 hx0 hEx hEz q5 hsz t3 t11 t16 t17 hF).bind ?_
  clear hF q5 hz0 hx0
  rintro g w ⟨rfl, hF⟩
  obtain ⟨f, rfl⟩ := lit_of hsz
  have f3 := lit_at (by omega) t3
  have f11 := lit_at (by omega) t11
  have f16 := lit_at (by omega) t16
  have f17 := lit_at (by omega) t17
  clear hsz t3 t11 t16 t17
  simp only [ops18m, tail18, tail16, tailM, rest6m, rest5m, rest4m, rest2m]
  simp only [body3, Try.f3, Option.getD_some]
  simp only [List.range, List.range.loop, List.map_cons, List.map_nil, f3, f11, f16, f17, List.zip_cons_cons, List.zip_nil_right, List.foldl_cons, List.foldl_nil]
  clear f3 f11 f16 f17
  refine Gz.goes (n := 60) ?_
  walk_nrm
  u_c stepG_region_end atRl hF
  u_c stepG_ret' atRl hF
  exact Goes.stop fun w₁ h₁ => .stop fun w₂ h₂ => ⟨⟨_, _, rfl, rfl⟩, atRl (atRl hF h₁) h₂⟩
end
end Go.Proofs.Ytjplnkkcmkpkbaa
