/- Several of my texts in one: Mn36. -/
import Derived.Test.YtjplnkkcmkpkbaaMA50
set_option linter.unusedSimpArgs false
set_option linter.unusedVariables false
/- The machine, 36: the regions of castkeep.ManyAlike that draw their order. -/
namespace Go.Proofs.Ytjplnkkcmkpkbaa
open Go.Conc Go.ConcN Go.RowKit Go.Conc.Lib Go.ConcR.Gen Go.ConcN.Gen
open Go.ConcR (KK wgBlock WgAt stA smA rd wr mk DC0)

theorem wanted_of {ops : Array Oper} {o : Oper} {T : Array Value} {g d : Nat} {v : Bool} (hg : o.guard = some (g, v)) (hd : (ops[g]?).bind (·.dst) = some d) (hT : T[d]? = some (.bool v)) : Region.wanted o (yielded ops T) = true := by
  simp [Region.wanted, yielded, hg, hd, hT]
section
variable {P : Program} {E : Event → Prop} {b : Frame} {ops : Array Oper} {k : List Item} {cs : List Frame} {K : World → Prop} {T0 : Array Value} {ds : List Nat} {Vs : List Value}
/-- a call of a function that comes back with a known value -/
theorem opgz_call {i : Nat} {o : Oper} {v : Value} {f : FuncId} {fn : Func} {c : Code} {args : Array Operand} {ats : Array TypeId} {av : Array Value} (hK : ∀ {w w₁ : World}, K w → AtRel w w₁ → K w₁) (ho : ops[i]? = some o) (hv : Vs[i]? = some v) (hk : b.kind ≠ .early)
    (hop : o.op = .call { callee := .value (.func f), args, argTypes := ats }) (hf : P.funcs[f]? = some fn) (hname : (fn.name == "runtime.NumGoroutine") = false) (hb : fn.body = some c)
    (h : ∀ T w, K w → (∀ s : Nat, ds.contains s = false → T[s]? = T0[s]?) → (∀ j, (o.after.any fun e => Region.binds .any e && e.on == j) = true → ∀ (d : Nat) (v : Value), ds[j]? = some d → Vs[j]? = some v → T[d]? = some v) →
      Region.wanted o (yielded ops T) = true ∧ args.map (Act.eval ⟨T, []⟩) = av ∧ ∀ (c : Frame) (cs : List Frame) (w : World), K w → Gz P (DE E) (fun g w => g = G (c.finish v) cs ∧ K w) (G (Frame.enter P f av .normal) (c :: cs)) w) : OpGz P E b ops k cs K T0 ds Vs i := by
  intro o' v' ho' hv' T w rest hF hb' hd
  rw [ho] at ho'; cases ho'
  rw [hv] at hv'; cases hv'
  obtain ⟨h1, h2, h3⟩ := h T w hF hb' hd
  refine gz_call av hK ho h1 hk hop hf hname hb hF h2 fun w' hF' => ?_
  refine (h3 _ _ w' hF').bind fun g w2 hg => ?_
  obtain ⟨rfl, hF2⟩ := hg
  refine .stop fun w3 h4 => ⟨?_, hK hF2 h4⟩
  rw [Frame.finish_at, ho]; rfl
end
noncomputable def opsM : Array Oper := match loopM with
  | .seq _ (.seq _ (.seq (.block _ (.seq _ (.seq (.region _ ops _) _))) _)) => ops
  | _ => #[]
noncomputable def aftM : Code := match loopM with
  | .seq _ (.seq _ (.seq (.block _ (.seq _ (.seq _ c))) _)) => c
  | _ => .skip
noncomputable def incM : Code := match loopM with
  | .seq _ (.seq _ (.seq _ c)) => c
  | _ => .skip
noncomputable def tail16 : Code := match tailM with
  | .seq _ c => c
  | _ => .skip
noncomputable def ops17m : Array Oper := match tail16 with
  | .seq _ (.seq (.region _ ops _) _) => ops
  | _ => #[]
noncomputable def tail18 : Code := match tail16 with
  | .seq _ (.seq _ c) => c
  | _ => .skip
noncomputable def ops18m : Array Oper := match tail18 with
  | .seq (.region _ ops _) _ => ops
  | _ => #[]
section
variable {E : Event → Prop} {W w : World} {i N Cx Cy Cz cx cy cz kk : Nat} {u0 u1 y0 y1 z0 : Value} {k : List Item} {T0 : Array Value}
set_option maxRecDepth 100000 in
set_option maxHeartbeats 8000000 in
theorem drawM (hi0 : i < N) (hx0 : W.cell? ⟨Cx, i * 2, none⟩ = some u0) (hx1 : W.cell? ⟨Cx, i * 2 + 1, none⟩ = some u1) (hy0 : W.cell? ⟨Cy, i * 2, none⟩ = some y0) (hy1 : W.cell? ⟨Cy, i * 2 + 1, none⟩ = some y1) (hEx : ∀ o, E ⟨.cell ⟨Cx, o, none⟩, false, false⟩) (hEy : ∀ o, E ⟨.cell ⟨Cy, o, none⟩, false, false⟩)
    (q5 : ∀ (c : Frame) (cs : List Frame) (w : World), AtRel W w → Gz Try.prog (DE E) (fun g w => g = G (c.finish (.bool true)) cs ∧ AtRel W w) (G (Frame.enter Try.prog 5 #[u0, y0] .normal) (c :: cs)) w) (q6 : ∀ (c : Frame) (cs : List Frame) (w : World), AtRel W w → Gz Try.prog (DE E) (fun g w => g = G (c.finish (.bool true)) cs ∧ AtRel W w) (G (Frame.enter Try.prog 6 #[u1, y1] .normal) (c :: cs)) w)
    (hsz : T0.size = 157) (t11 : T0[11]? = some (.slice (some ⟨Cx, 0, none⟩) N cx)) (t13 : T0[13]? = some (.slice (some ⟨Cy, 0, none⟩) N cy)) (t15 : T0[15]? = some (.int .i64 (i : Nat))) (hF : AtRel W w) :
    Gz Try.prog (DE E) (fun g w' => g = G (b3.at ⟨(List.zip [94, 95, 96, 97, 98, 99, 100, 101, 102, 103, 104, 105, 106, 107, 108, 109, 110, 111, 112, 113, 114, 115, 116, 117, 118, 119] [.slice (some ⟨Cx, 0, none⟩) N cx, .int .i64 (i : Nat), .pointer (some ⟨Cx, i * 2, none⟩), .pointer (some ⟨Cx, i * 2, none⟩), u0, .slice (some ⟨Cy, 0, none⟩) N cy, .int .i64 (i : Nat), .pointer (some ⟨Cy, i * 2, none⟩), .pointer (some ⟨Cy, i * 2, none⟩), y0, .bool true, .bool false, .bool false, .slice (some ⟨Cx, 0, none⟩) N cx, .int .i64 (i : Nat), .pointer (some ⟨Cx, i * 2, none⟩), .pointer (some ⟨Cx, i * 2 + 1, none⟩), u1, .slice (some ⟨Cy, 0, none⟩) N cy, .int .i64 (i : Nat), .pointer (some ⟨Cy, i * 2, none⟩), .pointer (some ⟨Cy, i * 2 + 1, none⟩), y1, .bool true, .bool false, .bool false]).foldl (fun T p => T.setIfInBounds p.1 p.2) T0, []⟩ (.inRegion opsM [] :: k)) [] ∧ AtRel W w')
      (G (b3.at ⟨T0, []⟩ (.code (.region 11 opsM true) :: k)) []) w := by
  simp only [opsM, loopM, rest6m, rest5m, rest4m, rest2m]
  simp only [body3, Try.f3, Option.getD_some]
  refine drawG atRl (by kernel_rfl) (by kernel_rfl) (by rw [hsz]; kernel_rfl) rfl (fun i hi => ?_) hF
  replace hi : i < 26 := hi
  match i, hi with
  | 0, _ =>
    refine opgz atRl (o := _) rfl rfl (by k_ne) fun T w hw hb hd => ?_
    have h11 := (hb 11 rfl).trans t11
    refine ⟨rfl, ?_, fun e he => ?_⟩
    · unfold execOp; simp [go_sem, Act.eval, h11]
    · unfold execOp at he; simp [go_sem, Act.eval, h11] at he
  | 1, _ =>
    refine opgz atRl (o := _) rfl rfl (by k_ne) fun T w hw hb hd => ?_
    have h15 := (hb 15 rfl).trans t15
    refine ⟨rfl, ?_, fun e he => ?_⟩
    · unfold execOp; simp [go_sem, Act.eval, h15]
    · unfold execOp at he; simp [go_sem, Act.eval, h15] at he
  | 2, _ =>
    refine opgz atRl (o := _) rfl rfl (by k_ne) fun T w hw hb hd => ?_
    have h94 := hd 0 (by kernel_rfl) 94 _ rfl rfl
    have h95 := hd 1 (by kernel_rfl) 95 _ rfl rfl
    refine ⟨rfl, ?_, fun e he => ?_⟩
    · unfold execOp; simp [go_sem, Act.eval, h94, h95, hi0]
    · unfold execOp at he; simp [go_sem, Act.eval, h94, h95, hi0] at he
  | 3, _ =>
    refine opgz atRl (o := _) rfl rfl (by k_ne) fun T w hw hb hd => ?_
    have h96 := hd 2 (by kernel_rfl) 96 _ rfl rfl
    refine ⟨rfl, ?_, fun e he => ?_⟩
    · unfold execOp; simp [go_sem, Act.eval, h96]
    · unfold execOp at he; simp [go_sem, Act.eval, h96] at he
  | 4, _ =>
    refine opgz atRl (o := _) rfl rfl (by k_ne) fun T w hw hb hd => ?_
    have h97 := hd 3 (by kernel_rfl) 97 _ rfl rfl
    refine ⟨rfl, ?_, fun e he => ?_⟩
    · obtain ⟨dd, rfl⟩ := hw; unfold execOp; simp [go_sem, Act.eval, at_cell, h97, hx0]
    · obtain ⟨dd, rfl⟩ := hw; unfold execOp at he; simp [go_sem, Act.eval, at_cell, h97, hx0] at he; subst he; exact hEx _
  | 5, _ =>
    refine opgz atRl (o := _) rfl rfl (by k_ne) fun T w hw hb hd => ?_
    have h13 := (hb 13 rfl).trans t13
    refine ⟨rfl, ?_, fun e he => ?_⟩
    · unfold execOp; simp [go_sem, Act.eval, h13]
    · unfold execOp at he; simp [go_sem, Act.eval, h13] at he
  | 6, _ =>
    refine opgz atRl (o := _) rfl rfl (by k_ne) fun T w hw hb hd => ?_
    have h15 := (hb 15 rfl).trans t15
    refine ⟨rfl, ?_, fun e he => ?_⟩
    · unfold execOp; simp [go_sem, Act.eval, h15]
    · unfold execOp at he; simp [go_sem, Act.eval, h15] at he
  | 7, _ =>
    refine opgz atRl (o := _) rfl rfl (by k_ne) fun T w hw hb hd => ?_
    have h99 := hd 5 (by kernel_rfl) 99 _ rfl rfl
    have h100 := hd 6 (by kernel_rfl) 100 _ rfl rfl
    refine ⟨rfl, ?_, fun e he => ?_⟩
    · unfold execOp; simp [go_sem, Act.eval, h99, h100, hi0]
    · unfold execOp at he; simp [go_sem, Act.eval, h99, h100, hi0] at he
  | 8, _ =>
    refine opgz atRl (o := _) rfl rfl (by k_ne) fun T w hw hb hd => ?_
    have h101 := hd 7 (by kernel_rfl) 101 _ rfl rfl
    refine ⟨rfl, ?_, fun e he => ?_⟩
    · unfold execOp; simp [go_sem, Act.eval, h101]
    · unfold execOp at he; simp [go_sem, Act.eval, h101] at he
  | 9, _ =>
    refine opgz atRl (o := _) rfl rfl (by k_ne) fun T w hw hb hd => ?_
    have h102 := hd 8 (by kernel_rfl) 102 _ rfl rfl
    refine ⟨rfl, ?_, fun e he => ?_⟩
    · obtain ⟨dd, rfl⟩ := hw; unfold execOp; simp [go_sem, Act.eval, at_cell, h102, hy0]
    · obtain ⟨dd, rfl⟩ := hw; unfold execOp at he; simp [go_sem, Act.eval, at_cell, h102, hy0] at he; subst he; exact hEy _
  | 10, _ =>
    refine opgz_call (av := #[u0, y0]) atRl (o := _) rfl rfl (by k_ne) rfl Try.func5 (by kernel_rfl) rfl fun T w hw hb hd => ?_
    have h98 := hd 4 (by kernel_rfl) 98 _ rfl rfl
    have h103 := hd 9 (by kernel_rfl) 103 _ rfl rfl
    exact ⟨rfl, by simp [Act.eval, h98, h103], q5⟩
  | 11, _ =>
    refine opgz atRl (o := _) rfl rfl (by k_ne) fun T w hw hb hd => ?_
    have h104 := hd 10 (by kernel_rfl) 104 _ rfl rfl
    refine ⟨rfl, ?_, fun e he => ?_⟩
    · unfold execOp; simp [go_sem, Act.eval, h104]
    · unfold execOp at he; simp [go_sem, Act.eval, h104] at he
  | 12, _ =>
    refine opgz atRl (o := _) rfl rfl (by k_ne) fun T w hw hb hd => ?_
    have h105 := hd 11 (by kernel_rfl) 105 _ rfl rfl
    refine ⟨rfl, ?_, fun e he => ?_⟩
    · unfold execOp; simp [go_sem, Act.eval, h105]
    · unfold execOp at he; simp [go_sem, Act.eval, h105] at he
  | 13, _ =>
    refine opgz atRl (o := _) rfl rfl (by k_ne) fun T w hw hb hd => ?_
    have h11 := (hb 11 rfl).trans t11
    have h106 := hd 12 (by kernel_rfl) 106 _ rfl rfl
    refine ⟨(wanted_of (g := 12) (d := 106) rfl rfl h106), ?_, fun e he => ?_⟩
    · unfold execOp; simp [go_sem, Act.eval, h11]
    · unfold execOp at he; simp [go_sem, Act.eval, h11] at he
  | 14, _ =>
    refine opgz atRl (o := _) rfl rfl (by k_ne) fun T w hw hb hd => ?_
    have h15 := (hb 15 rfl).trans t15
    have h106 := hd 12 (by kernel_rfl) 106 _ rfl rfl
    refine ⟨(wanted_of (g := 12) (d := 106) rfl rfl h106), ?_, fun e he => ?_⟩
    · unfold execOp; simp [go_sem, Act.eval, h15]
    · unfold execOp at he; simp [go_sem, Act.eval, h15] at he
  | 15, _ =>
    refine opgz atRl (o := _) rfl rfl (by k_ne) fun T w hw hb hd => ?_
    have h107 := hd 13 (by kernel_rfl) 107 _ rfl rfl
    have h108 := hd 14 (by kernel_rfl) 108 _ rfl rfl
    have h106 := hd 12 (by kernel_rfl) 106 _ rfl rfl
    refine ⟨(wanted_of (g := 12) (d := 106) rfl rfl h106), ?_, fun e he => ?_⟩
    · unfold execOp; simp [go_sem, Act.eval, h107, h108, hi0]
    · unfold execOp at he; simp [go_sem, Act.eval, h107, h108, hi0] at he
  | 16, _ =>
    refine opgz atRl (o := _) rfl rfl (by k_ne) fun T w hw hb hd => ?_
    have h109 := hd 15 (by kernel_rfl) 109 _ rfl rfl
    have h106 := hd 12 (by kernel_rfl) 106 _ rfl rfl
    refine ⟨(wanted_of (g := 12) (d := 106) rfl rfl h106), ?_, fun e he => ?_⟩
    · unfold execOp; simp [go_sem, Act.eval, h109]
    · unfold execOp at he; simp [go_sem, Act.eval, h109] at he
  | 17, _ =>
    refine opgz atRl (o := _) rfl rfl (by k_ne) fun T w hw hb hd => ?_
    have h110 := hd 16 (by kernel_rfl) 110 _ rfl rfl
    have h106 := hd 12 (by kernel_rfl) 106 _ rfl rfl
    refine ⟨(wanted_of (g := 12) (d := 106) rfl rfl h106), ?_, fun e he => ?_⟩
    · obtain ⟨dd, rfl⟩ := hw; unfold execOp; simp [go_sem, Act.eval, at_cell, h110, hx1]
    · obtain ⟨dd, rfl⟩ := hw; unfold execOp at he; simp [go_sem, Act.eval, at_cell, h110, hx1] at he; subst he; exact hEx _
  | 18, _ =>
    refine opgz atRl (o := _) rfl rfl (by k_ne) fun T w hw hb hd => ?_
    have h13 := (hb 13 rfl).trans t13
    have h106 := hd 12 (by kernel_rfl) 106 _ rfl rfl
    refine ⟨(wanted_of (g := 12) (d := 106) rfl rfl h106), ?_, fun e he => ?_⟩
    · unfold execOp; simp [go_sem, Act.eval, h13]
    · unfold execOp at he; simp [go_sem, Act.eval, h13] at he
  | 19, _ =>
    refine opgz atRl (o := _) rfl rfl (by k_ne) fun T w hw hb hd => ?_
    have h15 := (hb 15 rfl).trans t15
    have h106 := hd 12 (by kernel_rfl) 106 _ rfl rfl
    refine ⟨(wanted_of (g := 12) (d := 106) rfl rfl h106), ?_, fun e he => ?_⟩
    · unfold execOp; simp [go_sem, Act.eval, h15]
    · unfold execOp at he; simp [go_sem, Act.eval, h15] at he
  | 20, _ =>
    refine opgz atRl (o := _) rfl rfl (by k_ne) fun T w hw hb hd => ?_
    have h112 := hd 18 (by kernel_rfl) 112 _ rfl rfl
    have h113 := hd 19 (by kernel_rfl) 113 _ rfl rfl
    have h106 := hd 12 (by kernel_rfl) 106 _ rfl rfl
    refine ⟨(wanted_of (g := 12) (d := 106) rfl rfl h106), ?_, fun e he => ?_⟩
    · unfold execOp; simp [go_sem, Act.eval, h112, h113, hi0]
    · unfold execOp at he; simp [go_sem, Act.eval, h112, h113, hi0] at he
  | 21, _ =>
    refine opgz atRl (o := _) rfl rfl (by k_ne) fun T w hw hb hd => ?_
    have h114 := hd 20 (by kernel_rfl) 114 _ rfl rfl
    have h106 := hd 12 (by kernel_rfl) 106 _ rfl rfl
    refine ⟨(wanted_of (g := 12) (d := 106) rfl rfl h106), ?_, fun e he => ?_⟩
    · unfold execOp; simp [go_sem, Act.eval, h114]
    · unfold execOp at he; simp [go_sem, Act.eval, h114] at he
  | 22, _ =>
    refine opgz atRl (o := _) rfl rfl (by k_ne) fun T w hw hb hd => ?_
    have h115 := hd 21 (by kernel_rfl) 115 _ rfl rfl
    have h106 := hd 12 (by kernel_rfl) 106 _ rfl rfl
    refine ⟨(wanted_of (g := 12) (d := 106) rfl rfl h106), ?_, fun e he => ?_⟩
    · obtain ⟨dd, rfl⟩ := hw; unfold execOp; simp [go_sem, Act.eval, at_cell, h115, hy1]
    · obtain ⟨dd, rfl⟩ := hw; unfold execOp at he; simp [go_sem, Act.eval, at_cell, h115, hy1] at he; subst he; exact hEy _
  | 23, _ =>
    refine opgz_call (av := #[u1, y1]) atRl (o := _) rfl rfl (by k_ne) rfl Try.func6 (by kernel_rfl) rfl fun T w hw hb hd => ?_
    have h111 := hd 17 (by kernel_rfl) 111 _ rfl rfl
    have h116 := hd 22 (by kernel_rfl) 116 _ rfl rfl
    have h106 := hd 12 (by kernel_rfl) 106 _ rfl rfl
    exact ⟨(wanted_of (g := 12) (d := 106) rfl rfl h106), by simp [Act.eval, h111, h116], q6⟩
  | 24, _ =>
    refine opgz atRl (o := _) rfl rfl (by k_ne) fun T w hw hb hd => ?_
    have h117 := hd 23 (by kernel_rfl) 117 _ rfl rfl
    have h106 := hd 12 (by kernel_rfl) 106 _ rfl rfl
    refine ⟨(wanted_of (g := 12) (d := 106) rfl rfl h106), ?_, fun e he => ?_⟩
    · unfold execOp; simp [go_sem, Act.eval, h117]
    · unfold execOp at he; simp [go_sem, Act.eval, h117] at he
  | 25, _ =>
    refine opgz atRl (o := _) rfl rfl (by k_ne) fun T w hw hb hd => ?_
    have h106 := hd 12 (by kernel_rfl) 106 _ rfl rfl
    have h118 := hd 24 (by kernel_rfl) 118 _ rfl rfl
    refine ⟨rfl, ?_, fun e he => ?_⟩
    · unfold execOp; simp [go_sem, Act.eval, h106, h118]
    · unfold execOp at he; simp [go_sem, Act.eval, h106, h118] at he
  | m + 26, h => omega
set_option maxRecDepth 100000 in
set_option maxHeartbeats 8000000 in
theorem drawZ (hk0 : kk < N) (hz0 : W.cell? ⟨Cz, 0, none⟩ = some z0) (hx0 : W.cell? ⟨Cx, kk * 2, none⟩ = some u0) (hEx : ∀ o, E ⟨.cell ⟨Cx, o, none⟩, false, false⟩) (hEz : ∀ o, E ⟨.cell ⟨Cz, o, none⟩, false, false⟩)
    (q5 : ∀ (c : Frame) (cs : List Frame) (w : World), AtRel W w → Gz Try.prog (DE E) (fun g w => g = G (c.finish (.bool true)) cs ∧ AtRel W w) (G (Frame.enter Try.prog 5 #[z0, u0] .normal) (c :: cs)) w)
    (hsz : T0.size = 157) (t3 : T0[3]? = some (.int .i64 (kk : Nat))) (t11 : T0[11]? = some (.slice (some ⟨Cx, 0, none⟩) N cx)) (t16 : T0[16]? = some (.slice (some ⟨Cz, 0, none⟩) 1 cz)) (t17 : T0[17]? = some (.int .i64 0)) (hF : AtRel W w) :
    Gz Try.prog (DE E) (fun g w' => g = G (b3.at ⟨(List.zip [138, 139, 140, 141, 142, 143, 144, 145, 146, 147, 148, 149, 150, 151, 152, 153, 154, 155, 156, 8] [.int .i64 0, .bool true, .bool true, .slice (some ⟨Cz, 0, none⟩) 1 cz, .int .i64 1, .bool true, .bool true, .bool true, .slice (some ⟨Cz, 0, none⟩) 1 cz, .pointer (some ⟨Cz, 0, none⟩), .pointer (some ⟨Cz, 0, none⟩), z0, .slice (some ⟨Cx, 0, none⟩) N cx, .int .i64 (kk : Nat), .pointer (some ⟨Cx, kk * 2, none⟩), .pointer (some ⟨Cx, kk * 2, none⟩), u0, .bool true, .bool true, .bool true]).foldl (fun T p => T.setIfInBounds p.1 p.2) T0, []⟩ (.inRegion ops18m [] :: k)) [] ∧ AtRel W w')
      (G (b3.at ⟨T0, []⟩ (.code (.region 18 ops18m true) :: k)) []) w := by
  simp only [ops18m, tail18, tail16, tailM, rest6m, rest5m, rest4m, rest2m]
  simp only [body3, Try.f3, Option.getD_some]
  refine drawG atRl (by kernel_rfl) (by kernel_rfl) (by rw [hsz]; kernel_rfl) rfl (fun i hi => ?_) hF
  replace hi : i < 20 := hi
  match i, hi with
  | 0, _ =>
    refine opgz atRl (o := _) rfl rfl (by k_ne) fun T w hw hb hd => ?_
    have h17 := (hb 17 rfl).trans t17
    refine ⟨rfl, ?_, fun e he => ?_⟩
    · unfold execOp; simp [go_sem, Act.eval, h17]
    · unfold execOp at he; simp [go_sem, Act.eval, h17] at he
  | 1, _ =>
    refine opgz atRl (o := _) rfl rfl (by k_ne) fun T w hw hb hd => ?_
    have h138 := hd 0 (by kernel_rfl) 138 _ rfl rfl
    refine ⟨rfl, ?_, fun e he => ?_⟩
    · unfold execOp; simp [go_sem, Act.eval, h138]
    · unfold execOp at he; simp [go_sem, Act.eval, h138] at he
  | 2, _ =>
    refine opgz atRl (o := _) rfl rfl (by k_ne) fun T w hw hb hd => ?_
    have h139 := hd 1 (by kernel_rfl) 139 _ rfl rfl
    refine ⟨rfl, ?_, fun e he => ?_⟩
    · unfold execOp; simp [go_sem, Act.eval, h139]
    · unfold execOp at he; simp [go_sem, Act.eval, h139] at he
  | 3, _ =>
    refine opgz atRl (o := _) rfl rfl (by k_ne) fun T w hw hb hd => ?_
    have h16 := (hb 16 rfl).trans t16
    have h140 := hd 2 (by kernel_rfl) 140 _ rfl rfl
    refine ⟨(wanted_of (g := 2) (d := 140) rfl rfl h140), ?_, fun e he => ?_⟩
    · unfold execOp; simp [go_sem, Act.eval, h16]
    · unfold execOp at he; simp [go_sem, Act.eval, h16] at he
  | 4, _ =>
    refine opgz atRl (o := _) rfl rfl (by k_ne) fun T w hw hb hd => ?_
    have h141 := hd 3 (by kernel_rfl) 141 _ rfl rfl
    have h140 := hd 2 (by kernel_rfl) 140 _ rfl rfl
    refine ⟨(wanted_of (g := 2) (d := 140) rfl rfl h140), ?_, fun e he => ?_⟩
    · unfold execOp; simp [go_sem, Act.eval, h141]
    · unfold execOp at he; simp [go_sem, Act.eval, h141] at he
  | 5, _ =>
    refine opgz atRl (o := _) rfl rfl (by k_ne) fun T w hw hb hd => ?_
    have h142 := hd 4 (by kernel_rfl) 142 _ rfl rfl
    have h140 := hd 2 (by kernel_rfl) 140 _ rfl rfl
    refine ⟨(wanted_of (g := 2) (d := 140) rfl rfl h140), ?_, fun e he => ?_⟩
    · unfold execOp; simp [go_sem, Act.eval, h142]
    · unfold execOp at he; simp [go_sem, Act.eval, h142] at he
  | 6, _ =>
    refine opgz atRl (o := _) rfl rfl (by k_ne) fun T w hw hb hd => ?_
    have h140 := hd 2 (by kernel_rfl) 140 _ rfl rfl
    have h143 := hd 5 (by kernel_rfl) 143 _ rfl rfl
    refine ⟨rfl, ?_, fun e he => ?_⟩
    · unfold execOp; simp [go_sem, Act.eval, h140, h143]
    · unfold execOp at he; simp [go_sem, Act.eval, h140, h143] at he
  | 7, _ =>
    refine opgz atRl (o := _) rfl rfl (by k_ne) fun T w hw hb hd => ?_
    have h144 := hd 6 (by kernel_rfl) 144 _ rfl rfl
    refine ⟨rfl, ?_, fun e he => ?_⟩
    · unfold execOp; simp [go_sem, Act.eval, h144]
    · unfold execOp at he; simp [go_sem, Act.eval, h144] at he
  | 8, _ =>
    refine opgz atRl (o := _) rfl rfl (by k_ne) fun T w hw hb hd => ?_
    have h16 := (hb 16 rfl).trans t16
    have h145 := hd 7 (by kernel_rfl) 145 _ rfl rfl
    refine ⟨(wanted_of (g := 7) (d := 145) rfl rfl h145), ?_, fun e he => ?_⟩
    · unfold execOp; simp [go_sem, Act.eval, h16]
    · unfold execOp at he; simp [go_sem, Act.eval, h16] at he
  | 9, _ =>
    refine opgz atRl (o := _) rfl rfl (by k_ne) fun T w hw hb hd => ?_
    have h146 := hd 8 (by kernel_rfl) 146 _ rfl rfl
    have h145 := hd 7 (by kernel_rfl) 145 _ rfl rfl
    refine ⟨(wanted_of (g := 7) (d := 145) rfl rfl h145), ?_, fun e he => ?_⟩
    · unfold execOp; simp [go_sem, Act.eval, h146]
    · unfold execOp at he; simp [go_sem, Act.eval, h146] at he
  | 10, _ =>
    refine opgz atRl (o := _) rfl rfl (by k_ne) fun T w hw hb hd => ?_
    have h147 := hd 9 (by kernel_rfl) 147 _ rfl rfl
    have h145 := hd 7 (by kernel_rfl) 145 _ rfl rfl
    refine ⟨(wanted_of (g := 7) (d := 145) rfl rfl h145), ?_, fun e he => ?_⟩
    · unfold execOp; simp [go_sem, Act.eval, h147]
    · unfold execOp at he; simp [go_sem, Act.eval, h147] at he
  | 11, _ =>
    refine opgz atRl (o := _) rfl rfl (by k_ne) fun T w hw hb hd => ?_
    have h148 := hd 10 (by kernel_rfl) 148 _ rfl rfl
    have h145 := hd 7 (by kernel_rfl) 145 _ rfl rfl
    refine ⟨(wanted_of (g := 7) (d := 145) rfl rfl h145), ?_, fun e he => ?_⟩
    · obtain ⟨dd, rfl⟩ := hw; unfold execOp; simp [go_sem, Act.eval, at_cell, h148, hz0]
    · obtain ⟨dd, rfl⟩ := hw; unfold execOp at he; simp [go_sem, Act.eval, at_cell, h148, hz0] at he; subst he; exact hEz _
  | 12, _ =>
    refine opgz atRl (o := _) rfl rfl (by k_ne) fun T w hw hb hd => ?_
    have h11 := (hb 11 rfl).trans t11
    have h145 := hd 7 (by kernel_rfl) 145 _ rfl rfl
    refine ⟨(wanted_of (g := 7) (d := 145) rfl rfl h145), ?_, fun e he => ?_⟩
    · unfold execOp; simp [go_sem, Act.eval, h11]
    · unfold execOp at he; simp [go_sem, Act.eval, h11] at he
  | 13, _ =>
    refine opgz atRl (o := _) rfl rfl (by k_ne) fun T w hw hb hd => ?_
    have h3 := (hb 3 rfl).trans t3
    have h145 := hd 7 (by kernel_rfl) 145 _ rfl rfl
    refine ⟨(wanted_of (g := 7) (d := 145) rfl rfl h145), ?_, fun e he => ?_⟩
    · unfold execOp; simp [go_sem, Act.eval, h3]
    · unfold execOp at he; simp [go_sem, Act.eval, h3] at he
  | 14, _ =>
    refine opgz atRl (o := _) rfl rfl (by k_ne) fun T w hw hb hd => ?_
    have h150 := hd 12 (by kernel_rfl) 150 _ rfl rfl
    have h151 := hd 13 (by kernel_rfl) 151 _ rfl rfl
    have h145 := hd 7 (by kernel_rfl) 145 _ rfl rfl
    refine ⟨(wanted_of (g := 7) (d := 145) rfl rfl h145), ?_, fun e he => ?_⟩
    · unfold execOp; simp [go_sem, Act.eval, h150, h151, hk0]
    · unfold execOp at he; simp [go_sem, Act.eval, h150, h151, hk0] at he
  | 15, _ =>
    refine opgz atRl (o := _) rfl rfl (by k_ne) fun T w hw hb hd => ?_
    have h152 := hd 14 (by kernel_rfl) 152 _ rfl rfl
    have h145 := hd 7 (by kernel_rfl) 145 _ rfl rfl
    refine ⟨(wanted_of (g := 7) (d := 145) rfl rfl h145), ?_, fun e he => ?_⟩
    · unfold execOp; simp [go_sem, Act.eval, h152]
    · unfold execOp at he; simp [go_sem, Act.eval, h152] at he
  | 16, _ =>
    refine opgz atRl (o := _) rfl rfl (by k_ne) fun T w hw hb hd => ?_
    have h153 := hd 15 (by kernel_rfl) 153 _ rfl rfl
    have h145 := hd 7 (by kernel_rfl) 145 _ rfl rfl
    refine ⟨(wanted_of (g := 7) (d := 145) rfl rfl h145), ?_, fun e he => ?_⟩
    · obtain ⟨dd, rfl⟩ := hw; unfold execOp; simp [go_sem, Act.eval, at_cell, h153, hx0]
    · obtain ⟨dd, rfl⟩ := hw; unfold execOp at he; simp [go_sem, Act.eval, at_cell, h153, hx0] at he; subst he; exact hEx _
  | 17, _ =>
    refine opgz_call (av := #[z0, u0]) atRl (o := _) rfl rfl (by k_ne) rfl Try.func5 (by kernel_rfl) rfl fun T w hw hb hd => ?_
    have h149 := hd 11 (by kernel_rfl) 149 _ rfl rfl
    have h154 := hd 16 (by kernel_rfl) 154 _ rfl rfl
    have h145 := hd 7 (by kernel_rfl) 145 _ rfl rfl
    exact ⟨(wanted_of (g := 7) (d := 145) rfl rfl h145), by simp [Act.eval, h149, h154], q5⟩
  | 18, _ =>
    refine opgz atRl (o := _) rfl rfl (by k_ne) fun T w hw hb hd => ?_
    have h145 := hd 7 (by kernel_rfl) 145 _ rfl rfl
    have h155 := hd 17 (by kernel_rfl) 155 _ rfl rfl
    refine ⟨rfl, ?_, fun e he => ?_⟩
    · unfold execOp; simp [go_sem, Act.eval, h145, h155]
    · unfold execOp at he; simp [go_sem, Act.eval, h145, h155] at he
  | 19, _ =>
    refine opgz atRl (o := _) rfl rfl (by k_ne) fun T w hw hb hd => ?_
    have h156 := hd 18 (by kernel_rfl) 156 _ rfl rfl
    refine ⟨rfl, ?_, fun e he => ?_⟩
    · unfold execOp; simp [go_sem, Act.eval, h156]
    · unfold execOp at he; simp [go_sem, Act.eval, h156] at he
  | m + 20, h => omega
end
end Go.Proofs.Ytjplnkkcmkpkbaa
