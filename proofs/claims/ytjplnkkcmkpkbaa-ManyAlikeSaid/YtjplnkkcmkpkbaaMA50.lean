/- Several of my texts in one: Mn33, Mn34, Mn35. -/
import Derived.Test.YtjplnkkcmkpkbaaMA48
import Derived.Test.YtjplnkkcmkpkbaaMA49
set_option linter.unusedSimpArgs false
set_option linter.unusedVariables false
/- The machine, 33: castkeep.ManyAlike: to its first call of many.Run. -/
namespace Go.Proofs.Ytjplnkkcmkpkbaa
open Go.Conc Go.ConcN Go.RowKit Go.Conc.Lib Go.ConcR.Gen Go.ConcN.Gen
open Go.ConcR (KK wgBlock WgAt stA smA rd wr mk DC0)

section
variable {P : Program} {E : Event → Prop} {Stop : Goroutine → World → Prop} {b : Frame} {a : Act} {ops : Array Oper} {i : Nat} {rest : List Nat} {k : List Item} {cs : List Frame} {o : Oper} {K : World → Prop} {w : World}
/-- a function is entered -/
theorem gz_call {f : FuncId} {fn : Func} {c : Code} {args : Array Operand} {ats : Array TypeId} (av : Array Value) (hK : ∀ {w w₁ : World}, K w → AtRel w w₁ → K w₁) (ho : ops[i]? = some o) (hw : Region.wanted o (yielded ops a.tmps) = true) (hk : b.kind ≠ .early)
    (hop : o.op = .call { callee := .value (.func f), args, argTypes := ats }) (hf : P.funcs[f]? = some fn) (hname : (fn.name == "runtime.NumGoroutine") = false) (hb : fn.body = some c) (hF : K w) (has : args.map a.eval = av)
    (next : ∀ w', K w' → Gz P (DE E) Stop (G (Frame.enter P f av .normal) (b.at a (.inRegion ops (i :: rest) :: k) :: cs)) w') : Gz P (DE E) Stop (G (b.at a (.inRegion ops (i :: rest) :: k)) cs) w :=
  .step rfl fun w1 h1 => by
    have hb' : fn.body.isNone = false := by rw [hb]; rfl
    subst has
    refine ⟨_, _, _, stepG_enter ho hw hk (run_call_body hop hf hname hb'), fun e he => ?_, next _ (hK hF h1)⟩
    unfold listed at he
    rw [events_call_body hop hf hname hb', seen_none] at he
    simp at he
end
abbrev b3 : Frame := base 3
noncomputable def body3 : Code := Try.f3.body.getD .skip
noncomputable def ops1m : Array Oper := match body3 with
  | .seq _ (.seq (.seq (.region _ ops _) _) _) => ops
  | _ => #[]
noncomputable def rest1m : Code := match body3 with
  | .seq _ (.seq (.seq _ c) _) => c
  | _ => .skip
noncomputable def rest2m : Code := match body3 with
  | .seq _ (.seq _ c) => c
  | _ => .skip
/-- what was there at the beginning stands -/
structure Base (W : World) (Old : Nat → Prop) (w : World) : Prop where
  blk : ∀ b, b < W.heap.size → w.heap[b]? = W.heap[b]?
  size : W.heap.size ≤ w.heap.size
  os : w.os = W.os
  tape : w.tape = W.tape
  out : w.output = W.output
  old : ∀ b, Old b → W.heap.size ≤ b ∧ b < w.heap.size
theorem Base.run {W w w' : World} {Old Old' : Nat → Prop} {N : Nat} {D : Nat → List Deed} {n : Int} {v : Value} {e : Int} (h : Base W Old w) (r : RunOut w Old N D n v e w' Old') : Base W Old' w' :=
  ⟨fun b hb => (r.blk b (Nat.lt_of_lt_of_le hb h.size) fun ho => by have := (h.old b ho).1; omega).trans (h.blk b hb), Nat.le_trans h.size r.size, r.os.trans h.os, r.tape.trans h.tape, r.out.trans h.out,
    fun b hb => (r.old b hb).elim (fun x => ⟨(h.old b x).1, Nat.lt_of_lt_of_le (h.old b x).2 r.size⟩) fun x => ⟨Nat.le_trans h.size x.1, x.2⟩⟩
theorem Base.rely {W w w₁ : World} {Old : Nat → Prop} (h : Base W Old w) (r : AtRel w w₁) : Base W Old w₁ := by
  obtain ⟨d, rfl⟩ := r
  exact ⟨h.blk, h.size, h.os, h.tape, h.out, h.old⟩

def d0cs : List Deed := [⟨1, 1, ⟨#[97]⟩, ⟨#[]⟩⟩, ⟨7, 0, ⟨#[]⟩, ⟨#[]⟩⟩]
noncomputable def wA1 (W : World) : World := W.alloc (.cells #[.int .i64 1, .int .i64 1, .string ⟨#[97]⟩, .string ⟨#[]⟩, .int .i64 7, .int .i64 0, .string ⟨#[]⟩, .string ⟨#[]⟩] 28)
noncomputable def wA2 (W : World) : World := (wA1 W).alloc (.cells #[.slice (some ⟨W.heap.size, 0, none⟩) 2 2] 29)
section
variable {E : Event → Prop} {W w : World} {a b k : Int} {aJ : Option Addr} {N capJ : Nat} {Stop : Goroutine → World → Prop}
set_option maxRecDepth 100000 in
set_option maxHeartbeats 4000000 in
theorem seg1 (hF : AtRel W w) (next : ∀ (T : Array Value) w', T.size = 157 → T[0]? = some (.int .i64 a) → T[1]? = some (.int .i64 b) → T[2]? = some (.slice aJ N capJ) → T[3]? = some (.int .i64 k) → AtRel (wA2 W) w' →
      Gz Try.prog (DE E) Stop (G (Frame.enter Try.prog 4 #[.int .i64 2, .slice (some ⟨W.heap.size + 1, 0, none⟩) 1 1] .normal) [b3.at ⟨T, []⟩ (.inRegion ops1m [4, 5, 6, 7, 8, 9] :: .code rest1m :: [.code rest2m])]) w') :
    Gz Try.prog (DE E) Stop (G (Frame.enter Try.prog 3 #[.int .i64 a, .int .i64 b, .slice aJ N capJ, .int .i64 k] .normal) []) w := by
  have e : Frame.enter Try.prog 3 #[.int .i64 a, .int .i64 b, .slice aJ N capJ, .int .i64 k] .normal = b3.at ⟨#[.int .i64 a, .int .i64 b, .slice aJ N capJ, .int .i64 k] ++ Array.replicate 153 undef, []⟩ [.code body3] := by
    simp [Frame.enter, Frame.at, Try.func3, base, body3, Try.f3]
  rw [e]
  have s1 : (wA1 W).heap.size = W.heap.size + 1 := by simp [wA1]
  simp only [ops1m, rest1m, rest2m] at next
  simp only [body3, Try.f3, Option.getD_some] at next ⊢
  refine Gz.goes (n := 60) ?_
  walk_nrm
  u_c stepG_seq atRl hF
  u_reg atRl hF
  u_op atRl hF
  u_c stepG_region_end atRl hF
  u_c stepG_seq atRl hF
  u_c stepG_seq atRl hF
  u_reg atRl hF
  u_op atRl hF
  u_op atRl hF
  refine Goes.stop (fun w₁ h₁ => ?_)
  replace hF := atRl hF h₁
  clear h₁
  refine gz_val (v := .slice (some ⟨W.heap.size, 0, none⟩) 2 2) (W' := wA1 W) rfl rfl (by k_ne) hF (fun d => ?_) (fun d e he => ?_) (fun w' hF' => ?_)
  · (unfold execOp; simp [go_sem, Act.eval, at_size, at_alloc, wA1])
  · (unfold execOp at he; simp [go_sem, Act.eval] at he)
  replace hF := hF'
  clear hF'
  refine Gz.goes (n := 60) ?_
  walk_nrm
  refine Goes.stop (fun w₁ h₁ => ?_)
  replace hF := atRl hF h₁
  clear h₁
  refine gz_val (v := .slice (some ⟨W.heap.size + 1, 0, none⟩) 1 1) (W' := wA2 W) rfl rfl (by k_ne) hF (fun d => ?_) (fun d e he => ?_) (fun w' hF' => ?_)
  · (unfold execOp; simp [go_sem, Act.eval, at_size, at_alloc, s1, wA2])
  · (unfold execOp at he; simp [go_sem, Act.eval] at he)
  replace hF := hF'
  clear hF'
  refine Gz.goes (n := 60) ?_
  walk_nrm
  refine Goes.stop (fun w₁ h₁ => ?_)
  replace hF := atRl hF h₁
  refine gz_call #[.int .i64 2, .slice (some ⟨W.heap.size + 1, 0, none⟩) 1 1] atRl rfl rfl (by k_ne) rfl Try.func4 (by kernel_rfl) rfl hF (by simp [Act.eval]) (fun w' hF => ?_)
  exact next _ w' rfl rfl rfl rfl rfl hF
end
end Go.Proofs.Ytjplnkkcmkpkbaa
/- The machine, 34: castkeep.ManyAlike: from its first call of many.Run to its third. -/
namespace Go.Proofs.Ytjplnkkcmkpkbaa
open Go.Conc Go.ConcN Go.RowKit Go.Conc.Lib Go.ConcR.Gen Go.ConcN.Gen
open Go.ConcR (KK wgBlock WgAt stA smA rd wr mk DC0)

theorem lit_of {T : Array Value} {n : Nat} (h : T.size = n) : ∃ f : Nat → Value, T = ((List.range n).map f).toArray := by
  refine ⟨fun i => T.getD i undef, ?_⟩
  subst h
  apply Array.ext
  · simp
  · intro i h1 h2
    simp [h1]
theorem lit_at {f : Nat → Value} {n i : Nat} {v : Value} (hi : i < n) (h : (((List.range n).map f).toArray)[i]? = some v) : f i = v := by
  simpa [hi] using h
noncomputable def ops4m : Array Oper := match rest2m with
  | .seq (.region _ ops _) _ => ops
  | _ => #[]
noncomputable def rest4m : Code := match rest2m with
  | .seq _ c => c
  | _ => .skip
noncomputable def ops5m : Array Oper := match rest4m with
  | .seq (.region _ ops _) _ => ops
  | _ => #[]
noncomputable def rest5m : Code := match rest4m with
  | .seq _ c => c
  | _ => .skip
section
variable {E : Event → Prop} {W w : World} {a b k e : Int} {aJ : Option Addr} {N capJ C bt ct : Nat} {v : Value} {Stop : Goroutine → World → Prop} {T : Array Value}
set_option maxRecDepth 100000 in
set_option maxHeartbeats 4000000 in
theorem seg2 (hsz : T.size = 157) (t0 : T[0]? = some (.int .i64 a)) (t1 : T[1]? = some (.int .i64 b)) (t2 : T[2]? = some (.slice aJ N capJ)) (t3 : T[3]? = some (.int .i64 k))
    (c0 : W.cell? ⟨C, 0, none⟩ = some (.slice (some ⟨bt, 0, none⟩) 2 ct)) (c2 : W.cell? ⟨bt, 2, none⟩ = some (.string ⟨#[97]⟩)) (c3 : W.cell? ⟨bt, 3, none⟩ = some (.int .i64 1)) (hEC : ∀ o, E ⟨.cell ⟨C, o, none⟩, false, false⟩) (hEb : ∀ o, E ⟨.cell ⟨bt, o, none⟩, false, false⟩) (hF : AtRel W w)
    (next : ∀ (T : Array Value) w', T.size = 157 → T[0]? = some (.int .i64 a) → T[1]? = some (.int .i64 b) → T[2]? = some (.slice aJ N capJ) → T[3]? = some (.int .i64 k) → AtRel W w' →
      Gz Try.prog (DE E) Stop (G (Frame.enter Try.prog 4 #[.int .i64 a, .slice aJ N capJ] .normal) [b3.at ⟨T, []⟩ (.inRegion ops4m [2, 3, 4, 5, 6, 7] :: [.code rest4m])]) w') :
    Gz Try.prog (DE E) Stop (G ((b3.at ⟨T, []⟩ (.inRegion ops1m [4, 5, 6, 7, 8, 9] :: .code rest1m :: [.code rest2m])).finish (.tuple #[.slice (some ⟨C, 0, none⟩) 1 1, .int .i64 0])) []) w := by
  obtain ⟨f, rfl⟩ := lit_of hsz
  have f0 := lit_at (by omega) t0
  have f1 := lit_at (by omega) t1
  have f2 := lit_at (by omega) t2
  have f3 := lit_at (by omega) t3
  clear t0 t1 t2 t3 hsz
  rw [Frame.finish_at]
  simp only [ops4m, rest4m, ops1m, rest1m, rest2m] at next ⊢
  simp only [body3, Try.f3, Option.getD_some] at next ⊢
  simp only [List.range, List.range.loop, List.map_cons, List.map_nil, f0, f1, f2, f3]
  clear f0 f1 f2 f3
  refine Gz.goes (n := 60) ?_
  walk_nrm
  u_op atRl hF
  u_op atRl hF
  u_op atRl hF
  u_op atRl hF
  u_op atRl hF
  u_c stepG_region_end atRl hF
  u_c stepG_seq atRl hF
  u_reg atRl hF
  u_op atRl hF
  u_op atRl hF
  u_op atRl hF
  u_op atRl hF
  u_op atRl hF
  u_op atRl hF
  u_op atRl hF
  u_op atRl hF
  u_op atRl hF
  u_op atRl hF
  u_op atRl hF
  refine Goes.stop (fun w₁ h₁ => ?_)
  replace hF := atRl hF h₁
  clear h₁
  refine gz_ld (v := .slice (some ⟨bt, 0, none⟩) 2 ct) atRl rfl rfl (by k_ne) hF (fun w hw => ?_) (fun w hw e he => ?_) (fun w' hF' => ?_)
  · (obtain ⟨d, rfl⟩ := hw; unfold execOp; simp [go_sem, Act.eval, at_cell, c0])
  · (obtain ⟨d, rfl⟩ := hw; unfold execOp at he; simp [go_sem, Act.eval, at_cell, c0] at he; subst he; exact hEC _)
  replace hF := hF'
  clear hF'
  refine Gz.goes (n := 60) ?_
  walk_nrm
  u_op atRl hF
  u_op atRl hF
  u_op atRl hF
  u_op atRl hF
  u_op atRl hF
  u_op atRl hF
  u_op atRl hF
  refine Goes.stop (fun w₁ h₁ => ?_)
  replace hF := atRl hF h₁
  clear h₁
  refine gz_ld (v := .slice (some ⟨bt, 0, none⟩) 2 ct) atRl rfl rfl (by k_ne) hF (fun w hw => ?_) (fun w hw e he => ?_) (fun w' hF' => ?_)
  · (obtain ⟨d, rfl⟩ := hw; unfold execOp; simp [go_sem, Act.eval, at_cell, c0])
  · (obtain ⟨d, rfl⟩ := hw; unfold execOp at he; simp [go_sem, Act.eval, at_cell, c0] at he; subst he; exact hEC _)
  replace hF := hF'
  clear hF'
  refine Gz.goes (n := 60) ?_
  walk_nrm
  u_op atRl hF
  refine Goes.stop (fun w₁ h₁ => ?_)
  replace hF := atRl hF h₁
  clear h₁
  refine gz_ld (v := .agg #[.string ⟨#[97]⟩, .int .i64 1]) atRl rfl rfl (by k_ne) hF (fun w hw => ?_) (fun w hw e he => ?_) (fun w' hF' => ?_)
  · (obtain ⟨d, rfl⟩ := hw; unfold execOp; simp [go_sem, Act.eval, at_cell, c2, c3])
  · (obtain ⟨d, rfl⟩ := hw; unfold execOp at he; simp [go_sem, Act.eval, at_cell, c2, c3] at he; rcases he with rfl | rfl <;> exact hEb _)
  replace hF := hF'
  clear hF'
  refine Gz.goes (n := 60) ?_
  walk_nrm
  u_op atRl hF
  refine Goes.stop (fun w₁ h₁ => ?_)
  replace hF := atRl hF h₁
  clear h₁
  refine gz_ld (v := .bool false) atRl rfl rfl (by k_ne) hF (fun w hw => ?_) (fun w hw e he => ?_) (fun w' hF' => ?_)
  · (obtain ⟨d, rfl⟩ := hw; unfold execOp; simp [go_sem, Act.eval])
  · (obtain ⟨d, rfl⟩ := hw; unfold execOp at he; simp [go_sem, Act.eval, ev_told, ev_guardT] at he)
  replace hF := hF'
  clear hF'
  refine Gz.goes (n := 60) ?_
  walk_nrm
  u_op atRl hF
  u_c stepG_region_end atRl hF
  u_cond false atRl hF
  u_c stepG_skip atRl hF
  u_c stepG_seq atRl hF
  u_reg atRl hF
  u_op atRl hF
  u_op atRl hF
  refine Goes.stop (fun w₁ h₁ => ?_)
  replace hF := atRl hF h₁
  refine gz_call #[.int .i64 a, .slice aJ N capJ] atRl rfl rfl (by k_ne) rfl Try.func4 (by kernel_rfl) rfl hF (by simp [Act.eval]) (fun w' hF => ?_)
  exact next _ w' rfl rfl rfl rfl rfl hF
set_option maxRecDepth 100000 in
set_option maxHeartbeats 4000000 in
theorem seg3 (hsz : T.size = 157) (t0 : T[0]? = some (.int .i64 a)) (t1 : T[1]? = some (.int .i64 b)) (t2 : T[2]? = some (.slice aJ N capJ)) (t3 : T[3]? = some (.int .i64 k)) (hF : AtRel W w)
    (next : ∀ (T : Array Value) w', T.size = 157 → T[0]? = some (.int .i64 a) → T[2]? = some (.slice aJ N capJ) → T[3]? = some (.int .i64 k) → T[11]? = some v → T[12]? = some (.int .i64 e) → AtRel W w' →
      Gz Try.prog (DE E) Stop (G (Frame.enter Try.prog 4 #[.int .i64 b, .slice aJ N capJ] .normal) [b3.at ⟨T, []⟩ (.inRegion ops5m [2, 3, 4, 5, 6, 7] :: [.code rest5m])]) w') :
    Gz Try.prog (DE E) Stop (G ((b3.at ⟨T, []⟩ (.inRegion ops4m [2, 3, 4, 5, 6, 7] :: [.code rest4m])).finish (.tuple #[v, .int .i64 e])) []) w := by
  obtain ⟨f, rfl⟩ := lit_of hsz
  have f0 := lit_at (by omega) t0
  have f1 := lit_at (by omega) t1
  have f2 := lit_at (by omega) t2
  have f3 := lit_at (by omega) t3
  clear t0 t1 t2 t3 hsz
  rw [Frame.finish_at]
  simp only [ops5m, rest5m, ops4m, rest4m, rest2m] at next ⊢
  simp only [body3, Try.f3, Option.getD_some] at next ⊢
  simp only [List.range, List.range.loop, List.map_cons, List.map_nil, f0, f1, f2, f3]
  clear f0 f1 f2 f3
  refine Gz.goes (n := 60) ?_
  walk_nrm
  u_op atRl hF
  u_op atRl hF
  u_op atRl hF
  u_op atRl hF
  u_op atRl hF
  u_c stepG_region_end atRl hF
  u_c stepG_seq atRl hF
  u_reg atRl hF
  u_op atRl hF
  u_op atRl hF
  refine Goes.stop (fun w₁ h₁ => ?_)
  replace hF := atRl hF h₁
  refine gz_call #[.int .i64 b, .slice aJ N capJ] atRl rfl rfl (by k_ne) rfl Try.func4 (by kernel_rfl) rfl hF (by simp [Act.eval]) (fun w' hF => ?_)
  exact next _ w' rfl rfl rfl rfl rfl rfl hF
end
end Go.Proofs.Ytjplnkkcmkpkbaa
/- The machine, 35: castkeep.ManyAlike: behind its third call of many.Run. -/
namespace Go.Proofs.Ytjplnkkcmkpkbaa
open Go.Conc Go.ConcN Go.RowKit Go.Conc.Lib Go.ConcR.Gen Go.ConcN.Gen
open Go.ConcR (KK wgBlock WgAt stA smA rd wr mk DC0)

noncomputable def rest6m : Code := match rest5m with
  | .seq _ c => c
  | _ => .skip
noncomputable def loopM : Code := match rest6m with
  | .seq (.seq _ (.block _ (.loop c))) _ => c
  | _ => .skip
noncomputable def tailM : Code := match rest6m with
  | .seq _ c => c
  | _ => .skip
/-- goroutine 0 is about to leave castkeep.ManyAlike: it says true -/
def EndQ (W : World) (g : Goroutine) (w : World) : Prop := (∃ (T : Array Value) (todo : List Item), T[8]? = some (.bool true) ∧ g = G { b3.at ⟨T, []⟩ todo with mode := .returning } []) ∧ AtRel W w
section
variable {E : Event → Prop} {W w : World} {a k : Int} {aJ ax ay : Option Addr} {N capJ cx cy : Nat} {v x : Value} {e : Int} {Stop : Goroutine → World → Prop} {T : Array Value}
set_option maxRecDepth 100000 in
set_option maxHeartbeats 4000000 in
/-- too few hands, or too many, for the first -/
theorem seg4x (hsz : T.size = 157) (t12 : T[12]? = some (.int .i64 1)) (hF : AtRel W w) :
    Gz Try.prog (DE E) (EndQ W) (G ((b3.at ⟨T, []⟩ (.inRegion ops5m [2, 3, 4, 5, 6, 7] :: [.code rest5m])).finish (.tuple #[v, .int .i64 e])) []) w := by
  obtain ⟨f, rfl⟩ := lit_of hsz
  have f12 := lit_at (by omega) t12
  clear hsz t12
  rw [Frame.finish_at]
  simp only [ops5m, rest5m, rest4m, rest2m]
  simp only [body3, Try.f3, Option.getD_some]
  simp only [List.range, List.range.loop, List.map_cons, List.map_nil, f12]
  clear f12
  refine Gz.goes (n := 80) ?_
  walk_nrm
  u_op atRl hF
  u_op atRl hF
  u_op atRl hF
  u_op atRl hF
  u_op atRl hF
  u_c stepG_region_end atRl hF
  u_c stepG_seq atRl hF
  u_c stepG_seq atRl hF
  u_reg atRl hF
  u_op atRl hF
  u_op atRl hF
  u_op atRl hF
  u_skip atRl hF
  u_skip atRl hF
  u_op atRl hF
  u_op atRl hF
  u_skip atRl hF
  u_skip atRl hF
  u_skip atRl hF
  u_skip atRl hF
  u_skip atRl hF
  u_op atRl hF
  u_op atRl hF
  u_skip atRl hF
  u_skip atRl hF
  u_skip atRl hF
  u_skip atRl hF
  u_skip atRl hF
  u_op atRl hF
  u_c stepG_region_end atRl hF
  u_cond true atRl hF
  u_c stepG_seq atRl hF
  u_reg atRl hF
  u_op atRl hF
  u_op atRl hF
  u_op atRl hF
  u_skip atRl hF
  u_skip atRl hF
  u_op atRl hF
  u_op atRl hF
  u_c stepG_region_end atRl hF
  u_c stepG_ret' atRl hF
  exact Goes.stop fun w₁ h₁ => .stop fun w₂ h₂ => ⟨⟨_, _, rfl, rfl⟩, atRl (atRl hF h₁) h₂⟩
set_option maxRecDepth 100000 in
set_option maxHeartbeats 4000000 in
/-- .. for the second -/
theorem seg4y (hsz : T.size = 157) (t12 : T[12]? = some (.int .i64 0)) (hF : AtRel W w) :
    Gz Try.prog (DE E) (EndQ W) (G ((b3.at ⟨T, []⟩ (.inRegion ops5m [2, 3, 4, 5, 6, 7] :: [.code rest5m])).finish (.tuple #[v, .int .i64 1])) []) w := by
  obtain ⟨f, rfl⟩ := lit_of hsz
  have f12 := lit_at (by omega) t12
  clear hsz t12
  rw [Frame.finish_at]
  simp only [ops5m, rest5m, rest4m, rest2m]
  simp only [body3, Try.f3, Option.getD_some]
  simp only [List.range, List.range.loop, List.map_cons, List.map_nil, f12]
  clear f12
  refine Gz.goes (n := 80) ?_
  walk_nrm
  u_op atRl hF
  u_op atRl hF
  u_op atRl hF
  u_op atRl hF
  u_op atRl hF
  u_c stepG_region_end atRl hF
  u_c stepG_seq atRl hF
  u_c stepG_seq atRl hF
  u_reg atRl hF
  u_op atRl hF
  u_op atRl hF
  u_op atRl hF
  u_op atRl hF
  u_op atRl hF
  u_op atRl hF
  u_op atRl hF
  u_skip atRl hF
  u_skip atRl hF
  u_skip atRl hF
  u_skip atRl hF
  u_skip atRl hF
  u_op atRl hF
  u_op atRl hF
  u_skip atRl hF
  u_skip atRl hF
  u_skip atRl hF
  u_skip atRl hF
  u_skip atRl hF
  u_op atRl hF
  u_c stepG_region_end atRl hF
  u_cond true atRl hF
  u_c stepG_seq atRl hF
  u_reg atRl hF
  u_op atRl hF
  u_op atRl hF
  u_op atRl hF
  u_op atRl hF
  u_op atRl hF
  u_op atRl hF
  u_op atRl hF
  u_c stepG_region_end atRl hF
  u_c stepG_ret' atRl hF
  exact Goes.stop fun w₁ h₁ => .stop fun w₂ h₂ => ⟨⟨_, _, rfl, rfl⟩, atRl (atRl hF h₁) h₂⟩
set_option maxRecDepth 100000 in
set_option maxHeartbeats 4000000 in
/-- both have run: to the loop -/
theorem seg4 (hsz : T.size = 157) (t0 : T[0]? = some (.int .i64 a)) (t2 : T[2]? = some (.slice aJ N capJ)) (t3 : T[3]? = some (.int .i64 k)) (t11 : T[11]? = some (.slice ax N cx)) (t12 : T[12]? = some (.int .i64 0)) (hF : AtRel W w)
    (next : ∀ (T : Array Value) w', T.size = 157 → T[0]? = some (.int .i64 a) → T[2]? = some (.slice aJ N capJ) → T[3]? = some (.int .i64 k) → T[11]? = some (.slice ax N cx) → T[13]? = some (.slice ay N cy) → T[90]? = some (.int .i64 (N : Nat)) → T[91]? = some (.int .i64 0) → AtRel W w' →
      Gz Try.prog (DE E) Stop (G (b3.at ⟨T, []⟩ (.code loopM :: [.inLoop loopM, .inBlock 0, .code tailM])) []) w') :
    Gz Try.prog (DE E) Stop (G ((b3.at ⟨T, []⟩ (.inRegion ops5m [2, 3, 4, 5, 6, 7] :: [.code rest5m])).finish (.tuple #[.slice ay N cy, .int .i64 0])) []) w := by
  obtain ⟨f, rfl⟩ := lit_of hsz
  have f0 := lit_at (by omega) t0
  have f2 := lit_at (by omega) t2
  have f3 := lit_at (by omega) t3
  have f11 := lit_at (by omega) t11
  have f12 := lit_at (by omega) t12
  clear hsz t0 t2 t3 t11 t12
  have hne : (((N : Nat) : Int) == ((N : Nat) : Int)) = true := beq_self_eq_true _
  rw [Frame.finish_at]
  simp only [loopM, tailM, rest6m, ops5m, rest5m, rest4m, rest2m] at next ⊢
  simp only [body3, Try.f3, Option.getD_some] at next ⊢
  simp only [List.range, List.range.loop, List.map_cons, List.map_nil, f0, f2, f3, f11, f12]
  clear f0 f2 f3 f11 f12
  refine Gz.goes (n := 80) ?_
  walk_nrm
  u_op atRl hF
  u_op atRl hF
  u_op atRl hF
  u_op atRl hF
  u_op atRl hF
  u_c stepG_region_end atRl hF
  u_c stepG_seq atRl hF
  u_c stepG_seq atRl hF
  u_reg atRl hF
  u_op atRl hF
  u_op atRl hF
  u_op atRl hF
  u_op atRl hF
  u_op atRl hF
  u_op atRl hF
  u_op atRl hF
  u_op atRl hF
  u_op atRl hF
  u_op atRl hF
  u_op atRl hF
  u_op atRl hF
  u_op atRl hF
  u_op atRl hF
  u_op atRl hF
  u_op atRl hF
  u_op atRl hF
  u_op atRl hF
  u_op atRl hF
  u_op atRl hF
  u_c stepG_region_end atRl hF
  u_cond false atRl hF
  u_c stepG_skip atRl hF
  u_c stepG_seq atRl hF
  u_c stepG_seq atRl hF
  u_reg atRl hF
  u_op atRl hF
  u_op atRl hF
  u_op atRl hF
  u_c stepG_region_end atRl hF
  u_c stepG_block atRl hF
  u_c stepG_loop atRl hF
  exact Goes.stop fun w₁ h₁ => next _ w₁ rfl rfl rfl rfl rfl rfl rfl rfl (atRl hF h₁)
end
end Go.Proofs.Ytjplnkkcmkpkbaa
