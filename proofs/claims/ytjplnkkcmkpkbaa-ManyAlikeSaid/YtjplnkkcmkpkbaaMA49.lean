/- Several of my texts in one: Mn31. -/
import Derived.Test.YtjplnkkcmkpkbaaMA26
set_option linter.unusedSimpArgs false
set_option linter.unusedVariables false
/- The machine, 31: slices.Equal at what is told and at errors, walked beside leavers: where both slices hold the same. -/
namespace Go.Proofs.Ytjplnkkcmkpkbaa
open Go.Conc Go.ConcN Go.RowKit Go.Conc.Lib Go.ConcR.Gen Go.ConcN.Gen
open Go.ConcR (KK wgBlock WgAt stA smA rd wr mk DC0)

theorem evThen_same {α : Type} {r : Result α} {es : Array Event} {k : α → World → Array Event → Array Event} (h : ∀ a w, k a w es = es) : Result.evThen r es k = es := by
  cases r with
  | ok a w => exact h a w
  | halt x w => rfl
theorem ev_part {P : Program} (t : TypeId) (xs : Array Value) (off : Nat) (w : World) (es : Array Event) : (part t xs off).events P w es = es := by
  unfold part
  simp only [Sem.events_bind, events_isAgg]
  refine evThen_same fun b w => ?_
  cases b
  · simp only [Bool.false_eq_true, if_false]
    split <;> rfl
  · simp only [if_true, Sem.events_bind, events_sizeOf]
    exact evThen_same fun _ _ => rfl
theorem ev_eqS {P : Program} (d : Nat) (t : TypeId) (a b : ByteArray) (h : P.underlying t = some .string) (w : World) (es : Array Event) : (Op.equalIn (d + 1) t (.string a) (.string b)).events P w es = es := by
  unfold Op.equalIn
  simp only [Sem.events_bind, events_underlying, run_underlying h, Result.evThen_ok]
  rfl
theorem ev_eqI {P : Program} (d : Nat) (t : TypeId) (k k' : IntKind) (a b : Int) (h : P.underlying t = some (.int k')) (w : World) (es : Array Event) : (Op.equalIn (d + 1) t (.int k a) (.int k b)).events P w es = es := by
  unfold Op.equalIn
  simp only [Sem.events_bind, events_underlying, run_underlying h, Result.evThen_ok]
  simp
theorem ev_told (s s' : ByteArray) (x y : Int) (w : World) (es : Array Event) : (binOp .neq 35 (.agg #[.string s, .int .i64 x]) (.agg #[.string s', .int .i64 y])).events Try.prog w es = es := by
  simp only [binOp, Sem.events_bind, Op.equal, Op.maxDepth]
  have hst : Try.prog.stoodInHeld 35 = false := by kernel_rfl
  rw [show (10000 : Nat) = 9998 + 1 + 1 from rfl]
  have key : ∀ w es, (Op.equalIn (9998 + 1 + 1) 35 (.agg #[.string s, .int .i64 x]) (.agg #[.string s', .int .i64 y])).events Try.prog w es = es := by
    intro w es
    rw [Op.equalIn]
    simp only [Sem.events_bind, events_underlying, run_underlying Try.underlying35, Result.evThen_ok, events_program, run_program, hst, Bool.false_eq_true, if_false]
    simp
    simp only [ev_part]
    have u9 := Try.underlying9
    have u3 := Try.underlying3
    simp [go_sem, u9, u3, ev_eqS 9998 9 s s' u9, ev_eqI 9998 3 .i64 _ x y u3]
  simp [key]
  cases (Op.equalIn (9998 + 1 + 1) 35 (.agg #[.string s, .int .i64 x]) (.agg #[.string s', .int .i64 y])).run Try.prog w <;> simp [go_sem]
theorem ev_guard {P : Program} (op : BinOp) (t : TypeId) (x y : Operand) (xs ys : Array Value) (hm : P.eqGuardType P.depth t = false) (w : World) (es : Array Event) : (eqGuard op t x y (.agg xs) (.agg ys)).events P w es = es := by
  cases op <;> simp [eqGuard, run_program, events_program, hm]
theorem ev_guardT (x y : Operand) (xs ys : Array Value) (w : World) (es : Array Event) : (eqGuard .neq 35 x y (.agg xs) (.agg ys)).events Try.prog w es = es := ev_guard _ _ _ _ _ _ (by kernel_rfl) _ _

/-! ### Td -/
abbrev bTd : Frame := base 5
noncomputable def bodyTd : Code := Try.f5.body.getD .skip
noncomputable def loopTd : Code := match bodyTd with
  | .seq _ (.seq _ (.seq (.seq _ (.block _ (.loop c))) _)) => c
  | _ => .skip
noncomputable def tailTd : Code := match bodyTd with
  | .seq _ (.seq _ (.seq _ c)) => c
  | _ => .skip
noncomputable def opsTd : Array Oper := match loopTd with
  | .seq _ (.seq _ (.seq (.block _ (.seq _ (.seq (.region _ ops _) _))) _)) => ops
  | _ => #[]
noncomputable def aftTd : Code := match loopTd with
  | .seq _ (.seq _ (.seq (.block _ (.seq _ (.seq _ c))) _)) => c
  | _ => .skip
noncomputable def incTd : Code := match loopTd with
  | .seq _ (.seq _ (.seq _ c)) => c
  | _ => .skip
theorem szTd : opsTd.size = 9 := by kernel_rfl
noncomputable def itTd : List Item := [.inLoop loopTd, .inBlock 0, .code tailTd]
/-- the temporaries at the loop's head -/
def TTd (s1 s2 : Value) (m j : Nat) (v5 v14 v15 v16 v17 v18 v19 v20 v21 v22 v23 v24 v25 : Value) : Array Value :=
  #[s1, s2, undef, undef, .bool false, v5, s1, .int .i64 (m : Nat), s2, .int .i64 (m : Nat), .bool false, s1, .int .i64 (m : Nat), .int .i64 (j : Nat), v14, v15, v16, v17, v18, v19, v20, v21, v22, v23, v24, v25]
section
variable {E : Event → Prop} {K : World → Prop} {c : Frame} {cs : List Frame} {w : World} {m c1 c2 b1 b2 j : Nat} {s1 s2 : Value}
def HdTd (K : World → Prop) (s1 s2 : Value) (m j : Nat) (cs : List Frame) (g : Goroutine) (w : World) : Prop :=
  (∃ v5 v14 v15 v16 v17 v18 v19 v20 v21 v22 v23 v24 v25, g = G (bTd.at ⟨TTd s1 s2 m j v5 v14 v15 v16 v17 v18 v19 v20 v21 v22 v23 v24 v25, []⟩ (.code loopTd :: itTd)) cs) ∧ K w
set_option maxRecDepth 100000 in
theorem enterTd (hK : ∀ {w w₁ : World}, K w → AtRel w w₁ → K w₁) {a1 a2 : Option Addr} (hF : K w) :
    Gz Try.prog (DE E) (HdTd K (.slice a1 m c1) (.slice a2 m c2) m 0 cs) (G (Frame.enter Try.prog 5 #[.slice a1 m c1, .slice a2 m c2] .normal) cs) w := by
  have e : Frame.enter Try.prog 5 #[.slice a1 m c1, .slice a2 m c2] .normal = bTd.at ⟨#[.slice a1 m c1, .slice a2 m c2] ++ Array.replicate 24 undef, []⟩ [.code bodyTd] := by
    simp [Frame.enter, Frame.at, Try.func5, base, bodyTd, Try.f5]
  rw [e]
  have d1 : (((m : Nat) : Int) == ((m : Nat) : Int)) = true := beq_self_eq_true _
  refine Gz.goes (n := 60) ?_
  simp only [bodyTd, loopTd, tailTd, itTd, Try.f5, Option.getD_some]
  walk_nrm
  u_c stepG_seq hK hF
  u_reg hK hF
  u_op hK hF
  u_c stepG_region_end hK hF
  u_c stepG_seq hK hF
  u_c stepG_seq hK hF
  u_reg hK hF
  u_op hK hF
  u_op hK hF
  u_op hK hF
  u_op hK hF
  u_op hK hF
  u_c stepG_region_end hK hF
  u_cond false hK hF
  u_c stepG_skip hK hF
  u_c stepG_seq hK hF
  u_c stepG_seq hK hF
  u_reg hK hF
  u_op hK hF
  u_op hK hF
  u_op hK hF
  u_c stepG_region_end hK hF
  u_c stepG_block hK hF
  u_c stepG_loop hK hF
  exact Goes.stop fun w₁ h₁ => .stop fun w₂ h₂ => ⟨⟨_, _, _, _, _, _, _, _, _, _, _, _, _, rfl⟩, hK (hK hF h₁) h₂⟩
/-- the tests of one round, in whatever order -/
theorem drawTd (hK : ∀ {w w₁ : World}, K w → AtRel w w₁ → K w₁) (nm : Nat → ByteArray) (nn : Nat → Int) (hj : j < m) (hc : ∀ w, K w → (w.cell? ⟨b1, j * 2, none⟩ = some (.string (nm j)) ∧ w.cell? ⟨b1, j * 2 + 1, none⟩ = some (.int .i64 (nn j))) ∧ w.cell? ⟨b2, j * 2, none⟩ = some (.string (nm j)) ∧ w.cell? ⟨b2, j * 2 + 1, none⟩ = some (.int .i64 (nn j))) (hE1 : ∀ o, E ⟨.cell ⟨b1, o, none⟩, false, false⟩) (hE2 : ∀ o, E ⟨.cell ⟨b2, o, none⟩, false, false⟩) {k : List Item} {T0 : Array Value} (hsz : T0.size = 26)
    (t0 : T0[0]? = some (.slice (some ⟨b1, 0, none⟩) m c1)) (t1 : T0[1]? = some (.slice (some ⟨b2, 0, none⟩) m c2)) (t5 : T0[5]? = some (.int .i64 (j : Nat))) (hF : K w) :
    Gz Try.prog (DE E) (fun g w' => g = G (bTd.at ⟨(List.zip [16, 17, 18, 19, 20, 21, 22, 23, 24] [.slice (some ⟨b1, 0, none⟩) m c1, .int .i64 (j : Nat), .pointer (some ⟨b1, j * 2, none⟩), .agg #[.string (nm j), .int .i64 (nn j)], .slice (some ⟨b2, 0, none⟩) m c2, .int .i64 (j : Nat), .pointer (some ⟨b2, j * 2, none⟩), .agg #[.string (nm j), .int .i64 (nn j)], .bool false]).foldl (fun T p => T.setIfInBounds p.1 p.2) T0, []⟩ (.inRegion opsTd [] :: k)) cs ∧ K w')
      (G (bTd.at ⟨T0, []⟩ (.code (.region 6 opsTd true) :: k)) cs) w := by
  simp only [opsTd, loopTd, bodyTd, Try.f5, Option.getD_some]
  refine drawG hK (by kernel_rfl) (by kernel_rfl) (by rw [hsz]; kernel_rfl) rfl (fun i hi => ?_) hF
  replace hi : i < 9 := hi
  match i, hi with
  | 0, _ =>
    refine opgz hK (o := _) rfl rfl (by k_ne) fun T w hw hb hd => ?_
    have h0 := (hb 0 rfl).trans t0
    refine ⟨rfl, ?_, fun e he => ?_⟩
    · unfold execOp; simp [go_sem, Act.eval, h0]
    · unfold execOp at he; simp [go_sem, Act.eval, h0] at he
  | 1, _ =>
    refine opgz hK (o := _) rfl rfl (by k_ne) fun T w hw hb hd => ?_
    have h5 := (hb 5 rfl).trans t5
    refine ⟨rfl, ?_, fun e he => ?_⟩
    · unfold execOp; simp [go_sem, Act.eval, h5]
    · unfold execOp at he; simp [go_sem, Act.eval, h5] at he
  | 2, _ =>
    refine opgz hK (o := _) rfl rfl (by k_ne) fun T w hw hb hd => ?_
    have h16 := hd 0 (by kernel_rfl) 16 _ rfl rfl
    have h17 := hd 1 (by kernel_rfl) 17 _ rfl rfl
    refine ⟨rfl, ?_, fun e he => ?_⟩
    · unfold execOp; simp [go_sem, Act.eval, h16, h17, hj]
    · unfold execOp at he; simp [go_sem, Act.eval, h16, h17, hj] at he
  | 3, _ =>
    refine opgz hK (o := _) rfl rfl (by k_ne) fun T w hw hb hd => ?_
    have h18 := hd 2 (by kernel_rfl) 18 _ rfl rfl
    obtain ⟨⟨x1, x2⟩, -⟩ := hc w hw
    refine ⟨rfl, ?_, fun e he => ?_⟩
    · unfold execOp; simp [go_sem, Act.eval, h18, x1, x2]
    · unfold execOp at he; simp [go_sem, Act.eval, h18, x1, x2] at he
      rcases he with rfl | rfl <;> exact hE1 _
  | 4, _ =>
    refine opgz hK (o := _) rfl rfl (by k_ne) fun T w hw hb hd => ?_
    have h1 := (hb 1 rfl).trans t1
    refine ⟨rfl, ?_, fun e he => ?_⟩
    · unfold execOp; simp [go_sem, Act.eval, h1]
    · unfold execOp at he; simp [go_sem, Act.eval, h1] at he
  | 5, _ =>
    refine opgz hK (o := _) rfl rfl (by k_ne) fun T w hw hb hd => ?_
    have h5 := (hb 5 rfl).trans t5
    refine ⟨rfl, ?_, fun e he => ?_⟩
    · unfold execOp; simp [go_sem, Act.eval, h5]
    · unfold execOp at he; simp [go_sem, Act.eval, h5] at he
  | 6, _ =>
    refine opgz hK (o := _) rfl rfl (by k_ne) fun T w hw hb hd => ?_
    have h20 := hd 4 (by kernel_rfl) 20 _ rfl rfl
    have h21 := hd 5 (by kernel_rfl) 21 _ rfl rfl
    refine ⟨rfl, ?_, fun e he => ?_⟩
    · unfold execOp; simp [go_sem, Act.eval, h20, h21, hj]
    · unfold execOp at he; simp [go_sem, Act.eval, h20, h21, hj] at he
  | 7, _ =>
    refine opgz hK (o := _) rfl rfl (by k_ne) fun T w hw hb hd => ?_
    have h22 := hd 6 (by kernel_rfl) 22 _ rfl rfl
    obtain ⟨-, y1, y2⟩ := hc w hw
    refine ⟨rfl, ?_, fun e he => ?_⟩
    · unfold execOp; simp [go_sem, Act.eval, h22, y1, y2]
    · unfold execOp at he; simp [go_sem, Act.eval, h22, y1, y2] at he
      rcases he with rfl | rfl <;> exact hE2 _
  | 8, _ =>
    refine opgz hK (o := _) rfl rfl (by k_ne) fun T w hw hb hd => ?_
    have h19 := hd 3 (by kernel_rfl) 19 _ rfl rfl
    have h23 := hd 7 (by kernel_rfl) 23 _ rfl rfl
    refine ⟨rfl, ?_, fun e he => ?_⟩
    · unfold execOp; simp [go_sem, Act.eval, h19, h23, ev_told, ev_guardT]
    · unfold execOp at he; simp [go_sem, Act.eval, h19, h23, ev_told, ev_guardT] at he
set_option maxRecDepth 100000 in
theorem roundTd (hK : ∀ {w w₁ : World}, K w → AtRel w w₁ → K w₁) (nm : Nat → ByteArray) (nn : Nat → Int) (hm : m ≤ 5864062014634) (hj : j < m) (hc : ∀ w, K w → (w.cell? ⟨b1, j * 2, none⟩ = some (.string (nm j)) ∧ w.cell? ⟨b1, j * 2 + 1, none⟩ = some (.int .i64 (nn j))) ∧ w.cell? ⟨b2, j * 2, none⟩ = some (.string (nm j)) ∧ w.cell? ⟨b2, j * 2 + 1, none⟩ = some (.int .i64 (nn j))) (hE1 : ∀ o, E ⟨.cell ⟨b1, o, none⟩, false, false⟩) (hE2 : ∀ o, E ⟨.cell ⟨b2, o, none⟩, false, false⟩) {g : Goroutine} (h : HdTd K (.slice (some ⟨b1, 0, none⟩) m c1) (.slice (some ⟨b2, 0, none⟩) m c2) m j cs g w) :
    Gz Try.prog (DE E) (HdTd K (.slice (some ⟨b1, 0, none⟩) m c1) (.slice (some ⟨b2, 0, none⟩) m c2) m (j + 1) cs) g w := by
  obtain ⟨⟨v5, v14, v15, v16, v17, v18, v19, v20, v21, v22, v23, v24, v25, rfl⟩, hF⟩ := h
  have d1 : decide ((j : Int) < (m : Int)) = true := decide_eq_true (by omega)
  have hw : IntKind.i64.wrap ((j : Int) + 1) = ((j + 1 : Nat) : Int) := by rw [IntKind.wrap_i64]; omega
  refine Gz.bind (Stop := fun g w => g = G (bTd.at ⟨#[.slice (some ⟨b1, 0, none⟩) m c1, .slice (some ⟨b2, 0, none⟩) m c2, undef, undef, .bool false, .int .i64 (j : Nat), .slice (some ⟨b1, 0, none⟩) m c1, .int .i64 (m : Nat), .slice (some ⟨b2, 0, none⟩) m c2, .int .i64 (m : Nat), .bool false, .slice (some ⟨b1, 0, none⟩) m c1, .int .i64 (m : Nat), .int .i64 (j : Nat), .bool true, .int .i64 (j : Nat), v16, v17, v18, v19, v20, v21, v22, v23, v24, v25], []⟩ (.code (.region 6 opsTd true) :: .code aftTd :: .inBlock 1 :: .code incTd :: itTd)) cs ∧ K w) ?_ ?_
  · refine Gz.goes (n := 60) ?_
    simp only [TTd, itTd, opsTd, aftTd, incTd, loopTd, tailTd, bodyTd, Try.f5, Option.getD_some]
    u_c stepG_seq hK hF
    u_reg hK hF
    u_op hK hF
    u_c stepG_region_end hK hF
    u_c stepG_seq hK hF
    u_cond true hK hF
    u_c stepG_skip hK hF
    u_c stepG_seq hK hF
    u_c stepG_block hK hF
    u_c stepG_seq hK hF
    u_reg hK hF
    u_op hK hF
    u_op hK hF
    u_c stepG_region_end hK hF
    u_c stepG_seq hK hF
    exact Goes.stop fun w₁ h₁ => .stop fun w₂ h₂ => ⟨rfl, hK (hK hF h₁) h₂⟩
  clear hF
  rintro g w ⟨rfl, hF⟩
  refine (drawTd (c1 := c1) (c2 := c2) hK nm nn hj hc hE1 hE2 rfl rfl rfl rfl hF).bind ?_
  clear hF
  rintro g w ⟨rfl, hF⟩
  refine Gz.goes (n := 60) ?_
  simp only [TTd, itTd, opsTd, aftTd, incTd, loopTd, tailTd, bodyTd, Try.f5, Option.getD_some, List.zip_cons_cons, List.zip_nil_right, List.foldl_cons, List.foldl_nil]
  walk_nrm
  u_c stepG_region_end hK hF
  u_cond false hK hF
  u_c stepG_skip hK hF
  u_c stepG_inBlock hK hF
  u_reg hK hF
  u_op hK hF
  u_op hK hF
  u_c stepG_region_end hK hF
  u_c stepG_inLoop hK hF
  exact Goes.stop fun w₁ h₁ => .stop fun w₂ h₂ => ⟨⟨_, _, _, _, _, _, _, _, _, _, _, _, _, rfl⟩, hK (hK hF h₁) h₂⟩
set_option maxRecDepth 100000 in
theorem endTd (hK : ∀ {w w₁ : World}, K w → AtRel w w₁ → K w₁) {g : Goroutine} (h : HdTd K s1 s2 m m (c :: cs) g w) : Gz Try.prog (DE E) (fun g w => g = G (c.finish (.bool true)) cs ∧ K w) g w := by
  obtain ⟨⟨v5, v14, v15, v16, v17, v18, v19, v20, v21, v22, v23, v24, v25, rfl⟩, hF⟩ := h
  have d1 : decide ((m : Int) < (m : Int)) = false := decide_eq_false (by omega)
  refine Gz.goes (n := 60) ?_
  simp only [TTd, itTd, loopTd, tailTd, bodyTd, Try.f5, Option.getD_some]
  u_c stepG_seq hK hF
  u_reg hK hF
  u_op hK hF
  u_c stepG_region_end hK hF
  u_c stepG_seq hK hF
  u_cond false hK hF
  u_exit hK hF
  u_c stepG_seq hK hF
  u_reg hK hF
  u_op hK hF
  u_c stepG_region_end hK hF
  u_c stepG_ret' hK hF
  u_in hK hF
  rw [stepG_leave rfl rfl Try.func5 (results_tmp rfl _ _ _) (events_results_tmp rfl _ _)]
  simp only [goes_go]
  refine ⟨by u_nil, ?_⟩
  exact Goes.stop fun w₁ h₁ => .stop fun w₂ h₂ => ⟨rfl, hK (hK hF h₁) h₂⟩
/-- equal slices: it says so -/
theorem eqTd (hK : ∀ {w w₁ : World}, K w → AtRel w w₁ → K w₁) (nm : Nat → ByteArray) (nn : Nat → Int) (hm : m ≤ 5864062014634) {a1 a2 : Option Addr} (ha : 0 < m → ∃ b1 b2, a1 = some ⟨b1, 0, none⟩ ∧ a2 = some ⟨b2, 0, none⟩ ∧ (∀ o, E ⟨.cell ⟨b1, o, none⟩, false, false⟩) ∧ (∀ o, E ⟨.cell ⟨b2, o, none⟩, false, false⟩) ∧ ∀ w, K w → ∀ j, j < m → (w.cell? ⟨b1, j * 2, none⟩ = some (.string (nm j)) ∧ w.cell? ⟨b1, j * 2 + 1, none⟩ = some (.int .i64 (nn j))) ∧ w.cell? ⟨b2, j * 2, none⟩ = some (.string (nm j)) ∧ w.cell? ⟨b2, j * 2 + 1, none⟩ = some (.int .i64 (nn j))) (hF : K w) :
    Gz Try.prog (DE E) (fun g w => g = G (c.finish (.bool true)) cs ∧ K w) (G (Frame.enter Try.prog 5 #[.slice a1 m c1, .slice a2 m c2] .normal) (c :: cs)) w := by
  refine (enterTd hK hF).bind fun g w h => ?_
  rcases Nat.eq_zero_or_pos m with rfl | hpos
  · exact endTd hK h
  obtain ⟨b1, b2, rfl, rfl, h1, h2, h3⟩ := ha hpos
  have key : ∀ (r j : Nat) (g : Goroutine) (w : World), j + r = m → HdTd K (.slice (some ⟨b1, 0, none⟩) m c1) (.slice (some ⟨b2, 0, none⟩) m c2) m j (c :: cs) g w → Gz Try.prog (DE E) (fun g w => g = G (c.finish (.bool true)) cs ∧ K w) g w := by
    intro r
    induction r with
    | zero =>
      intro j g w hj h
      obtain rfl : j = m := by omega
      exact endTd hK h
    | succ r ih =>
      intro j g w hj h
      exact (roundTd hK nm nn hm (by omega) (fun w hw => h3 w hw j (by omega)) h1 h2 h).bind fun g w h => ih (j + 1) g w (by omega) h
  exact key m 0 g w (by omega) h
end

/-! ### Er -/
abbrev bEr : Frame := base 6
noncomputable def bodyEr : Code := Try.f6.body.getD .skip
noncomputable def loopEr : Code := match bodyEr with
  | .seq _ (.seq _ (.seq (.seq _ (.block _ (.loop c))) _)) => c
  | _ => .skip
noncomputable def tailEr : Code := match bodyEr with
  | .seq _ (.seq _ (.seq _ c)) => c
  | _ => .skip
noncomputable def opsEr : Array Oper := match loopEr with
  | .seq _ (.seq _ (.seq (.block _ (.seq _ (.seq (.region _ ops _) _))) _)) => ops
  | _ => #[]
noncomputable def aftEr : Code := match loopEr with
  | .seq _ (.seq _ (.seq (.block _ (.seq _ (.seq _ c))) _)) => c
  | _ => .skip
noncomputable def incEr : Code := match loopEr with
  | .seq _ (.seq _ (.seq _ c)) => c
  | _ => .skip
theorem szEr : opsEr.size = 9 := by kernel_rfl
noncomputable def itEr : List Item := [.inLoop loopEr, .inBlock 0, .code tailEr]
/-- the temporaries at the loop's head -/
def TEr (s1 s2 : Value) (m j : Nat) (v5 v14 v15 v16 v17 v18 v19 v20 v21 v22 v23 v24 v25 : Value) : Array Value :=
  #[s1, s2, undef, undef, .bool false, v5, s1, .int .i64 (m : Nat), s2, .int .i64 (m : Nat), .bool false, s1, .int .i64 (m : Nat), .int .i64 (j : Nat), v14, v15, v16, v17, v18, v19, v20, v21, v22, v23, v24, v25]
section
variable {E : Event → Prop} {K : World → Prop} {c : Frame} {cs : List Frame} {w : World} {m c1 c2 b1 b2 j : Nat} {s1 s2 : Value}
def HdEr (K : World → Prop) (s1 s2 : Value) (m j : Nat) (cs : List Frame) (g : Goroutine) (w : World) : Prop :=
  (∃ v5 v14 v15 v16 v17 v18 v19 v20 v21 v22 v23 v24 v25, g = G (bEr.at ⟨TEr s1 s2 m j v5 v14 v15 v16 v17 v18 v19 v20 v21 v22 v23 v24 v25, []⟩ (.code loopEr :: itEr)) cs) ∧ K w
set_option maxRecDepth 100000 in
theorem enterEr (hK : ∀ {w w₁ : World}, K w → AtRel w w₁ → K w₁) {a1 a2 : Option Addr} (hF : K w) :
    Gz Try.prog (DE E) (HdEr K (.slice a1 m c1) (.slice a2 m c2) m 0 cs) (G (Frame.enter Try.prog 6 #[.slice a1 m c1, .slice a2 m c2] .normal) cs) w := by
  have e : Frame.enter Try.prog 6 #[.slice a1 m c1, .slice a2 m c2] .normal = bEr.at ⟨#[.slice a1 m c1, .slice a2 m c2] ++ Array.replicate 24 undef, []⟩ [.code bodyEr] := by
    simp [Frame.enter, Frame.at, Try.func6, base, bodyEr, Try.f6]
  rw [e]
  have d1 : (((m : Nat) : Int) == ((m : Nat) : Int)) = true := beq_self_eq_true _
  refine Gz.goes (n := 60) ?_
  simp only [bodyEr, loopEr, tailEr, itEr, Try.f6, Option.getD_some]
  walk_nrm
  u_c stepG_seq hK hF
  u_reg hK hF
  u_op hK hF
  u_c stepG_region_end hK hF
  u_c stepG_seq hK hF
  u_c stepG_seq hK hF
  u_reg hK hF
  u_op hK hF
  u_op hK hF
  u_op hK hF
  u_op hK hF
  u_op hK hF
  u_c stepG_region_end hK hF
  u_cond false hK hF
  u_c stepG_skip hK hF
  u_c stepG_seq hK hF
  u_c stepG_seq hK hF
  u_reg hK hF
  u_op hK hF
  u_op hK hF
  u_op hK hF
  u_c stepG_region_end hK hF
  u_c stepG_block hK hF
  u_c stepG_loop hK hF
  exact Goes.stop fun w₁ h₁ => .stop fun w₂ h₂ => ⟨⟨_, _, _, _, _, _, _, _, _, _, _, _, _, rfl⟩, hK (hK hF h₁) h₂⟩
/-- the tests of one round, in whatever order -/
theorem drawEr (hK : ∀ {w w₁ : World}, K w → AtRel w w₁ → K w₁) (nn : Nat → Int) (hj : j < m) (hc : ∀ w, K w → (w.cell? ⟨b1, j, none⟩ = some (.int .i64 (nn j))) ∧ w.cell? ⟨b2, j, none⟩ = some (.int .i64 (nn j))) (hE1 : ∀ o, E ⟨.cell ⟨b1, o, none⟩, false, false⟩) (hE2 : ∀ o, E ⟨.cell ⟨b2, o, none⟩, false, false⟩) {k : List Item} {T0 : Array Value} (hsz : T0.size = 26)
    (t0 : T0[0]? = some (.slice (some ⟨b1, 0, none⟩) m c1)) (t1 : T0[1]? = some (.slice (some ⟨b2, 0, none⟩) m c2)) (t5 : T0[5]? = some (.int .i64 (j : Nat))) (hF : K w) :
    Gz Try.prog (DE E) (fun g w' => g = G (bEr.at ⟨(List.zip [16, 17, 18, 19, 20, 21, 22, 23, 24] [.slice (some ⟨b1, 0, none⟩) m c1, .int .i64 (j : Nat), .pointer (some ⟨b1, j, none⟩), .int .i64 (nn j), .slice (some ⟨b2, 0, none⟩) m c2, .int .i64 (j : Nat), .pointer (some ⟨b2, j, none⟩), .int .i64 (nn j), .bool false]).foldl (fun T p => T.setIfInBounds p.1 p.2) T0, []⟩ (.inRegion opsEr [] :: k)) cs ∧ K w')
      (G (bEr.at ⟨T0, []⟩ (.code (.region 6 opsEr true) :: k)) cs) w := by
  simp only [opsEr, loopEr, bodyEr, Try.f6, Option.getD_some]
  refine drawG hK (by kernel_rfl) (by kernel_rfl) (by rw [hsz]; kernel_rfl) rfl (fun i hi => ?_) hF
  replace hi : i < 9 := hi
  match i, hi with
  | 0, _ =>
    refine opgz hK (o := _) rfl rfl (by k_ne) fun T w hw hb hd => ?_
    have h0 := (hb 0 rfl).trans t0
    refine ⟨rfl, ?_, fun e he => ?_⟩
    · unfold execOp; simp [go_sem, Act.eval, h0]
    · unfold execOp at he; simp [go_sem, Act.eval, h0] at he
  | 1, _ =>
    refine opgz hK (o := _) rfl rfl (by k_ne) fun T w hw hb hd => ?_
    have h5 := (hb 5 rfl).trans t5
    refine ⟨rfl, ?_, fun e he => ?_⟩
    · unfold execOp; simp [go_sem, Act.eval, h5]
    · unfold execOp at he; simp [go_sem, Act.eval, h5] at he
  | 2, _ =>
    refine opgz hK (o := _) rfl rfl (by k_ne) fun T w hw hb hd => ?_
    have h16 := hd 0 (by kernel_rfl) 16 _ rfl rfl
    have h17 := hd 1 (by kernel_rfl) 17 _ rfl rfl
    refine ⟨rfl, ?_, fun e he => ?_⟩
    · unfold execOp; simp [go_sem, Act.eval, h16, h17, hj]
    · unfold execOp at he; simp [go_sem, Act.eval, h16, h17, hj] at he
  | 3, _ =>
    refine opgz hK (o := _) rfl rfl (by k_ne) fun T w hw hb hd => ?_
    have h18 := hd 2 (by kernel_rfl) 18 _ rfl rfl
    obtain ⟨x1, -⟩ := hc w hw
    refine ⟨rfl, ?_, fun e he => ?_⟩
    · unfold execOp; simp [go_sem, Act.eval, h18, x1]
    · unfold execOp at he; simp [go_sem, Act.eval, h18, x1] at he
      subst he; exact hE1 _
  | 4, _ =>
    refine opgz hK (o := _) rfl rfl (by k_ne) fun T w hw hb hd => ?_
    have h1 := (hb 1 rfl).trans t1
    refine ⟨rfl, ?_, fun e he => ?_⟩
    · unfold execOp; simp [go_sem, Act.eval, h1]
    · unfold execOp at he; simp [go_sem, Act.eval, h1] at he
  | 5, _ =>
    refine opgz hK (o := _) rfl rfl (by k_ne) fun T w hw hb hd => ?_
    have h5 := (hb 5 rfl).trans t5
    refine ⟨rfl, ?_, fun e he => ?_⟩
    · unfold execOp; simp [go_sem, Act.eval, h5]
    · unfold execOp at he; simp [go_sem, Act.eval, h5] at he
  | 6, _ =>
    refine opgz hK (o := _) rfl rfl (by k_ne) fun T w hw hb hd => ?_
    have h20 := hd 4 (by kernel_rfl) 20 _ rfl rfl
    have h21 := hd 5 (by kernel_rfl) 21 _ rfl rfl
    refine ⟨rfl, ?_, fun e he => ?_⟩
    · unfold execOp; simp [go_sem, Act.eval, h20, h21, hj]
    · unfold execOp at he; simp [go_sem, Act.eval, h20, h21, hj] at he
  | 7, _ =>
    refine opgz hK (o := _) rfl rfl (by k_ne) fun T w hw hb hd => ?_
    have h22 := hd 6 (by kernel_rfl) 22 _ rfl rfl
    obtain ⟨-, y1⟩ := hc w hw
    refine ⟨rfl, ?_, fun e he => ?_⟩
    · unfold execOp; simp [go_sem, Act.eval, h22, y1]
    · unfold execOp at he; simp [go_sem, Act.eval, h22, y1] at he
      subst he; exact hE2 _
  | 8, _ =>
    refine opgz hK (o := _) rfl rfl (by k_ne) fun T w hw hb hd => ?_
    have h19 := hd 3 (by kernel_rfl) 19 _ rfl rfl
    have h23 := hd 7 (by kernel_rfl) 23 _ rfl rfl
    refine ⟨rfl, ?_, fun e he => ?_⟩
    · unfold execOp; simp [go_sem, Act.eval, h19, h23]
    · unfold execOp at he; simp [go_sem, Act.eval, h19, h23] at he
set_option maxRecDepth 100000 in
theorem roundEr (hK : ∀ {w w₁ : World}, K w → AtRel w w₁ → K w₁) (nn : Nat → Int) (hm : m ≤ 5864062014634) (hj : j < m) (hc : ∀ w, K w → (w.cell? ⟨b1, j, none⟩ = some (.int .i64 (nn j))) ∧ w.cell? ⟨b2, j, none⟩ = some (.int .i64 (nn j))) (hE1 : ∀ o, E ⟨.cell ⟨b1, o, none⟩, false, false⟩) (hE2 : ∀ o, E ⟨.cell ⟨b2, o, none⟩, false, false⟩) {g : Goroutine} (h : HdEr K (.slice (some ⟨b1, 0, none⟩) m c1) (.slice (some ⟨b2, 0, none⟩) m c2) m j cs g w) :
    Gz Try.prog (DE E) (HdEr K (.slice (some ⟨b1, 0, none⟩) m c1) (.slice (some ⟨b2, 0, none⟩) m c2) m (j + 1) cs) g w := by
  obtain ⟨⟨v5, v14, v15, v16, v17, v18, v19, v20, v21, v22, v23, v24, v25, rfl⟩, hF⟩ := h
  have d1 : decide ((j : Int) < (m : Int)) = true := decide_eq_true (by omega)
  have hw : IntKind.i64.wrap ((j : Int) + 1) = ((j + 1 : Nat) : Int) := by rw [IntKind.wrap_i64]; omega
  refine Gz.bind (Stop := fun g w => g = G (bEr.at ⟨#[.slice (some ⟨b1, 0, none⟩) m c1, .slice (some ⟨b2, 0, none⟩) m c2, undef, undef, .bool false, .int .i64 (j : Nat), .slice (some ⟨b1, 0, none⟩) m c1, .int .i64 (m : Nat), .slice (some ⟨b2, 0, none⟩) m c2, .int .i64 (m : Nat), .bool false, .slice (some ⟨b1, 0, none⟩) m c1, .int .i64 (m : Nat), .int .i64 (j : Nat), .bool true, .int .i64 (j : Nat), v16, v17, v18, v19, v20, v21, v22, v23, v24, v25], []⟩ (.code (.region 6 opsEr true) :: .code aftEr :: .inBlock 1 :: .code incEr :: itEr)) cs ∧ K w) ?_ ?_
  · refine Gz.goes (n := 60) ?_
    simp only [TEr, itEr, opsEr, aftEr, incEr, loopEr, tailEr, bodyEr, Try.f6, Option.getD_some]
    u_c stepG_seq hK hF
    u_reg hK hF
    u_op hK hF
    u_c stepG_region_end hK hF
    u_c stepG_seq hK hF
    u_cond true hK hF
    u_c stepG_skip hK hF
    u_c stepG_seq hK hF
    u_c stepG_block hK hF
    u_c stepG_seq hK hF
    u_reg hK hF
    u_op hK hF
    u_op hK hF
    u_c stepG_region_end hK hF
    u_c stepG_seq hK hF
    exact Goes.stop fun w₁ h₁ => .stop fun w₂ h₂ => ⟨rfl, hK (hK hF h₁) h₂⟩
  clear hF
  rintro g w ⟨rfl, hF⟩
  refine (drawEr (c1 := c1) (c2 := c2) hK nn hj hc hE1 hE2 rfl rfl rfl rfl hF).bind ?_
  clear hF
  rintro g w ⟨rfl, hF⟩
  refine Gz.goes (n := 60) ?_
  simp only [TEr, itEr, opsEr, aftEr, incEr, loopEr, tailEr, bodyEr, Try.f6, Option.getD_some, List.zip_cons_cons, List.zip_nil_right, List.foldl_cons, List.foldl_nil]
  walk_nrm
  u_c stepG_region_end hK hF
  u_cond false hK hF
  u_c stepG_skip hK hF
  u_c stepG_inBlock hK hF
  u_reg hK hF
  u_op hK hF
  u_op hK hF
  u_c stepG_region_end hK hF
  u_c stepG_inLoop hK hF
  exact Goes.stop fun w₁ h₁ => .stop fun w₂ h₂ => ⟨⟨_, _, _, _, _, _, _, _, _, _, _, _, _, rfl⟩, hK (hK hF h₁) h₂⟩
set_option maxRecDepth 100000 in
theorem endEr (hK : ∀ {w w₁ : World}, K w → AtRel w w₁ → K w₁) {g : Goroutine} (h : HdEr K s1 s2 m m (c :: cs) g w) : Gz Try.prog (DE E) (fun g w => g = G (c.finish (.bool true)) cs ∧ K w) g w := by
  obtain ⟨⟨v5, v14, v15, v16, v17, v18, v19, v20, v21, v22, v23, v24, v25, rfl⟩, hF⟩ := h
  have d1 : decide ((m : Int) < (m : Int)) = false := decide_eq_false (by omega)
  refine Gz.goes (n := 60) ?_
  simp only [TEr, itEr, loopEr, tailEr, bodyEr, Try.f6, Option.getD_some]
  u_c stepG_seq hK hF
  u_reg hK hF
  u_op hK hF
  u_c stepG_region_end hK hF
  u_c stepG_seq hK hF
  u_cond false hK hF
  u_exit hK hF
  u_c stepG_seq hK hF
  u_reg hK hF
  u_op hK hF
  u_c stepG_region_end hK hF
  u_c stepG_ret' hK hF
  u_in hK hF
  rw [stepG_leave rfl rfl Try.func6 (results_tmp rfl _ _ _) (events_results_tmp rfl _ _)]
  simp only [goes_go]
  refine ⟨by u_nil, ?_⟩
  exact Goes.stop fun w₁ h₁ => .stop fun w₂ h₂ => ⟨rfl, hK (hK hF h₁) h₂⟩
/-- equal slices: it says so -/
theorem eqEr (hK : ∀ {w w₁ : World}, K w → AtRel w w₁ → K w₁) (nn : Nat → Int) (hm : m ≤ 5864062014634) {a1 a2 : Option Addr} (ha : 0 < m → ∃ b1 b2, a1 = some ⟨b1, 0, none⟩ ∧ a2 = some ⟨b2, 0, none⟩ ∧ (∀ o, E ⟨.cell ⟨b1, o, none⟩, false, false⟩) ∧ (∀ o, E ⟨.cell ⟨b2, o, none⟩, false, false⟩) ∧ ∀ w, K w → ∀ j, j < m → (w.cell? ⟨b1, j, none⟩ = some (.int .i64 (nn j))) ∧ w.cell? ⟨b2, j, none⟩ = some (.int .i64 (nn j))) (hF : K w) :
    Gz Try.prog (DE E) (fun g w => g = G (c.finish (.bool true)) cs ∧ K w) (G (Frame.enter Try.prog 6 #[.slice a1 m c1, .slice a2 m c2] .normal) (c :: cs)) w := by
  refine (enterEr hK hF).bind fun g w h => ?_
  rcases Nat.eq_zero_or_pos m with rfl | hpos
  · exact endEr hK h
  obtain ⟨b1, b2, rfl, rfl, h1, h2, h3⟩ := ha hpos
  have key : ∀ (r j : Nat) (g : Goroutine) (w : World), j + r = m → HdEr K (.slice (some ⟨b1, 0, none⟩) m c1) (.slice (some ⟨b2, 0, none⟩) m c2) m j (c :: cs) g w → Gz Try.prog (DE E) (fun g w => g = G (c.finish (.bool true)) cs ∧ K w) g w := by
    intro r
    induction r with
    | zero =>
      intro j g w hj h
      obtain rfl : j = m := by omega
      exact endEr hK h
    | succ r ih =>
      intro j g w hj h
      exact (roundEr hK nn hm (by omega) (fun w hw => h3 w hw j (by omega)) h1 h2 h).bind fun g w h => ih (j + 1) g w (by omega) h
  exact key m 0 g w (by omega) h
end
end Go.Proofs.Ytjplnkkcmkpkbaa
