/- Several of my texts in one: Lf8, Lf9. -/
import Derived.Test.YtjplnkkcmkpkbaaMA05
set_option linter.unusedSimpArgs false
set_option linter.unusedVariables false
/- The lift, 8: a goroutine's own step: a lone goroutine and one in company that match step alike. -/
namespace Go.Proofs.Ytjplnkkcmkpkbaa

def okCode (P : Program) (B : FuncId → Bool) : Code → Bool
  | .skip | .exit _ | .ret | .refuse _ => true
  | .region _ ops _ => ops.toList.all fun o => okOp P B o.op
  | .seq a b => okCode P B a && okCode P B b
  | .cond c a b => okx B c && okCode P B a && okCode P B b
  | .block _ c | .loop c => okCode P B c
  | _ => false
def okItem (P : Program) (B : FuncId → Bool) : Item → Bool
  | .code c => okCode P B c
  | .inBlock _ => true
  | .inLoop c => okCode P B c
  | .inRegion ops _ => ops.toList.all fun o => okOp P B o.op
  | _ => false
/-- the admitted functions' texts are of admitted operations -/
def OkFns (P : Program) (B : FuncId → Bool) : Prop := ∀ f, B f = true → ∃ fn c, P.funcs[f]? = some fn ∧ (fn.name == "runtime.NumGoroutine") = false ∧ fn.body = some c ∧ okCode P B c = true
theorem OkFns.hasBody {P : Program} {B : FuncId → Bool} (h : OkFns P B) : HasBody P B := fun f hf => by
  obtain ⟨fn, c, h1, h2, h3, _⟩ := h f hf
  exact ⟨fn, h1, h2, by rw [h3]; rfl⟩

section
variable [Sft] {P : Program} {B : FuncId → Bool} {RO : Nat → Prop} {ρ : Ren}
inductive CH (B : FuncId → Bool) (ρ : Ren) : List PanicEntry → List PanicEntry → Prop
  | nil : CH B ρ [] []
  | cons {e e' : PanicEntry} {l l' : List PanicEntry} : VR (fun f => B f = true) ρ e.v e'.v → e'.recovered = e.recovered → e'.goexit = e.goexit → CH B ρ l l' → CH B ρ (e :: l) (e' :: l')
theorem CH.mono {ρ' : Ren} (k : ∀ b c, ρ b c → ρ' b c) {l l' : List PanicEntry} (h : CH B ρ l l') : CH B ρ' l l' := by
  induction h with
  | nil => exact .nil
  | cons h1 h2 h3 _ ih => exact .cons (h1.mono k) h2 h3 ih
theorem CH.append {l l' m m' : List PanicEntry} (h : CH B ρ l l') (k : CH B ρ m m') : CH B ρ (l ++ m) (l' ++ m') := by
  induction h with
  | nil => exact k
  | cons h1 h2 h3 _ ih => exact .cons h1 h2 h3 ih
inductive MR (B : FuncId → Bool) (ρ : Ren) : FrameMode → FrameMode → Prop
  | run : MR B ρ .run .run
  | ret : MR B ρ .returning .returning
  | pan {l l' : List PanicEntry} : CH B ρ l l' → MR B ρ (.panicking l) (.panicking l')
theorem MR.mono {ρ' : Ren} (k : ∀ b c, ρ b c → ρ' b c) {m m' : FrameMode} (h : MR B ρ m m') : MR B ρ' m m' := by
  cases h with
  | run => exact .run
  | ret => exact .ret
  | pan h => exact .pan (h.mono k)
structure FR (P : Program) (B : FuncId → Bool) (ρ : Ren) (fr fr' : Frame) : Prop where
  fn : fr'.fn = fr.fn
  ok : B fr.fn = true
  tmps : LR (fun f => B f = true) ρ fr.tmps fr'.tmps
  todo : fr'.todo = fr.todo
  items : ∀ x ∈ fr.todo, okItem P B x = true
  defers : fr.defers = []
  defers' : fr'.defers = []
  mode : MR B ρ fr.mode fr'.mode
  kind : fr.kind = .normal
  kind' : fr'.kind = .normal
  round : fr.roundOf = none
  round' : fr'.roundOf = none
theorem FR.mono {ρ' : Ren} (k : ∀ b c, ρ b c → ρ' b c) {fr fr' : Frame} (h : FR P B ρ fr fr') : FR P B ρ' fr fr' :=
  ⟨h.fn, h.ok, h.tmps.mono k, h.todo, h.items, h.defers, h.defers', h.mode.mono k, h.kind, h.kind', h.round, h.round'⟩
theorem FR.to {fr fr' : Frame} (h : FR P B ρ fr fr') {l : List Item} (k : ∀ x ∈ l, okItem P B x = true) : FR P B ρ { fr with todo := l } { fr' with todo := l } :=
  ⟨h.fn, h.ok, h.tmps, rfl, k, h.defers, h.defers', h.mode, h.kind, h.kind', h.round, h.round'⟩
theorem FR.eval {fr fr' : Frame} (h : FR P B ρ fr fr') : ER B ρ fr.eval fr'.eval := by
  intro x hx
  cases x with
  | tmp t => exact h.tmps.getD t VR.undef
  | const v => exact (flatB_flat hx).vr ρ
  | global g => cases hx
  | func f => exact VR.func f hx rfl (fun i v v' e => by simp at e) rfl (fun i v v' e => by simp at e)
theorem FR.finish {fr fr' : Frame} (h : FR P B ρ fr fr') {v v' : Value} (hv : VR (fun f => B f = true) ρ v v') : FR P B ρ (fr.finish v) (fr'.finish v') := by
  have hi := h.items
  have ht := h.todo
  unfold Frame.finish
  rw [ht]
  cases e : fr.todo with
  | nil => exact h
  | cons x k =>
    rw [e] at hi
    have hx := hi x (by simp)
    cases x with
    | inRegion ops l =>
      cases l with
      | nil => exact h
      | cons i l =>
        dsimp only
        refine ⟨h.fn, h.ok, ?_, rfl, ?_, h.defers, h.defers', h.mode, h.kind, h.kind', h.round, h.round'⟩
        · show LR (fun f => B f = true) ρ (match (ops[i]?).bind (·.dst) with | some d => fr.tmps.setIfInBounds d v | none => fr.tmps) (match (ops[i]?).bind (·.dst) with | some d => fr'.tmps.setIfInBounds d v' | none => fr'.tmps)
          cases (ops[i]?).bind (·.dst) with
          | none => exact h.tmps
          | some d => exact h.tmps.set d hv
        · intro y hy
          rcases List.mem_cons.1 hy with rfl | hy
          · exact hx
          · exact hi y (by simp [hy])
    | code c => exact h
    | inBlock n => exact h
    | inLoop c => exact h
    | _ => cases hx
theorem FR.raise {fr fr' : Frame} (h : FR P B ρ fr fr') {l l' : List PanicEntry} (hl : CH B ρ l l') : FR P B ρ (fr.raise l) (fr'.raise l') := by
  unfold Frame.raise
  have hm := h.mode
  cases e : fr.mode with
  | panicking c =>
    rw [e] at hm
    cases hm' : fr'.mode with
    | panicking c' =>
      rw [hm'] at hm
      cases hm with
      | pan hc => exact ⟨h.fn, h.ok, h.tmps, h.todo, h.items, h.defers, h.defers', .pan (hl.append hc), h.kind, h.kind', h.round, h.round'⟩
    | _ => rw [hm'] at hm; cases hm
  | run =>
    rw [e] at hm
    cases hm' : fr'.mode with
    | run => exact ⟨h.fn, h.ok, h.tmps, h.todo, h.items, h.defers, h.defers', .pan hl, h.kind, h.kind', h.round, h.round'⟩
    | _ => rw [hm'] at hm; cases hm
  | returning =>
    rw [e] at hm
    cases hm' : fr'.mode with
    | returning => exact ⟨h.fn, h.ok, h.tmps, h.todo, h.items, h.defers, h.defers', .pan hl, h.kind, h.kind', h.round, h.round'⟩
    | _ => rw [hm'] at hm; cases hm
theorem FR.enter (hF : OkFns P B) {f : FuncId} (hf : B f = true) {as as' : Array Value} (h : LR (fun f => B f = true) ρ as as') : FR P B ρ (Frame.enter P f as .normal) (Frame.enter P f as' .normal) := by
  obtain ⟨fn, c, e1, e2, e3, e4⟩ := hF f hf
  refine ⟨rfl, hf, ?_, rfl, ?_, rfl, rfl, .run, rfl, rfl, rfl, rfl⟩
  · show LR (fun f => B f = true) ρ (as ++ Array.replicate _ undef) (as' ++ Array.replicate _ undef)
    rw [← h.1]
    refine h.append (LR.flat fun i v e => ?_)
    rw [Array.getElem?_replicate] at e
    split at e
    · cases e; exact .tuple fun i v h => by simp at h
    · cases e
  · intro x hx
    simp only [Frame.enter, e1, Option.bind_some, e3, Option.getD_some, List.mem_singleton] at hx
    subst hx
    exact e4
inductive FL (P : Program) (B : FuncId → Bool) (ρ : Ren) : List Frame → List Frame → Prop
  | nil : FL P B ρ [] []
  | cons {fr fr' : Frame} {l l' : List Frame} : FR P B ρ fr fr' → FL P B ρ l l' → FL P B ρ (fr :: l) (fr' :: l')
theorem FL.mono {ρ' : Ren} (k : ∀ b c, ρ b c → ρ' b c) {l l' : List Frame} (h : FL P B ρ l l') : FL P B ρ' l l' := by
  induction h with
  | nil => exact .nil
  | cons h1 _ ih => exact .cons (h1.mono k) ih
structure GR (P : Program) (B : FuncId → Bool) (bL bC : List Frame) (ρ : Ren) (g g' : Goroutine) : Prop where
  top : FR P B ρ g.frame g'.frame
  ups : ∃ u u', g.callers = u ++ bL ∧ g'.callers = u' ++ bC ∧ FL P B ρ u u'
  st : g.status = .running
  st' : g'.status = .running
  dy : g.dying = none
  dy' : g'.dying = none
  of : g.offers = none
  of' : g'.offers = none
/-- it has come to the base: returning, or panicking -/
def Leaf (bL : List Frame) (g : Goroutine) : Prop := g.callers = bL ∧ g.frame.mode ≠ .run
omit [Sft] in
theorem seen_sub (fn : FuncId) (es : Array Event) : ∀ e ∈ seen P fn es, e ∈ es := by
  have key : ∀ (l : List Event) (q : Bool) (kept : Array Event) (e : Event),
      e ∈ (l.foldl (fun (x : Bool × Array Event) e => match e.loc with
        | .mark (.extern f) => ((P.funcs[f]?).any (·.norace), x.2)
        | _ => (x.1, if x.1 && !e.sync then x.2 else x.2.push e)) (q, kept)).2 → e ∈ kept ∨ e ∈ l := by
    intro l
    induction l with
    | nil => intro q kept e h; exact .inl h
    | cons x l ih =>
      intro q kept e h
      simp only [List.foldl_cons] at h
      split at h
      · rcases ih _ _ e h with h | h
        · exact .inl h
        · exact .inr (by simp [h])
      · rcases ih _ _ e h with h | h
        · split at h
          · exact .inl h
          · rcases Array.mem_push.1 h with h | h
            · exact .inl h
            · exact .inr (by simp [h])
        · exact .inr (by simp [h])
  intro e he
  unfold seen at he
  dsimp only at he
  rw [← Array.foldl_toList] at he
  rcases key es.toList _ _ e he with h | h
  · simp at h
  · exact Array.mem_toList_iff.1 h
theorem Eff.sub {ρ' : Ren} {wL wC wL' wC' : World} {es es' : Array Event} (h : Eff RO ρ ρ' wL wC wL' wC' es) (k : ∀ e ∈ es', e ∈ es) : Eff RO ρ ρ' wL wC wL' wC' es' :=
  ⟨h.le, h.new, h.old, h.grow, h.growL, h.tape, h.tapeL, h.dr, h.drL, h.os, h.out, h.osL, h.outL, h.same, fun e he => h.evs e (k e he)⟩

/-- what a lone goroutine's step asks of the other's -/
def StR (P : Program) (B : FuncId → Bool) (RO : Nat → Prop) (bL bC : List Frame) (ρ : Ren) (wL wC : World) (s s' : GStep) : Prop :=
  match s with
  | .go g w _ => Adv wL w ∧ (Al wL w wC → ∃ g' w' es ρ', s' = .go g' w' es ∧ GR P B bL bC ρ' g g' ∧ WR (fun f => B f = true) P RO ρ' w w' ∧ Eff RO ρ ρ' wL wC w w' es)
  | .ended .. => True
  | _ => False
theorem StR.still {bL bC : List Frame} {wL wC : World} (hw : WR (fun f => B f = true) P RO ρ wL wC) {g g' : Goroutine} (h : GR P B bL bC ρ g g') : StR P B RO bL bC ρ wL wC (.go g wL) (.go g' wC) :=
  ⟨Adv.refl _, fun _ => ⟨g', wC, #[], ρ, rfl, h, hw, Eff.refl _ _ _⟩⟩
omit [Sft] in
theorem items_cons {x : Item} {k : List Item} : (∀ y ∈ x :: k, okItem P B y = true) ↔ okItem P B x = true ∧ ∀ y ∈ k, okItem P B y = true := by simp
omit [Sft] in
theorem exitTo_ok (id : Nat) : ∀ (k k' : List Item), (∀ y ∈ k, okItem P B y = true) → exitTo id k = some k' → ∀ y ∈ k', okItem P B y = true
  | [], k', _, e => by simp [exitTo] at e
  | x :: k, k', h, e => by
    rw [items_cons] at h
    cases x with
    | inBlock i =>
      simp only [exitTo] at e
      split at e
      · cases e; exact h.2
      · exact exitTo_ok id k k' h.2 e
    | _ => exact exitTo_ok id k k' h.2 e

theorem yielded_eq {ops : Array Oper} {x x' : Array Value} (h : LR (fun f => B f = true) ρ x x') : yielded ops x' = yielded ops x := by
  funext j
  unfold yielded
  cases (ops[j]?).bind (·.dst) with
  | none => rfl
  | some d =>
    simp only [Option.bind_some]
    cases e : x[d]? with
    | none => rw [h.none e]
    | some v =>
      obtain ⟨v', e', hv⟩ := h.get e
      rw [e']
      cases hv <;> rfl
end
end Go.Proofs.Ytjplnkkcmkpkbaa
/- The lift, 9: the step itself. -/
namespace Go.Proofs.Ytjplnkkcmkpkbaa
section
variable [Sft] {P : Program} {B : FuncId → Bool} {RO : Nat → Prop} {ρ : Ren} {bL bC : List Frame} {wL wC : World}

theorem apply_sim (hF : OkFns P B) {fr fr' : Frame} {u u' : List Frame} (h : FR P B ρ fr fr') (hu : FL P B ρ u u') (hw : WR (fun f => B f = true) P RO ρ wL wC) {s s' : Sem Next} (hs : SR P (fun f => B f = true) RO ρ (NR (fun f => B f = true)) s s')
    (hk : ∃ ops l k, fr.todo = .inRegion ops l :: k) :
    StR P B RO bL bC ρ wL wC (stepG.apply P true fr (u ++ bL) none s wL) (stepG.apply P true fr' (u' ++ bC) none s' wC) := by
  obtain ⟨ops, l, k, hk⟩ := hk
  have h1 := hs wL wC #[] hw
  have ke : (fr'.kind == CallKind.early) = false := by rw [h.kind']; rfl
  cases hr : s.run P wL with
  | ok x w1 =>
    rw [hr] at h1
    obtain ⟨adv, h1⟩ := h1
    have key : ∀ g, (∃ wh, stepG.apply P true fr (u ++ bL) none s wL = .go g w1 wh) → (Al wL w1 wC → ∀ y wC' ρ' es', s'.runT P wC #[] = (.ok y wC', #[] ++ es') → WR (fun f => B f = true) P RO ρ' w1 wC' → Eff RO ρ ρ' wL wC w1 wC' es' → NR (fun f => B f = true) ρ' x y →
        ∃ g', (∃ es, stepG.apply P true fr' (u' ++ bC) none s' wC = .go g' wC' es ∧ ∀ e ∈ es, e ∈ es') ∧ GR P B bL bC ρ' g g') → StR P B RO bL bC ρ wL wC (stepG.apply P true fr (u ++ bL) none s wL) (stepG.apply P true fr' (u' ++ bC) none s' wC) := by
      rintro g ⟨wh, e⟩ hg
      rw [e]
      refine ⟨adv, fun al => ?_⟩
      obtain ⟨y, wC', ρ', es', e1, hw', he, hn⟩ := h1 al
      obtain ⟨g', ⟨es, e2, hsub⟩, hgr⟩ := hg al y wC' ρ' es' e1 hw' he hn
      exact ⟨g', wC', es, ρ', e2, hgr, hw', he.sub hsub⟩
    have hn0 : ∃ (y : Next) (ρ' : Ren), NR (fun f => B f = true) ρ' x y := by
      have h2 := hs wL { wC with tape := fun d q => wL.tape (wL.drawn + d - wC.drawn) q } #[] (hw.tape _)
      rw [hr] at h2
      obtain ⟨y, w', ρ', es', _, _, _, hn⟩ := h2.2 fun i q _ => by show _ = wL.tape (wL.drawn + (wC.drawn + i) - wC.drawn) q; congr 1; omega
      exact ⟨y, ρ', hn⟩
    obtain ⟨y0, ρ0, hn0⟩ := hn0
    cases x with
    | value v =>
      refine key { frame := fr.finish v, callers := u ++ bL, status := .running, dying := none } ⟨_, by simp [stepG.apply, hr, GStep.after]; rfl⟩ ?_
      intro al y wC' ρ' es' e1 hw' he hn
      cases y with
      | value v' =>
        refine ⟨{ frame := fr'.finish v', callers := u' ++ bC, status := .running, dying := none }, ⟨_, by simp only [stepG.apply, if_true, e1, ke, Bool.false_eq_true, if_false, GStep.after]; rfl, ?_⟩, ⟨(h.mono he.le).finish hn, ⟨u, u', rfl, rfl, hu.mono he.le⟩, rfl, rfl, rfl, rfl, rfl, rfl⟩⟩
        intro e hee
        simp at hee
        have := seen_sub _ _ e hee
        simpa using this
      | _ => exact hn.elim
    | skip =>
      refine key { frame := fr.finish undef, callers := u ++ bL, status := .running, dying := none } ⟨_, by simp [stepG.apply, hr, GStep.after]; rfl⟩ ?_
      intro al y wC' ρ' es' e1 hw' he hn
      cases y with
      | skip =>
        refine ⟨{ frame := fr'.finish undef, callers := u' ++ bC, status := .running, dying := none }, ⟨_, by simp only [stepG.apply, if_true, e1, ke, Bool.false_eq_true, if_false, GStep.after]; rfl, ?_⟩, ⟨(h.mono he.le).finish VR.undef, ⟨u, u', rfl, rfl, hu.mono he.le⟩, rfl, rfl, rfl, rfl, rfl, rfl⟩⟩
        intro e hee
        simp at hee
        have := seen_sub _ _ e hee
        simpa using this
      | _ => exact hn.elim
    | enter f as =>
      refine key { frame := Frame.enter P f as .normal, callers := fr :: (u ++ bL), status := .running, dying := none } ⟨_, by simp [stepG.apply, hr, GStep.after, hk]; rfl⟩ ?_
      intro al y wC' ρ' es' e1 hw' he hn
      cases y with
      | enter f' as' =>
        obtain ⟨rfl, hf, hl⟩ := hn
        refine ⟨{ frame := Frame.enter P f' as' .normal, callers := fr' :: (u' ++ bC), status := .running, dying := none }, ⟨_, by simp only [stepG.apply, if_true, e1, ke, Bool.false_eq_true, if_false, GStep.after, h.todo, hk]; rfl, ?_⟩, ⟨FR.enter hF hf hl, ⟨fr :: u, fr' :: u', rfl, rfl, .cons (h.mono he.le) (hu.mono he.le)⟩, rfl, rfl, rfl, rfl, rfl, rfl⟩⟩
        intro e hee
        simp at hee
        have := seen_sub _ _ e hee
        simpa using this
      | _ => exact hn.elim
    | _ => cases y0 <;> exact hn0.elim
  | halt x w1 =>
    rw [hr] at h1
    cases x with
    | panic v =>
      obtain ⟨adv, h1⟩ := h1
      have e : ∃ wh, stepG.apply P true fr (u ++ bL) none s wL = .go { frame := fr.raise [{ v, recovered := false }], callers := u ++ bL, status := .running, dying := none } w1 wh := ⟨_, by simp [stepG.apply, hr, GStep.after]; rfl⟩
      obtain ⟨wh, e⟩ := e
      rw [e]
      refine ⟨adv, fun al => ?_⟩
      obtain ⟨v', wC', ρ', es', e1, hw', he, hn⟩ := h1 al
      refine ⟨{ frame := fr'.raise [{ v := v', recovered := false }], callers := u' ++ bC, status := .running, dying := none }, wC', _, ρ', by simp only [stepG.apply, if_true, e1, ke, Bool.false_eq_true, if_false, GStep.after]; rfl, ⟨(h.mono he.le).raise (.cons hn rfl rfl .nil), ⟨u, u', rfl, rfl, hu.mono he.le⟩, rfl, rfl, rfl, rfl, rfl, rfl⟩, hw', he.sub fun e hee => ?_⟩
      simp at hee
      have := seen_sub _ _ e hee
      simpa using this
    | stuck why =>
      have e : ∃ o wh, stepG.apply P true fr (u ++ bL) none s wL = .ended o w1 wh := ⟨_, _, by simp [stepG.apply, hr, GStep.after]; exact ⟨rfl, rfl⟩⟩
      obtain ⟨o, wh, e⟩ := e
      rw [e]; exact trivial
    | unsupported un =>
      have e : ∃ o wh, stepG.apply P true fr (u ++ bL) none s wL = .ended o w1 wh := by
        cases un with
        | initOrder g => exact h1.elim
        | _ => exact ⟨_, _, by simp [stepG.apply, hr, GStep.after]; exact ⟨rfl, rfl⟩⟩
      obtain ⟨o, wh, e⟩ := e
      rw [e]; exact trivial
    | _ => exact h1.elim
end
end Go.Proofs.Ytjplnkkcmkpkbaa
