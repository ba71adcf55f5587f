/- Several of my texts in one: Lf6, Lf7. -/
import Derived.Test.YtjplnkkcmkpkbaaMA04
set_option linter.unusedSimpArgs false
set_option linter.unusedVariables false
/- The lift, 6: operators, calls, and whatever operation is admitted. -/
namespace Go.Proofs.Ytjplnkkcmkpkbaa
section
variable [Sft] {P : Program} {A : FuncId → Prop} {RO : Nat → Prop} {ρ : Ren}

omit [Sft] in
theorem QP.numOp (op : BinOp) (t : TypeId) (k k' : IntKind) (a b : Int) (h : op = .add ∨ op = .sub ∨ op = .mul ∨ op = .lss ∨ op = .leq ∨ op = .gtr ∨ op = .geq ∨ op = .eql ∨ op = .neq) : QP P (binOp op t (.int k a) (.int k' b)) Flat := by
  rcases h with rfl | rfl | rfl | rfl | rfl | rfl | rfl | rfl | rfl <;> (unfold binOp; dsimp only; split; · exact QP.stuck) <;> first | exact QP.pure (.int _ _) | exact QP.pure (.bool _)
def okBin : BinOp → Bool
  | .add | .sub | .mul | .lss | .leq | .gtr | .geq | .eql | .neq => true
  | _ => false
omit [Sft] in
theorem okBin_or {op : BinOp} (h : okBin op = true) : op = .add ∨ op = .sub ∨ op = .mul ∨ op = .lss ∨ op = .leq ∨ op = .gtr ∨ op = .geq ∨ op = .eql ∨ op = .neq := by
  cases op <;> first | (simp; done) | cases h
theorem under_ty {t : TypeId} (ht : okTy P t = true) {α β : Type} {Q : Ren → α → β → Prop} {f : TypeDesc → Sem α} {g : TypeDesc → Sem β} (h : ∀ d ρ2, (∀ b c, ρ b c → ρ2 b c) → ((∃ k, d = .int k) ∨ d = .string) → SR P A RO ρ2 Q (f d) (g d)) : SR P A RO ρ Q (underlying t >>= f) (underlying t >>= g) := by
  refine SR.bind (SR.qp (QP.underlying t)) ?_
  rintro ρ2 k2 d _ ⟨rfl, hd⟩
  refine h d ρ2 k2 ?_
  simp only [okTy, hd] at ht
  cases d <;> first | exact .inl ⟨_, rfl⟩ | exact .inr rfl | simp at ht
set_option maxHeartbeats 1000000 in
theorem SR.bAdd {t : TypeId} (ht : okTy P t = true) {v v' y y' : Value} (hv : VR A ρ v v') (hy : VR A ρ y y') (hi : ¬ ((∃ k a, v = .int k a) ∧ ∃ k a, y = .int k a)) (hst : ¬ ((∃ a, v = .string a) ∧ ∃ a, y = .string a)) : SR P A RO ρ (VR A) (Go.binOp .add t v y) (Go.binOp .add t v' y') := by
  cases hv with
  | int k a => cases hy with
    | int => exact absurd ⟨⟨_, _, rfl⟩, ⟨_, _, rfl⟩⟩ hi
    | pnil => exact SR.movedN ht .pnil ⟨_, rfl⟩ (.int _ _)
    | ptr hb => exact SR.movedN ht (.ptr hb) ⟨_, rfl⟩ (.int _ _)
    | _ => exact SR.dead fun _ _ _ => ⟨_, _, rfl, trivial⟩
  | pnil => cases hy with
    | int k a =>
      show SR P A RO ρ (VR A) (underlying t >>= _) (underlying t >>= _)
      refine under_ty ht fun d ρ2 k2 hd => ?_
      rcases hd with ⟨k, rfl⟩ | rfl <;> exact SR.movedN ht .pnil ⟨_, rfl⟩ (.int _ _)
    | _ => exact SR.dead fun _ _ _ => ⟨_, _, rfl, trivial⟩
  | ptr ha => cases hy with
    | int k a =>
      show SR P A RO ρ (VR A) (underlying t >>= _) (underlying t >>= _)
      refine under_ty ht fun d ρ2 k2 hd => ?_
      rcases hd with ⟨k, rfl⟩ | rfl <;> exact SR.movedN ht (.ptr (ha.mono k2)) ⟨_, rfl⟩ (.int _ _)
    | _ => exact SR.dead fun _ _ _ => ⟨_, _, rfl, trivial⟩
  | string s => cases hy with
    | string => exact absurd ⟨⟨_, rfl⟩, ⟨_, rfl⟩⟩ hst
    | _ => exact SR.dead fun _ _ _ => ⟨_, _, rfl, trivial⟩
  | _ => cases hy <;> exact SR.dead fun _ _ _ => ⟨_, _, rfl, trivial⟩
set_option maxHeartbeats 1000000 in
theorem SR.bSub {t : TypeId} (ht : okTy P t = true) {v v' y y' : Value} (hv : VR A ρ v v') (hy : VR A ρ y y') (hi : ¬ ((∃ k a, v = .int k a) ∧ ∃ k a, y = .int k a)) (hst : ¬ ((∃ a, v = .string a) ∧ ∃ a, y = .string a)) : SR P A RO ρ (VR A) (Go.binOp .sub t v y) (Go.binOp .sub t v' y') := by
  cases hv with
  | int k a => cases hy with
    | int => exact absurd ⟨⟨_, _, rfl⟩, ⟨_, _, rfl⟩⟩ hi
    | _ => exact SR.dead fun _ _ _ => ⟨_, _, rfl, trivial⟩
  | pnil => cases hy with
    | int k a => exact SR.movedN ht .pnil ⟨_, rfl⟩ (.int _ _)
    | _ => exact SR.dead fun _ _ _ => ⟨_, _, rfl, trivial⟩
  | ptr ha => cases hy with
    | int k a => exact SR.movedN ht (.ptr ha) ⟨_, rfl⟩ (.int _ _)
    | ptr hb =>
      show SR P A RO ρ (VR A) (Go.behindNumber _ >>= _) (Go.behindNumber _ >>= _)
      refine SR.bind (SR.behind ha) ?_
      rintro ρ1 k1 ⟨a, l⟩ ⟨c, l2⟩ ⟨h1, _⟩
      refine SR.bind (SR.behind (hb.mono k1)) ?_
      rintro ρ2 k2 ⟨a2, l3⟩ ⟨c2, l4⟩ ⟨h2, _⟩
      exact SR.twoPlaces (h1.mono k2)
    | _ => exact SR.dead fun _ _ _ => ⟨_, _, rfl, trivial⟩
  | string s => cases hy with
    | string => exact absurd ⟨⟨_, rfl⟩, ⟨_, rfl⟩⟩ hst
    | _ => exact SR.dead fun _ _ _ => ⟨_, _, rfl, trivial⟩
  | _ => cases hy <;> exact SR.dead fun _ _ _ => ⟨_, _, rfl, trivial⟩
set_option maxHeartbeats 1000000 in
theorem SR.bMul {t : TypeId} {v v' y y' : Value} (hv : VR A ρ v v') (hy : VR A ρ y y') (hi : ¬ ((∃ k a, v = .int k a) ∧ ∃ k a, y = .int k a)) (hst : ¬ ((∃ a, v = .string a) ∧ ∃ a, y = .string a)) : SR P A RO ρ (VR A) (Go.binOp .mul t v y) (Go.binOp .mul t v' y') := by
  cases hv with
  | int k a => cases hy with
    | int => exact absurd ⟨⟨_, _, rfl⟩, ⟨_, _, rfl⟩⟩ hi
    | _ => exact SR.dead fun _ _ _ => ⟨_, _, rfl, trivial⟩
  | string s => cases hy with
    | string => exact absurd ⟨⟨_, rfl⟩, ⟨_, rfl⟩⟩ hst
    | _ => exact SR.dead fun _ _ _ => ⟨_, _, rfl, trivial⟩
  | _ => cases hy <;> exact SR.dead fun _ _ _ => ⟨_, _, rfl, trivial⟩
set_option maxHeartbeats 1000000 in
theorem SR.bLss {t : TypeId} {v v' y y' : Value} (hv : VR A ρ v v') (hy : VR A ρ y y') (hi : ¬ ((∃ k a, v = .int k a) ∧ ∃ k a, y = .int k a)) (hst : ¬ ((∃ a, v = .string a) ∧ ∃ a, y = .string a)) : SR P A RO ρ (VR A) (Go.binOp .lss t v y) (Go.binOp .lss t v' y') := by
  cases hv with
  | int k a => cases hy with
    | int => exact absurd ⟨⟨_, _, rfl⟩, ⟨_, _, rfl⟩⟩ hi
    | _ => exact SR.dead fun _ _ _ => ⟨_, _, rfl, trivial⟩
  | ptr ha => cases hy with
    | ptr hb =>
      show SR P A RO ρ (VR A) (Go.behindNumber _ >>= _) (Go.behindNumber _ >>= _)
      refine SR.bind (SR.behind ha) ?_
      rintro ρ1 k1 ⟨a, l⟩ ⟨c, l2⟩ ⟨h1, _⟩
      refine SR.bind (SR.behind (hb.mono k1)) ?_
      rintro ρ2 k2 ⟨a2, l3⟩ ⟨c2, l4⟩ ⟨h2, _⟩
      exact SR.twoPlaces (h1.mono k2)
    | _ => exact SR.dead fun _ _ _ => ⟨_, _, rfl, trivial⟩
  | string s => cases hy with
    | string => exact absurd ⟨⟨_, rfl⟩, ⟨_, rfl⟩⟩ hst
    | _ => exact SR.dead fun _ _ _ => ⟨_, _, rfl, trivial⟩
  | _ => cases hy <;> exact SR.dead fun _ _ _ => ⟨_, _, rfl, trivial⟩
set_option maxHeartbeats 1000000 in
theorem SR.bLeq {t : TypeId} {v v' y y' : Value} (hv : VR A ρ v v') (hy : VR A ρ y y') (hi : ¬ ((∃ k a, v = .int k a) ∧ ∃ k a, y = .int k a)) (hst : ¬ ((∃ a, v = .string a) ∧ ∃ a, y = .string a)) : SR P A RO ρ (VR A) (Go.binOp .leq t v y) (Go.binOp .leq t v' y') := by
  cases hv with
  | int k a => cases hy with
    | int => exact absurd ⟨⟨_, _, rfl⟩, ⟨_, _, rfl⟩⟩ hi
    | _ => exact SR.dead fun _ _ _ => ⟨_, _, rfl, trivial⟩
  | ptr ha => cases hy with
    | ptr hb =>
      show SR P A RO ρ (VR A) (Go.behindNumber _ >>= _) (Go.behindNumber _ >>= _)
      refine SR.bind (SR.behind ha) ?_
      rintro ρ1 k1 ⟨a, l⟩ ⟨c, l2⟩ ⟨h1, _⟩
      refine SR.bind (SR.behind (hb.mono k1)) ?_
      rintro ρ2 k2 ⟨a2, l3⟩ ⟨c2, l4⟩ ⟨h2, _⟩
      exact SR.twoPlaces (h1.mono k2)
    | _ => exact SR.dead fun _ _ _ => ⟨_, _, rfl, trivial⟩
  | string s => cases hy with
    | string => exact absurd ⟨⟨_, rfl⟩, ⟨_, rfl⟩⟩ hst
    | _ => exact SR.dead fun _ _ _ => ⟨_, _, rfl, trivial⟩
  | _ => cases hy <;> exact SR.dead fun _ _ _ => ⟨_, _, rfl, trivial⟩
set_option maxHeartbeats 1000000 in
theorem SR.bGtr {t : TypeId} {v v' y y' : Value} (hv : VR A ρ v v') (hy : VR A ρ y y') (hi : ¬ ((∃ k a, v = .int k a) ∧ ∃ k a, y = .int k a)) (hst : ¬ ((∃ a, v = .string a) ∧ ∃ a, y = .string a)) : SR P A RO ρ (VR A) (Go.binOp .gtr t v y) (Go.binOp .gtr t v' y') := by
  cases hv with
  | int k a => cases hy with
    | int => exact absurd ⟨⟨_, _, rfl⟩, ⟨_, _, rfl⟩⟩ hi
    | _ => exact SR.dead fun _ _ _ => ⟨_, _, rfl, trivial⟩
  | ptr ha => cases hy with
    | ptr hb =>
      show SR P A RO ρ (VR A) (Go.behindNumber _ >>= _) (Go.behindNumber _ >>= _)
      refine SR.bind (SR.behind ha) ?_
      rintro ρ1 k1 ⟨a, l⟩ ⟨c, l2⟩ ⟨h1, _⟩
      refine SR.bind (SR.behind (hb.mono k1)) ?_
      rintro ρ2 k2 ⟨a2, l3⟩ ⟨c2, l4⟩ ⟨h2, _⟩
      exact SR.twoPlaces (h1.mono k2)
    | _ => exact SR.dead fun _ _ _ => ⟨_, _, rfl, trivial⟩
  | string s => cases hy with
    | string => exact absurd ⟨⟨_, rfl⟩, ⟨_, rfl⟩⟩ hst
    | _ => exact SR.dead fun _ _ _ => ⟨_, _, rfl, trivial⟩
  | _ => cases hy <;> exact SR.dead fun _ _ _ => ⟨_, _, rfl, trivial⟩
set_option maxHeartbeats 1000000 in
theorem SR.bGeq {t : TypeId} {v v' y y' : Value} (hv : VR A ρ v v') (hy : VR A ρ y y') (hi : ¬ ((∃ k a, v = .int k a) ∧ ∃ k a, y = .int k a)) (hst : ¬ ((∃ a, v = .string a) ∧ ∃ a, y = .string a)) : SR P A RO ρ (VR A) (Go.binOp .geq t v y) (Go.binOp .geq t v' y') := by
  cases hv with
  | int k a => cases hy with
    | int => exact absurd ⟨⟨_, _, rfl⟩, ⟨_, _, rfl⟩⟩ hi
    | _ => exact SR.dead fun _ _ _ => ⟨_, _, rfl, trivial⟩
  | ptr ha => cases hy with
    | ptr hb =>
      show SR P A RO ρ (VR A) (Go.behindNumber _ >>= _) (Go.behindNumber _ >>= _)
      refine SR.bind (SR.behind ha) ?_
      rintro ρ1 k1 ⟨a, l⟩ ⟨c, l2⟩ ⟨h1, _⟩
      refine SR.bind (SR.behind (hb.mono k1)) ?_
      rintro ρ2 k2 ⟨a2, l3⟩ ⟨c2, l4⟩ ⟨h2, _⟩
      exact SR.twoPlaces (h1.mono k2)
    | _ => exact SR.dead fun _ _ _ => ⟨_, _, rfl, trivial⟩
  | string s => cases hy with
    | string => exact absurd ⟨⟨_, rfl⟩, ⟨_, rfl⟩⟩ hst
    | _ => exact SR.dead fun _ _ _ => ⟨_, _, rfl, trivial⟩
  | _ => cases hy <;> exact SR.dead fun _ _ _ => ⟨_, _, rfl, trivial⟩
set_option maxHeartbeats 1000000 in
theorem bEql_eq {t : TypeId} {v v' y y' : Value} (hv : VR A ρ v v') (hy : VR A ρ y y') (hi : ¬ ((∃ k a, v = .int k a) ∧ ∃ k a, y = .int k a)) (hst : ¬ ((∃ a, v = .string a) ∧ ∃ a, y = .string a)) : Go.binOp .eql t v y = (do Pure.pure (.bool (← Op.equal t v y))) ∧ Go.binOp .eql t v' y' = (do Pure.pure (.bool (← Op.equal t v' y'))) := by
  cases hv with
  | int k a => cases hy with
    | int => exact absurd ⟨⟨_, _, rfl⟩, ⟨_, _, rfl⟩⟩ hi
    | _ => exact ⟨rfl, rfl⟩
  | string s => cases hy with
    | string => exact absurd ⟨⟨_, rfl⟩, ⟨_, rfl⟩⟩ hst
    | _ => exact ⟨rfl, rfl⟩
  | _ => cases hy <;> exact ⟨rfl, rfl⟩
set_option maxHeartbeats 1000000 in
theorem bNeq_eq {t : TypeId} {v v' y y' : Value} (hv : VR A ρ v v') (hy : VR A ρ y y') (hi : ¬ ((∃ k a, v = .int k a) ∧ ∃ k a, y = .int k a)) (hst : ¬ ((∃ a, v = .string a) ∧ ∃ a, y = .string a)) : Go.binOp .neq t v y = (do Pure.pure (.bool (!(← Op.equal t v y)))) ∧ Go.binOp .neq t v' y' = (do Pure.pure (.bool (!(← Op.equal t v' y')))) := by
  cases hv with
  | int k a => cases hy with
    | int => exact absurd ⟨⟨_, _, rfl⟩, ⟨_, _, rfl⟩⟩ hi
    | _ => exact ⟨rfl, rfl⟩
  | string s => cases hy with
    | string => exact absurd ⟨⟨_, rfl⟩, ⟨_, rfl⟩⟩ hst
    | _ => exact ⟨rfl, rfl⟩
  | _ => cases hy <;> exact ⟨rfl, rfl⟩
theorem VR.ints {v v' : Value} (h : VR A ρ v v') : (∃ k a, v = .int k a) ↔ ∃ k a, v' = .int k a := by
  cases h <;> simp
theorem VR.strs {v v' : Value} (h : VR A ρ v v') : (∃ a, v = .string a) ↔ ∃ a, v' = .string a := by
  cases h <;> simp
theorem SR.binOp {op : BinOp} (ho : okBin op = true) {t : TypeId} (ht : okTy P t = true) {v v' y y' : Value} (hv : VR A ρ v v') (hy : VR A ρ y y') : SR P A RO ρ (VR A) (Go.binOp op t v y) (Go.binOp op t v' y') := by
  by_cases hi : (∃ k a, v = .int k a) ∧ ∃ k a, y = .int k a
  · obtain ⟨⟨k, a, rfl⟩, ⟨k', b, rfl⟩⟩ := hi
    cases hv; cases hy
    exact SR.flat (QP.numOp op t k k' a b (okBin_or ho))
  by_cases hst : (∃ a, v = .string a) ∧ ∃ a, y = .string a
  · obtain ⟨⟨a, rfl⟩, ⟨b, rfl⟩⟩ := hst
    cases hv; cases hy
    refine SR.flat ?_
    have : Go.binOp op t (.string a) (.string b) = Op.stringOp op a b := by cases op <;> rfl
    rw [this]
    exact bytesLessQ op
  rcases okBin_or ho with rfl | rfl | rfl | rfl | rfl | rfl | rfl | rfl | rfl
  · exact SR.bAdd ht hv hy hi hst
  · exact SR.bSub ht hv hy hi hst
  · exact SR.bMul hv hy hi hst
  · exact SR.bLss hv hy hi hst
  · exact SR.bLeq hv hy hi hst
  · exact SR.bGtr hv hy hi hst
  · exact SR.bGeq hv hy hi hst
  · rw [(bEql_eq hv hy hi hst).1, (bEql_eq hv hy hi hst).2]
    refine SR.bind (SR.equal ht hv hy) ?_
    rintro ρ1 k1 b _ rfl
    exact SR.pure (.bool b)
  · rw [(bNeq_eq hv hy hi hst).1, (bNeq_eq hv hy hi hst).2]
    refine SR.bind (SR.equal ht hv hy) ?_
    rintro ρ1 k1 b _ rfl
    exact SR.pure (.bool _)
theorem SR.guard {op : BinOp} {t : TypeId} (ht : okTy P t = true) (x y : Operand) {v v' u u' : Value} (hv : VR A ρ v v') (hu : VR A ρ u u') : SR P A RO ρ (fun _ _ _ => True) (eqGuard op t x y v u) (eqGuard op t x y v' u') := by
  have hg : P.eqGuardType P.depth t = false := by
    simp only [okTy, Bool.and_eq_true, Bool.not_eq_true'] at ht
    exact ht.1.2
  have hd' : ∀ d, P.underlying t = some d → (∃ k, d = .int k) ∨ d = .string := by
    intro d hd
    simp only [okTy, hd] at ht
    cases d <;> first | exact .inl ⟨_, rfl⟩ | exact .inr rfl | simp at ht
  have nn : QP P (Op.eqGuardIn Op.maxDepth t .nilIface .nilIface) (fun b => b = false) := by
    show QP P (Op.eqGuardIn (9999 + 1) t .nilIface .nilIface) _
    unfold Op.eqGuardIn
    refine QP.bind (QP.underlying t) fun d hd => ?_
    rcases hd' d hd with ⟨k, rfl⟩ | rfl <;> exact QP.pure rfl
  unfold eqGuard
  cases op with
  | eql | neq =>
    cases hv with
    | nilIface => cases hu with
      | nilIface =>
        cases x <;> cases y <;> first
          | exact SR.pure trivial
          | (refine SR.bind (SR.qp nn) ?_
             rintro ρ1 k1 b _ ⟨rfl, rfl⟩
             exact SR.pure trivial)
      | _ => exact SR.pure trivial
    | agg h1 h2 => cases hu with
      | agg h3 h4 =>
        refine SR.bind (SR.program (Q := fun _ a b => a = P ∧ b = P) ⟨rfl, rfl⟩) ?_
        rintro ρ1 k1 p q ⟨h5, h6⟩
        rw [h5, h6]
        refine SR.bind (SR.program (Q := fun _ a b => a = P ∧ b = P) ⟨rfl, rfl⟩) ?_
        rintro ρ2 k2 p q ⟨h5, h6⟩
        rw [h5, h6, hg]
        exact SR.pure trivial
      | _ => exact SR.pure trivial
    | _ => exact SR.pure trivial
  | _ => exact SR.pure trivial
end
end Go.Proofs.Ytjplnkkcmkpkbaa
/- The lift, 7: whatever operation is admitted ('okOp'), under evaluations that match. -/
namespace Go.Proofs.Ytjplnkkcmkpkbaa

/-- what an operation may come to -/
def NR [Sft] (A : FuncId → Prop) (ρ : Ren) : Next → Next → Prop
  | .value v, .value v' => VR A ρ v v'
  | .skip, .skip => True
  | .enter f as, .enter f' as' => f' = f ∧ A f ∧ LR A ρ as as'
  | _, _ => False
def okx (B : FuncId → Bool) : Operand → Bool
  | .tmp _ => true
  | .const v => flatB v
  | .global _ => false
  | .func f => B f
def okConv (P : Program) (s d : TypeId) : Bool := match P.underlying s, P.underlying d with
  | some .string, some (.slice el) => (match P.underlying el with | some (.int .u8) => true | _ => false)
  | _, _ => false
def okCall (P : Program) (B : FuncId → Bool) (c : Call) : Bool := c.args.all (okx B) && match c.callee with
  | .builtin .append => plainApp P c.argTypes && ztA P c.argTypes
  | .builtin .clear => ztA P c.argTypes
  | .builtin .len | .builtin .min => true
  | .value f => okx B f
  | _ => false
def okOp (P : Program) (B : FuncId → Bool) : Op → Bool
  | .move x | .assign x | .box _ x | .load _ x | .nilCheck x | .extract x _ => okx B x
  | .pick c a b => okx B c && okx B a && okx B b
  | .alloc t => zt P t
  | .build t ps => zt P t && ps.toList.all fun p => okx B p.2
  | .buildSlice t _ ps => ztE P t && ps.toList.all fun p => okx B p.2
  | .store _ a x => okx B a && okx B x
  | .binOp op t x y _ => okBin op && okTy P t && okx B x && okx B y
  | .unOp op _ x => (match op with | .not => true | _ => false) && okx B x
  | .convert s d x => okConv P s d && okx B x
  | .makeFunc fn first captured => (match fn with | .func f => B f | _ => false) && first.all (okx B) && captured.all (okx B)
  | .slice t x lo hi mx => plainSl P t && okx B x && lo.toList.all (okx B) && hi.toList.all (okx B) && mx.toList.all (okx B)
  | .fieldAddr t x i => plainFd P t i && okx B x
  | .indexAddr t x i => plainSl P t && okx B x && okx B i
  | .call c => okCall P B c
  | _ => false

section
variable [Sft] {P : Program} {B : FuncId → Bool} {RO : Nat → Prop} {ρ : Ren}
/-- evaluations that match -/
def ER (B : FuncId → Bool) (ρ : Ren) (ev ev' : Operand → Value) : Prop := ∀ x, okx B x = true → VR (fun f => B f = true) ρ (ev x) (ev' x)
theorem ER.map {ev ev' : Operand → Value} (h : ER B ρ ev ev') {xs : Array Operand} (k : xs.all (okx B) = true) : LR (fun f => B f = true) ρ (xs.map ev) (xs.map ev') := by
  refine ⟨by simp, fun i v v' e e' => ?_⟩
  rw [Array.getElem?_map] at e e'
  obtain ⟨x, hx, rfl⟩ := Option.map_eq_some_iff.1 e
  rw [hx] at e'
  cases e'
  refine h x ?_
  have := Array.all_eq_true.1 k i (Array.getElem?_eq_some_iff.1 hx).1
  rw [← (Array.getElem?_eq_some_iff.1 hx).2]; exact this
theorem ER.parts {ev ev' : Operand → Value} (h : ER B ρ ev ev') {ps : Array (Nat × Operand)} (k : (ps.toList.all fun p => okx B p.2) = true) : PL (fun f => B f = true) ρ (ps.map fun (i, x) => (i, ev x)).toList (ps.map fun (i, x) => (i, ev' x)).toList := by
  simp only [Array.toList_map]
  refine ⟨by simp [List.map_map, Function.comp_def], ?_⟩
  have : ∀ l : List (Nat × Operand), (l.all fun p => okx B p.2) = true → LL (fun f => B f = true) ρ ((l.map fun (i, x) => (i, ev x)).map (·.2)) ((l.map fun (i, x) => (i, ev' x)).map (·.2)) := by
    intro l hl
    refine ⟨by simp, fun i v v' e e' => ?_⟩
    simp only [List.map_map, List.getElem?_toArray, List.getElem?_map] at e e'
    cases hx : l[i]? with
    | none => rw [hx] at e; cases e
    | some p =>
      rw [hx] at e e'
      cases e; cases e'
      exact h p.2 (List.all_eq_true.1 hl p (List.mem_of_getElem? hx))
  exact this _ k
theorem ER.opt {ev ev' : Operand → Value} (h : ER B ρ ev ev') {o : Option Operand} (k : o.toList.all (okx B) = true) : VO (fun f => B f = true) ρ (o.map ev) (o.map ev') := by
  cases o with
  | none => exact .inl ⟨rfl, rfl⟩
  | some x => exact .inr ⟨_, _, rfl, rfl, h x (by simpa using k)⟩
theorem SR.val {α : Type} {s s' : Sem Value} (h : SR P (fun f => B f = true) RO ρ (VR (fun f => B f = true)) s s') (_ : α) : SR P (fun f => B f = true) RO ρ (NR (fun f => B f = true)) (do Pure.pure (.value (← s))) (do Pure.pure (.value (← s'))) :=
  SR.bind h fun _ _ _ _ hv => SR.pure hv
/-- what is asked of the admitted functions: each has a body -/
def HasBody (P : Program) (B : FuncId → Bool) : Prop := ∀ f, B f = true → ∃ fn, P.funcs[f]? = some fn ∧ (fn.name == "runtime.NumGoroutine") = false ∧ fn.body.isNone = false
theorem SR.callFunc (hB : HasBody P B) {f : FuncId} (hf : B f = true) {as as' : Array Value} (h : LR (fun f => B f = true) ρ as as') : SR P (fun f => B f = true) RO ρ (NR (fun f => B f = true)) (callFunc f as) (callFunc f as') := by
  unfold Go.callFunc
  refine SR.bind (SR.program (Q := fun _ a b => a = P ∧ b = P) ⟨rfl, rfl⟩) ?_
  rintro ρ1 k1 p q ⟨h5, h6⟩
  rw [h5, h6]
  obtain ⟨fn, e1, e2, e3⟩ := hB f hf
  rw [e1]
  dsimp only
  rw [e2, e3]
  exact SR.pure ⟨rfl, hf, h.mono k1⟩
theorem SR.not {v v' : Value} (h : VR (fun f => B f = true) ρ v v') : SR P (fun f => B f = true) RO ρ (VR (fun f => B f = true)) (Op.unary .not v) (Op.unary .not v') := by
  cases h <;> first | exact SR.pure (.bool _) | exact SR.dead fun _ _ _ => ⟨_, _, rfl, trivial⟩
set_option maxHeartbeats 1000000 in
theorem SR.exec (hz : FZ P) (hB : HasBody P B) {ev ev' : Operand → Value} (h : ER B ρ ev ev') {o : Oper} (ho : okOp P B o.op = true) : SR P (fun f => B f = true) RO ρ (NR (fun f => B f = true)) (execOp ev o) (execOp ev' o) := by
  obtain ⟨dst, op, type, pos, after, guard⟩ := o
  unfold execOp
  dsimp only at ho ⊢
  cases op with
  | move x => exact SR.pure (h x ho)
  | assign x => exact SR.pure (h x ho)
  | pick c a b =>
    simp only [okOp, Bool.and_eq_true] at ho
    refine SR.bind (SR.asBool (h c ho.1.1)) ?_
    rintro ρ1 k1 t _ rfl
    cases t with
    | true => exact SR.pure ((h a ho.1.2).mono k1)
    | false => exact SR.pure ((h b ho.2).mono k1)
  | alloc t => exact SR.val (SR.alloc hz t ho) ()
  | box t x => exact SR.val (SR.box (h x ho) t) ()
  | build t ps =>
    simp only [okOp, Bool.and_eq_true] at ho
    exact SR.val (SR.build hz (h.parts ho.2) t ho.1) ()
  | buildSlice t n ps =>
    simp only [okOp, Bool.and_eq_true] at ho
    exact SR.val (SR.buildSlice hz (h.parts ho.2) t n ho.1) ()
  | load t x => exact SR.val (SR.loadAt (h x ho) t) ()
  | store t a x =>
    simp only [okOp, Bool.and_eq_true] at ho
    exact SR.bind (SR.storeAt (h a ho.1) (h x ho.2) t) fun _ _ _ _ _ => SR.pure trivial
  | nilCheck x =>
    have hv := h x ho
    dsimp only
    revert hv
    generalize ev x = v
    generalize ev' x = v'
    intro hv
    cases hv with
    | pnil => exact SR.nilDeref
    | nilIface => exact SR.nilDeref
    | nilFunc => exact SR.nilDeref
    | func f h0 h1 h2 h3 h4 => exact SR.pure (VR.func f h0 h1 h2 h3 h4)
    | bool b => exact SR.pure (VR.bool b)
    | int k n => exact SR.pure (VR.int k n)
    | string s => exact SR.pure (VR.string s)
    | ptr ha => exact SR.pure (VR.ptr ha)
    | snil n k => exact SR.pure (VR.snil n k)
    | slice n k ha => exact SR.pure (VR.slice n k ha)
    | szero a => exact SR.pure (VR.szero a)
    | iface t h => exact SR.pure (VR.iface t h)
    | agg h1 h2 => exact SR.pure (VR.agg h1 h2)
    | tuple h1 h2 => exact SR.pure (VR.tuple h1 h2)
  | binOp op t x y u =>
    simp only [okOp, Bool.and_eq_true] at ho
    refine SR.val (SR.bind (SR.guard ho.1.1.2 x y (h x ho.1.2) (h y ho.2)) fun ρ1 k1 _ _ _ => ?_) ()
    exact SR.binOp ho.1.1.1 ho.1.1.2 ((h x ho.1.2).mono k1) ((h y ho.2).mono k1)
  | unOp op t x =>
    simp only [okOp, Bool.and_eq_true] at ho
    cases op with
    | not => exact SR.val (SR.not (h x ho.2)) ()
    | _ => cases ho.1
  | convert s d x =>
    simp only [okOp, Bool.and_eq_true] at ho
    have h1 := ho.1
    unfold okConv at h1
    split at h1
    · rename_i el e1 e2
      split at h1
      · rename_i e3
        exact SR.val (SR.conv e1 e2 e3 (h x ho.2)) ()
      · cases h1
    · cases h1
  | makeFunc fn first captured =>
    simp only [okOp, Bool.and_eq_true] at ho
    cases fn with
    | func f =>
      have h1 := h.map ho.1.2
      have h2 := h.map ho.2
      exact SR.val (SR.pure (VR.func f ho.1.1 h1.1 h1.2 h2.1 h2.2)) ()
    | _ => cases ho.1.1
  | slice t x lo hi mx =>
    simp only [okOp, Bool.and_eq_true] at ho
    exact SR.val (SR.sliceAt ho.1.1.1.1 (h x ho.1.1.1.2) (h.opt ho.1.1.2) (h.opt ho.1.2) (h.opt ho.2)) ()
  | fieldAddr t x i =>
    simp only [okOp, Bool.and_eq_true] at ho
    exact SR.val (SR.fieldAt ho.1 (h x ho.2)) ()
  | indexAddr t x i =>
    simp only [okOp, Bool.and_eq_true] at ho
    exact SR.val (SR.indexAt ho.1.1 (h x ho.1.2) (h i ho.2)) ()
  | extract x i => exact SR.val (SR.extract (h x ho) i) ()
  | call c =>
    obtain ⟨callee, args, ts⟩ := c
    simp only [okOp, okCall, Bool.and_eq_true] at ho
    have hargs := h.map ho.1
    cases callee with
    | builtin b =>
      cases b with
      | append =>
        rw [Bool.and_eq_true] at ho
        exact SR.val (SR.append hz ho.2.1 ho.2.2 _ hargs) ()
      | len => exact SR.val (SR.len _ _ hargs) ()
      | clear => exact SR.val (SR.clear hz _ ho.2 _ hargs) ()
      | min => exact SR.val (SR.min _ _ hargs) ()
      | _ => cases ho.2
    | value f =>
      have hf := h f ho.2
      unfold resolve
      dsimp only
      generalize ev f = u at hf
      generalize ev' f = u' at hf
      cases hf with
      | func g h0 h1 h2 h3 h4 =>
        unfold Deferred.ofValue
        dsimp only
        exact SR.callFunc hB h0 ((LR.append ⟨h1, h2⟩ hargs).append ⟨h3, h4⟩)
      | nilFunc => exact SR.nilDeref
      | _ => exact SR.dead fun _ _ _ => ⟨_, _, rfl, trivial⟩
    | invoke r m => cases ho.2
  | _ => cases ho
end
end Go.Proofs.Ytjplnkkcmkpkbaa
