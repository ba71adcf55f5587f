/- Several of my texts in one: Lf4, Lf5. -/
import Derived.Test.YtjplnkkcmkpkbaaMA03
set_option linter.unusedSimpArgs false
set_option linter.unusedVariables false
/- The lift, 4: len, clear, min, slices, places, numbers and comparisons, conversions. -/
namespace Go.Proofs.Ytjplnkkcmkpkbaa
section
variable [Sft] {P : Program} {A : FuncId → Prop} {RO : Nat → Prop} {ρ : Ren}

theorem SR.len (ts : Array TypeId) (ty : TypeId) {args args' : Array Value} (h : LR A ρ args args') : SR P A RO ρ (VR A) (Builtin.len_ ts ty args) (Builtin.len_ ts ty args') := by
  unfold Builtin.len_
  cases e0 : ts[0]? with
  | none => exact SR.stuck
  | some t =>
  cases ea : args[0]? with
  | none => rw [h.none ea]; exact SR.stuck
  | some s =>
  obtain ⟨s', ea', hs⟩ := h.get ea
  rw [ea']
  dsimp only
  refine SR.bind (SR.qp (QP.underlying t)) ?_
  rintro ρ1 h1 d _ ⟨rfl, _⟩
  have hs := hs.mono h1
  cases d with
  | pointer arr =>
    dsimp only
    have : SR P A RO ρ1 (VR A) (do
        let .array n _ ← underlying arr | Go.stuck "len: pointer to array expected"
        Pure.pure (goInt n)) (do
        let .array n _ ← underlying arr | Go.stuck "len: pointer to array expected"
        Pure.pure (goInt n)) := by
      refine SR.bind (SR.qp (QP.underlying arr)) ?_
      rintro ρ2 h2 d _ ⟨rfl, _⟩
      cases d <;> first | exact SR.stuck | exact SR.pure (.int _ _)
    cases hs <;> exact this
  | array n e => cases hs <;> exact SR.pure (.int _ _)
  | _ => cases hs <;> first | exact SR.stuck | exact SR.pure (.int _ _)
theorem SR.clear (hz : FZ P) (ts : Array TypeId) (ht : ztA P ts = true) (ty : TypeId) {args args' : Array Value} (h : LR A ρ args args') : SR P A RO ρ (VR A) (Builtin.clear_ ts ty args) (Builtin.clear_ ts ty args') := by
  unfold Builtin.clear_
  cases e0 : ts[0]? with
  | none => exact SR.stuck
  | some t =>
  cases ea : args[0]? with
  | none => rw [h.none ea]; exact SR.stuck
  | some s =>
  obtain ⟨s', ea', hs⟩ := h.get ea
  rw [ea']
  dsimp only
  refine SR.bind (SR.qp (QP.underlying t)) ?_
  rintro ρ1 h1 d _ ⟨rfl, hd0⟩
  have hs := hs.mono h1
  have st : ∀ {α : Type} {k : Unit → Sem Value} {s' : Sem Value}, SR P A RO ρ1 (VR A) ((Go.stuck "clear: map or slice expected" : Sem Unit) >>= k) s' := fun {_ _ _} => SR.halts fun w => ⟨_, w, rfl, trivial⟩
  have ok : SR P A RO ρ1 (VR A) (Pure.pure () >>= fun _ => Pure.pure (.tuple #[])) (Pure.pure () >>= fun _ => Pure.pure (.tuple #[])) := SR.pure VR.undef
  cases hs with
  | snil => exact ok
  | szero a => exact ok
  | slice n k ha =>
    cases n with
    | zero => exact ok
    | succ n =>
      cases d with
      | slice el =>
        refine SR.bind (SR.qp (QP.zeroValue hz el (ztE.el (by simpa [ztA, e0] using ht) hd0))) ?_
        rintro ρ2 h2 z _ ⟨rfl, hf⟩
        refine SR.bind (SR.storeCells _ _ ρ2 0 (ha.mono h2) (LL.of (LR.flat (Flat.zeroCells hf.cells _)))) ?_
        intro ρ3 h3 _ _ _
        exact SR.pure VR.undef
      | _ => exact SR.halts fun w => ⟨_, w, rfl, trivial⟩
  | _ => cases d <;> exact SR.halts fun w => ⟨_, w, rfl, trivial⟩
omit [Sft] in
theorem bytesLessQ {x y : ByteArray} (op : BinOp) : QP P (Op.stringOp op x y) Flat := by
  unfold Op.stringOp
  cases op <;> dsimp only <;> first | exact QP.stuck | exact QP.pure (.bool _) | skip
  split
  · exact QP.limit
  · exact QP.pure (.string _)
theorem SR.min2 {a a' b b' : Value} (ha : VR A ρ a a') (hb : VR A ρ b b') : SR P A RO ρ (VR A) (Builtin.min2 a b) (Builtin.min2 a' b') := by
  cases ha with
  | int k n => cases hb <;> first | exact SR.stuck | exact SR.observed | exact SR.pure (.int _ _)
  | string s =>
    cases hb with
    | string s2 =>
      unfold Builtin.min2
      refine SR.bind (SR.flat (bytesLessQ _)) ?_
      intro ρ1 _ v v' hv
      refine SR.bind (SR.asBool hv) ?_
      rintro ρ2 _ c _ rfl
      exact SR.pure (.string _)
    | _ => first | exact SR.stuck | exact SR.observed
  | _ => cases hb <;> first | exact SR.stuck | exact SR.observed
theorem SR.minL : ∀ (l l' : List Value) (ρ : Ren) (a a' : Value), LL A ρ l l' → VR A ρ a a' → SR P A RO ρ (VR A) (l.foldlM Builtin.min2 a) (l'.foldlM Builtin.min2 a')
  | [], l', ρ, a, a', h, ha => by rw [h.nilL]; exact SR.pure ha
  | v :: l, l', ρ, a, a', h, ha => by
    obtain ⟨v', l2, rfl, hv, hl⟩ := h.cons
    rw [List.foldlM_cons, List.foldlM_cons]
    exact SR.bind (SR.min2 ha hv) fun ρ' hle x x' hx => SR.minL l l2 ρ' x x' (hl.mono hle) hx
theorem SR.min (ts : Array TypeId) (ty : TypeId) {args args' : Array Value} (h : LR A ρ args args') : SR P A RO ρ (VR A) (Builtin.min_ ts ty args) (Builtin.min_ ts ty args') := by
  unfold Builtin.min_
  have hl := LL.of h
  cases e : args.toList with
  | nil => exact SR.stuck
  | cons v l =>
    rw [e] at hl
    obtain ⟨v', l2, e2, hv, hl⟩ := hl.cons
    rw [e2]
    exact SR.minL l l2 ρ v v' hl hv

/-! ### slices, places -/
theorem SR.sliceBound {v v' : Value} (h : VR A ρ v v') (y : Nat) (c : BoundsCode) : SR P A RO ρ (fun _ a b => a = b ∧ a ≤ y) (Instr.sliceBound v y c) (Instr.sliceBound v' y c) := by
  unfold Instr.sliceBound
  refine SR.bind (SR.intOf h) ?_
  rintro ρ1 h1 ⟨k, i⟩ _ rfl
  dsimp only
  split
  · rename_i hiy
    exact SR.pure ⟨rfl, by omega⟩
  · exact SR.boundsPanic _ _ _ _
/-- options that match -/
def VO (A : FuncId → Prop) (ρ : Ren) (a b : Option Value) : Prop := (a = none ∧ b = none) ∨ ∃ x y, a = some x ∧ b = some y ∧ VR A ρ x y
theorem VO.mono {ρ' : Ren} {a c : Option Value} (h : VO A ρ a c) (k : ∀ b c, ρ b c → ρ' b c) : VO A ρ' a c := by
  rcases h with h | ⟨x, y, h1, h2, h3⟩
  · exact .inl h
  · exact .inr ⟨x, y, h1, h2, h3.mono k⟩
theorem SR.sliceBounds (isS : Bool) (len cap : Nat) {lo lo' hi hi' mx mx' : Option Value} (h1 : VO A ρ lo lo') (h2 : VO A ρ hi hi') (h3 : VO A ρ mx mx') :
    SR P A RO ρ (fun _ a b => a = b ∧ (len = 0 → cap = 0 → a = (0, 0, 0))) (Instr.sliceBounds isS len cap lo hi mx) (Instr.sliceBounds isS len cap lo' hi' mx') := by
  have last : ∀ (ρ3 : Ren) (h m : Nat) (mx mx' : Option Value), (∀ b c, ρ b c → ρ3 b c) → (mx.isSome = mx'.isSome) → (len = 0 → cap = 0 → h = 0 ∧ m = 0) → SR P A RO ρ3 (fun _ a b => a = b ∧ (len = 0 → cap = 0 → a = (0, 0, 0))) (do
      let l ← match lo with
        | some v => Instr.sliceBound v h (if mx.isSome then .slice3C else .sliceB)
        | none => Pure.pure 0
      Pure.pure (l, h, m)) (do
      let l ← match lo' with
        | some v => Instr.sliceBound v h (if mx'.isSome then .slice3C else .sliceB)
        | none => Pure.pure 0
      Pure.pure (l, h, m)) := by
    intro ρ3 h m mx mx' k e hz
    rw [e]
    rcases h1.mono k with ⟨rfl, rfl⟩ | ⟨x, y, rfl, rfl, hx⟩
    · exact SR.pure ⟨rfl, fun a b => by rw [(hz a b).1, (hz a b).2]⟩
    · dsimp only
      refine SR.bind (SR.sliceBound hx _ _) ?_
      rintro _ _ _ _ ⟨rfl, hle⟩
      exact SR.pure ⟨rfl, fun a b => by
        obtain ⟨e1, e2⟩ := hz a b
        subst e1; subst e2
        rw [Nat.le_zero.1 hle]⟩
  unfold Instr.sliceBounds
  rcases h3 with ⟨rfl, rfl⟩ | ⟨x, y, rfl, rfl, hx⟩
  · dsimp only
    refine SR.bind (Q := fun _ a b => a = b ∧ a = cap) (SR.pure ⟨rfl, rfl⟩) ?_
    rintro ρ1 k1 m _ ⟨rfl, hm⟩
    rcases h2.mono k1 with ⟨rfl, rfl⟩ | ⟨u, v, rfl, rfl, hu⟩
    · dsimp only
      refine SR.bind (Q := fun _ a b => a = b ∧ a = len) (SR.pure ⟨rfl, rfl⟩) ?_
      rintro ρ2 k2 h _ ⟨rfl, hh⟩
      exact last ρ2 h m none none (fun b c z => k2 _ _ (k1 _ _ z)) rfl fun a b => ⟨by omega, by omega⟩
    · dsimp only
      refine SR.bind (SR.sliceBound hu _ _) ?_
      rintro ρ2 k2 h _ ⟨rfl, hh⟩
      exact last ρ2 h m none none (fun b c z => k2 _ _ (k1 _ _ z)) rfl fun a b => ⟨by omega, by omega⟩
  · dsimp only
    refine SR.bind (SR.sliceBound hx _ _) ?_
    rintro ρ1 k1 m _ ⟨rfl, hm⟩
    rcases h2.mono k1 with ⟨rfl, rfl⟩ | ⟨u, v, rfl, rfl, hu⟩
    · exact SR.bind (Q := fun _ _ _ => False) SR.stuck fun _ _ _ _ h => h.elim
    · dsimp only
      refine SR.bind (SR.sliceBound hu _ _) ?_
      rintro ρ2 k2 h _ ⟨rfl, hh⟩
      exact last ρ2 h m (some x) (some y) (fun b c z => k2 _ _ (k1 _ _ z)) rfl fun a b => ⟨by omega, by omega⟩
/-- slices of slices alone -/
def plainSl (P : Program) (t : TypeId) : Bool := match P.underlying t with
  | some (.slice _) => true
  | _ => false
theorem SR.sliceAt {t : TypeId} (ht : plainSl P t = true) {v v' : Value} (h : VR A ρ v v') {lo lo' hi hi' mx mx' : Option Value} (h1 : VO A ρ lo lo') (h2 : VO A ρ hi hi') (h3 : VO A ρ mx mx') :
    SR P A RO ρ (VR A) (Instr.sliceAt t v lo hi mx) (Instr.sliceAt t v' lo' hi' mx') := by
  unfold Instr.sliceAt
  refine SR.bind (SR.qp (QP.underlying t)) ?_
  rintro ρ1 k1 d _ ⟨rfl, hd⟩
  have hd' : ∃ el, d = .slice el := by
    simp only [plainSl, hd] at ht
    cases d <;> first | exact ⟨_, rfl⟩ | cases ht
  obtain ⟨el, rfl⟩ := hd'
  dsimp only
  unfold Instr.slice
  refine SR.bind (SR.qp (QP.underlying t)) ?_
  rintro ρ2 k2 d _ ⟨rfl, hd2⟩
  rw [hd] at hd2
  cases hd2
  have hv := (h.mono k1).mono k2
  rcases hv.asSlice with ⟨base, base', n, k, rfl, rfl, hb⟩ | hno
  · dsimp only
    refine SR.bind (SR.sliceBounds true n k ((h1.mono k1).mono k2) ((h2.mono k1).mono k2) ((h3.mono k1).mono k2)) ?_
    rintro ρ3 k3 ⟨l, hh, m⟩ _ ⟨rfl, hz⟩
    dsimp only
    refine SR.bind (SR.qp (QP.sizeOf el)) ?_
    rintro ρ4 k4 size _ ⟨rfl, _⟩
    rcases (hb.mono k3).mono k4 with ⟨rfl, rfl⟩ | ⟨x, y, rfl, rfl, hx⟩ | ⟨x, rfl, rfl, rfl, rfl⟩
    · split <;> exact SR.pure (.snil _ _)
    · split
      · exact SR.pure (.slice _ _ hx)
      · exact SR.pure (.slice _ _ (hx.add _))
    · have e := hz rfl rfl
      simp only [Prod.mk.injEq] at e
      obtain ⟨rfl, rfl, rfl⟩ := e
      exact SR.pure (.szero _)
  · cases hv <;> first | exact SR.stuck | exact absurd rfl (hno _ _ _)
/-- a field that is not empty -/
def plainFd (P : Program) (t : TypeId) (i : Nat) : Bool := match P.underlying t with
  | some (.struct fs) => match fs[i]? with
    | some f => match P.info? f.type with
      | some j => j.size != 0
      | none => true
    | none => true
  | _ => true
omit [Sft] in
theorem QP.sizeOf' (t : TypeId) : QP P (Go.sizeOf t) (fun n => ∃ i, P.info? t = some i ∧ i.size = n) := by
  unfold Go.sizeOf
  exact QP.bind (QP.typeInfo t) fun i hi => QP.pure ⟨i, hi, rfl⟩
theorem SR.fieldAt {t : TypeId} {i : Nat} (ht : plainFd P t i = true) {v v' : Value} (h : VR A ρ v v') : SR P A RO ρ (VR A) (Instr.fieldAt t v i) (Instr.fieldAt t v' i) := by
  unfold Instr.fieldAt
  refine SR.bind (SR.qp (QP.underlying t)) ?_
  rintro ρ1 k1 d _ ⟨rfl, hd⟩
  cases d with
  | struct fs =>
    dsimp only
    cases hf : fs[i]? with
    | none => exact SR.stuck
    | some f =>
      dsimp only
      refine SR.bind (SR.asAddr (h.mono k1)) ?_
      intro ρ2 k2 a c hac
      unfold fieldPlace
      rw [LawfulMonad.bind_assoc, LawfulMonad.bind_assoc]
      refine SR.bind (SR.qp (QP.sizeOf' f.type)) ?_
      rintro ρ3 k3 n _ ⟨rfl, j, hj, rfl⟩
      have hn : j.size ≠ 0 := by simpa [plainFd, hd, hf, hj] using ht
      rw [if_neg hn, if_neg hn]
      exact SR.pure (.ptr ((hac.mono k3).add _))
  | _ => exact SR.stuck
theorem SR.indexAt {t : TypeId} (ht : plainSl P t = true) {v v' x x' : Value} (h : VR A ρ v v') (hx : VR A ρ x x') : SR P A RO ρ (VR A) (Instr.indexAt t v x) (Instr.indexAt t v' x') := by
  unfold Instr.indexAt
  refine SR.bind (SR.intOf hx) ?_
  rintro ρ1 k1 ⟨k, i⟩ _ rfl
  dsimp only
  refine SR.bind (SR.qp (QP.underlying t)) ?_
  rintro ρ2 k2 d _ ⟨rfl, hd⟩
  have hd' : ∃ el, d = .slice el := by
    simp only [plainSl, hd] at ht
    cases d <;> first | exact ⟨_, rfl⟩ | cases ht
  obtain ⟨el, rfl⟩ := hd'
  have hv := (h.mono k1).mono k2
  rcases hv.asSlice with ⟨base, base', n, k, rfl, rfl, hb⟩ | hno
  · dsimp only
    refine SR.bind (Q := fun ρ' p q => BR ρ' p.2.1 k p.1 q.1 ∧ p.2 = q.2 ∧ p.2.2 = el) (SR.pure ⟨hb, rfl, rfl⟩) ?_
    rintro ρ3 k3 ⟨b1, n1, e1⟩ ⟨b2, n2, e2⟩ ⟨hb, e, rfl⟩
    simp only [Prod.mk.injEq] at e
    obtain ⟨rfl, rfl⟩ := e
    dsimp only
    refine SR.bind (SR.qp (QP.underlying t)) ?_
    rintro ρ4 k4 d _ ⟨rfl, hd2⟩
    rw [hd] at hd2
    cases hd2
    simp only [Bool.and_false, Bool.false_eq_true, if_false]
    rcases hb.mono k4 with ⟨rfl, rfl⟩ | ⟨x, y, rfl, rfl, hx⟩ | ⟨x, rfl, rfl, rfl, rfl⟩
    · exact SR.boundsPanic _ _ _ _
    rotate_left
    · dsimp only
      rw [if_neg (by omega)]
      exact SR.boundsPanic _ _ _ _
    · dsimp only
      split
      · refine SR.bind (SR.qp (QP.sizeOf _)) ?_
        rintro ρ5 k5 size _ ⟨rfl, _⟩
        exact SR.pure (.ptr ((hx.mono k5).add _))
      · exact SR.boundsPanic _ _ _ _
  · cases hv <;> first | exact absurd rfl (hno _ _ _) | (exact SR.bind (Q := fun _ _ _ => False) SR.stuck fun _ _ _ _ h => h.elim)
theorem SR.extract {v v' : Value} (h : VR A ρ v v') (i : Nat) : SR P A RO ρ (VR A) (Instr.extract v i) (Instr.extract v' i) := by
  cases h with
  | tuple h1 h2 =>
    unfold Instr.extract
    dsimp only
    have hl : LR A ρ _ _ := ⟨h1, h2⟩
    cases e : (_ : Array Value)[i]? with
    | none => rw [hl.none e]; exact SR.stuck
    | some u =>
      obtain ⟨u', e', hu⟩ := hl.get e
      rw [e']; exact SR.pure hu
  | _ => exact SR.stuck
theorem SR.conv {s d : TypeId} {el : TypeId} (hs : P.underlying s = some .string) (hd : P.underlying d = some (.slice el)) (he : P.underlying el = some (.int .u8)) {v v' : Value} (h : VR A ρ v v') :
    SR P A RO ρ (VR A) (convert s d v) (convert s d v') := by
  unfold convert
  refine SR.bind (SR.qp (QP.underlying s)) ?_
  rintro ρ1 k1 x _ ⟨rfl, e1⟩
  rw [hs] at e1; cases e1
  refine SR.bind (SR.qp (QP.underlying d)) ?_
  rintro ρ2 k2 x _ ⟨rfl, e2⟩
  rw [hd] at e2; cases e2
  cases (h.mono k1).mono k2 with
  | string b =>
    dsimp only
    refine SR.bind (SR.qp (QP.underlying el)) ?_
    rintro ρ3 k3 x _ ⟨rfl, e3⟩
    rw [he] at e3; cases e3
    dsimp only
    unfold Conv.stringToBytes
    refine SR.bind (SR.choose (Q := fun _ a b => a = b) _ fun _ => rfl) ?_
    rintro ρ4 k4 c _ rfl
    dsimp only
    refine SR.bind (SR.newRow el (LR.flat ?_)) ?_
    · intro i u e
      rw [Array.getElem?_append] at e
      split at e
      · rw [Array.getElem?_map] at e
        obtain ⟨_, _, rfl⟩ := Option.map_eq_some_iff.1 e
        exact .int _ _
      · rw [Array.getElem?_replicate] at e
        split at e
        · cases e; exact .int _ _
        · cases e
    · rintro ρ5 k5 a a' ⟨ha, hr, _, hs0⟩
      refine SR.bind (Q := fun _ _ _ => True) ?_ ?_
      · unfold markStringish
        refine SR.bind (SR.shape ha.blk) ?_
        rintro ρ6 k6 o _ (⟨rfl, _⟩ | ⟨hro, _⟩)
        · cases o with
          | none => exact SR.pure trivial
          | some p => exact SR.freeze ⟨k6 _ _ ha.blk, by simp only [hs0, Nat.add_zero], rfl⟩ hr
        · exact absurd hro hr
      · intro ρ6 k6 _ _ _
        exact SR.pure (.slice _ _ (ha.mono k6))
  | _ => first | exact SR.noEntry | exact SR.stuck | exact SR.halts fun w => ⟨_, w, rfl, trivial⟩
end
end Go.Proofs.Ytjplnkkcmkpkbaa
/- The lift, 5: numbers and comparisons; calls; whatever operation is admitted. -/
namespace Go.Proofs.Ytjplnkkcmkpkbaa
section
variable [Sft] {P : Program} {A : FuncId → Prop} {RO : Nat → Prop} {ρ : Ren}

theorem SR.numberAt {b c : Nat} (h : ρ b c) : SR P A RO ρ (fun ρ' x y => (x = none ∧ y = none) ∨ ∃ a a' l, x = some (a, l) ∧ y = some (a', l) ∧ AR ρ' a a') (Go.numberAt b) (Go.numberAt c) := by
  unfold Go.numberAt
  refine SR.bind (SR.shape h) ?_
  rintro ρ1 k1 o _ (⟨rfl, _⟩ | ⟨_, e, n, m, k, rfl, rfl, _⟩)
  rotate_left
  · exact SR.pure (.inl ⟨rfl, rfl⟩)
  split
  · exact SR.pure (.inl ⟨rfl, rfl⟩)
  · refine SR.bind (SR.getObj (k1 _ _ h)) ?_
    rintro ρ2 k2 _ _ ⟨a, a', l, rfl, rfl, ha⟩
    exact SR.pure (.inr ⟨a, a', l, rfl, rfl, ha⟩)
theorem SR.behind {a c : Addr} (h : AR ρ a c) : SR P A RO ρ (fun ρ' p q => AR ρ' p.1 q.1 ∧ p.2 = q.2) (Go.behindNumber a) (Go.behindNumber c) := by
  unfold Go.behindNumber
  refine SR.bind (SR.numberAt h.blk) ?_
  rintro ρ1 k1 x y (⟨rfl, rfl⟩ | ⟨a1, a2, l, rfl, rfl, ha⟩)
  · exact SR.pure ⟨h.mono k1, rfl⟩
  · exact SR.pure ⟨ha, rfl⟩
theorem SR.viewAt {b c : Nat} (h : ρ b c) : SR P A RO ρ (fun _ x y => x = none ∧ y = none) (Go.viewAt b) (Go.viewAt c) := by
  unfold Go.viewAt
  refine SR.bind (SR.shape h) ?_
  rintro ρ1 k1 o _ (⟨rfl, _⟩ | ⟨_, e, n, m, k, rfl, rfl, _⟩)
  rotate_left
  · exact SR.pure ⟨rfl, rfl⟩
  split
  · exact SR.pure ⟨rfl, rfl⟩
  · refine SR.bind (SR.getObj (k1 _ _ h)) ?_
    rintro ρ2 k2 _ _ ⟨a, a', l, rfl, rfl, ha⟩
    exact SR.pure ⟨rfl, rfl⟩
theorem SR.unsafeP {α β : Type} {Q : Ren → α → β → Prop} {why : String} {s' : Sem β} : SR P A RO ρ Q (Go.unsupported (.unsafePointer why) : Sem α) s' := SR.halts fun w => ⟨_, w, rfl, trivial⟩
theorem SR.unsafeAdd (ts : Array TypeId) (t : TypeId) {a c : Addr} (h : AR ρ a c) {y y' : Value} (hy : VR A ρ y y') : SR P A RO ρ (fun ρ' v v' => ∃ x x', v = .pointer (some x) ∧ v' = .pointer (some x') ∧ AR ρ' x x')
    (Builtin.unsafeAdd_ ts t #[.pointer (some a), y]) (Builtin.unsafeAdd_ ts t #[.pointer (some c), y']) := by
  unfold Builtin.unsafeAdd_
  dsimp only
  refine SR.bind (SR.asInt hy) ?_
  rintro ρ1 k1 n _ rfl
  have h1 := h.mono k1
  have rest : ∀ ρ2, (∀ b c, ρ1 b c → ρ2 b c) → SR P A RO ρ2 (fun ρ' v v' => ∃ x x', v = .pointer (some x) ∧ v' = .pointer (some x') ∧ AR ρ' x x') (do
      let some (e, cells) ← Go.shape a.block | Go.unsupported (.unsafePointer "Add")
      let p ← Go.program
      match cellAtBytes p p.depth e (cells / p.cellsOf e) a.off n with
      | some off => Pure.pure (Value.pointer (some { a with off }))
      | none => Go.unsupported (.unsafePointer "Add")) (do
      let some (e, cells) ← Go.shape c.block | Go.unsupported (.unsafePointer "Add")
      let p ← Go.program
      match cellAtBytes p p.depth e (cells / p.cellsOf e) c.off n with
      | some off => Pure.pure (Value.pointer (some { c with off }))
      | none => Go.unsupported (.unsafePointer "Add")) := by
    intro ρ2 k2
    have h2 := h1.mono k2
    refine SR.bind (SR.shape h2.blk) ?_
    have nowhere : ∀ (e : TypeId) (cells off : Nat), P.cellsOf e = 0 → cellAtBytes P P.depth e cells off n = none := fun e cells off h => by
      unfold cellAtBytes
      simp [h]
    rintro ρ3 k3 o o' ho
    by_cases hsh : ∃ e n m k, o = some (e, n) ∧ o' = some (m, k) ∧ P.cellsOf e = 0
    · obtain ⟨e, n, m, k, rfl, rfl, he⟩ := hsh
      dsimp only
      refine SR.bind (SR.program (Q := fun _ a b => a = P ∧ b = P) ⟨rfl, rfl⟩) ?_
      rintro ρ4 k4 p q ⟨h5, h6⟩
      rw [h5, h6, nowhere _ _ _ he]
      exact SR.unsafeP
    obtain ⟨rfl, hs0⟩ : o = o' ∧ Sft.sh a.block = 0 := ho.resolve_right fun h => hsh h.2
    cases o with
    | none => exact SR.unsafeP
    | some p =>
      obtain ⟨e, cells⟩ := p
      dsimp only
      refine SR.bind (SR.program (Q := fun _ a b => a = P ∧ b = P) ⟨rfl, rfl⟩) ?_
      rintro ρ4 k4 p q ⟨h5, h6⟩
      rw [h5, h6, h2.off, hs0, Nat.add_zero]
      cases cellAtBytes P P.depth e (cells / P.cellsOf e) a.off n with
      | none => exact SR.unsafeP
      | some off => exact SR.pure ⟨_, _, rfl, rfl, ⟨k4 _ _ (k3 _ _ h2.blk), by simp only [hs0, Nat.add_zero], h2.spot⟩⟩
  split
  · refine SR.bind (SR.viewAt h1.blk) ?_
    rintro ρ2 k2 _ _ ⟨rfl, rfl⟩
    exact SR.pure ⟨_, _, rfl, rfl, h1.mono k2⟩
  · split
    · exact SR.bind (Q := fun _ _ _ => False) SR.unsafeP fun _ _ _ _ h => h.elim
    · exact rest ρ1 fun _ _ h => h
/-- types of integers and strings, no copyChecker -/
def okTy (P : Program) (t : TypeId) : Bool := (match P.underlying t with
  | some (.int _) => true
  | some .string => true
  | _ => false) && !(P.eqGuardType P.depth t) && (match P.info? t with
  | some i => (match i.desc with | .named "sync.copyChecker" _ => false | _ => true)
  | none => true)
theorem SR.movedN {t : TypeId} (ht : okTy P t = true) {v v' y y' : Value} (hv : VR A ρ v v') (hp : ∃ a, v = .pointer a) (hy : VR A ρ y y') : SR P A RO ρ (VR A) (movedNumber t v y) (movedNumber t v' y') := by
  have hd' : ∀ d, P.underlying t = some d → (∃ k, d = .int k) ∨ d = .string := by
    intro d hd
    simp only [okTy, hd] at ht
    cases d <;> first | exact .inl ⟨_, rfl⟩ | exact .inr rfl | simp at ht
  cases hv with
  | pnil =>
    unfold movedNumber
    refine SR.bind (SR.qp (QP.underlying t)) ?_
    rintro ρ1 k1 d _ ⟨rfl, hd⟩
    have fin : SR P A RO ρ1 (VR A) (Builtin.unsafeAdd_ #[] t #[.pointer none, y]) (Builtin.unsafeAdd_ #[] t #[.pointer none, y']) := by
      unfold Builtin.unsafeAdd_
      dsimp only
      refine SR.bind (SR.asInt (hy.mono k1)) ?_
      rintro ρ2 k2 n _ rfl
      split
      · exact SR.unsafeP
      · split
        · exact SR.bind (Q := fun _ _ _ => False) SR.unsafeP fun _ _ _ _ h => h.elim
        · exact SR.unsafeP
    rcases hd' d hd with ⟨k, rfl⟩ | rfl <;> exact fin
  | @ptr a0 c0 ha =>
    unfold movedNumber
    refine SR.bind (SR.qp (QP.underlying t)) ?_
    rintro ρ1 k1 d _ ⟨rfl, hd⟩
    have fin : SR P A RO ρ1 (VR A) (do
        let (a, lost) ← Go.behindNumber a0
        match ← Builtin.unsafeAdd_ #[] t #[.pointer (some a), y] with
        | .pointer (some b) => asNumber b lost
        | v => Pure.pure v) (do
        let (a, lost) ← Go.behindNumber c0
        match ← Builtin.unsafeAdd_ #[] t #[.pointer (some a), y'] with
        | .pointer (some b) => asNumber b lost
        | v => Pure.pure v) := by
      refine SR.bind (SR.behind (ha.mono k1)) ?_
      rintro ρ2 k2 ⟨a, l⟩ ⟨c, l2⟩ ⟨hac, hl⟩
      cases hl
      dsimp only
      refine SR.bind (SR.unsafeAdd _ t hac ((hy.mono k1).mono k2)) ?_
      rintro ρ3 k3 _ _ ⟨x, x', rfl, rfl, hx⟩
      dsimp only
      unfold asNumber
      refine SR.bind (SR.newObj (.inr ⟨_, _, _, rfl, rfl, hx⟩)) ?_
      rintro ρ4 k4 b b' ⟨h1, _, hs0⟩
      exact SR.pure (.ptr ⟨h1, by simp only [hs0], rfl⟩)
    rcases hd' d hd with ⟨k, rfl⟩ | rfl <;> exact fin
  | _ => obtain ⟨a, e⟩ := hp; cases e
theorem SR.twoPlaces {α β : Type} {Q : Ren → α → β → Prop} {a b c : Addr} (ha : AR ρ a c) {k : Nat × Nat → Sem α} {s' : Sem β} : SR P A RO ρ Q (Op.twoPlaces a b >>= k) s' := by
  intro wL wC es hw
  have hb := hw.big _ _ ha.blk
  have e : (Op.twoPlaces a b).run P wL = .halt (.unsupported .addressObserved) wL := by
    unfold Op.twoPlaces
    simp only [Sem.run_bind]
    rw [show Go.program.run P wL = .ok P wL from rfl]
    simp only [Result.andThen_ok]
    rw [if_pos (by simp; omega)]
    rfl
  rw [Sem.run_bind, e]
  exact trivial
theorem SR.dead {α β : Type} {Q : Ren → α → β → Prop} {s : Sem α} {s' : Sem β} (h : ∀ wL wC, WR A P RO ρ wL wC → ∃ x w', s.run P wL = .halt x w' ∧ Deadly x) : SR P A RO ρ Q s s' := by
  intro wL wC es hw
  obtain ⟨x, w', e, hd⟩ := h wL wC hw
  rw [e]
  cases x <;> first | exact hd | exact hd.elim
theorem SR.equal {t : TypeId} (ht : okTy P t = true) {v v' y y' : Value} (hv : VR A ρ v v') (hy : VR A ρ y y') : SR P A RO ρ (fun _ a b => a = b) (Op.equal t v y) (Op.equal t v' y') := by
  unfold Op.equal
  show SR P A RO ρ _ (Op.equalIn (9999 + 1) t v y) (Op.equalIn (9999 + 1) t v' y')
  unfold Op.equalIn
  refine SR.bind (SR.qp (QP.underlying t)) ?_
  rintro ρ1 k1 d _ ⟨rfl, hd⟩
  have hv := hv.mono k1
  have hy := hy.mono k1
  have hd' : (∃ k, d = .int k) ∨ d = .string := by
    simp only [okTy, hd] at ht
    cases d <;> first | exact .inl ⟨_, rfl⟩ | exact .inr rfl | simp at ht
  have hcc : ∀ i, P.info? t = some i → ∀ u, i.desc ≠ .named "sync.copyChecker" u := fun i hi u hu => by
    simp only [okTy, hi, hu] at ht
    simp at ht
  rcases hd' with ⟨k, rfl⟩ | rfl
  · cases hv with
    | int k1 n => cases hy with
      | int k2 m =>
        dsimp only
        split
        · exact SR.pure rfl
        · exact SR.stuck
      | ptr ha =>
        by_cases hn : n = 0
        · subst hn; exact SR.pure rfl
        · refine SR.halts fun w => ?_
          cases n with
          | ofNat n => cases n with
            | zero => exact absurd rfl hn
            | succ n => exact ⟨_, w, rfl, trivial⟩
          | negSucc n => exact ⟨_, w, rfl, trivial⟩
      | _ => first | exact SR.stuck | exact SR.observed
    | ptr ha => cases hy with
      | int k2 m =>
        by_cases hn : m = 0
        · subst hn; exact SR.pure rfl
        · refine SR.halts fun w => ?_
          cases m with
          | ofNat n => cases n with
            | zero => exact absurd rfl hn
            | succ n => exact ⟨_, w, rfl, trivial⟩
          | negSucc n => exact ⟨_, w, rfl, trivial⟩
      | ptr hb =>
        dsimp only
        refine SR.bind (SR.behind ha) ?_
        rintro ρ2 k2 ⟨a1, l1⟩ ⟨c1, l2⟩ ⟨h1, rfl⟩
        refine SR.bind (SR.behind (hb.mono k2)) ?_
        rintro ρ3 k3 ⟨a2, l3⟩ ⟨c2, l4⟩ ⟨h2, rfl⟩
        dsimp only
        refine SR.dead fun wL wC hw => ?_
        have hbig : P.globals.size ≤ a1.block := hw.big _ _ (h1.mono k3).blk
        rw [Sem.run_bind, show Go.program.run P wL = .ok P wL from rfl, Result.andThen_ok]
        rw [if_neg (by simp; omega)]
        rw [Sem.run_bind]
        cases hi : P.info? t with
        | none =>
          have : (typeInfo t).run P wL = .halt (.stuck "no such type") wL := by unfold typeInfo; rw [Sem.run_bind, show Go.program.run P wL = .ok P wL from rfl, Result.andThen_ok, hi]; rfl
          rw [this]; exact ⟨_, _, rfl, trivial⟩
        | some i =>
          have : (typeInfo t).run P wL = .ok i wL := by unfold typeInfo; rw [Sem.run_bind, show Go.program.run P wL = .ok P wL from rfl, Result.andThen_ok, hi]; rfl
          rw [this, Result.andThen_ok]
          have hne := hcc i hi
          split
          · rename_i u heq; exact absurd heq (hne u)
          · exact ⟨_, _, rfl, trivial⟩
      | _ => first | exact SR.stuck | exact SR.observed
    | _ => cases hy <;> first | exact SR.stuck | exact SR.observed
  · cases hv with
    | string s => cases hy with
      | string s2 => exact SR.pure rfl
      | _ => exact SR.stuck
    | _ => cases hy <;> exact SR.stuck
end
end Go.Proofs.Ytjplnkkcmkpkbaa
