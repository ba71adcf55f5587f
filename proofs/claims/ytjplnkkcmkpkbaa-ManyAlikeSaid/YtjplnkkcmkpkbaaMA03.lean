/- Several of my texts in one: Lf3. -/
import Derived.Test.YtjplnkkcmkpkbaaMA02
set_option linter.unusedSimpArgs false
set_option linter.unusedVariables false
/- The lift, 3: more kinds of operation: composites, append, slices, places, comparisons, conversions. -/
namespace Go.Proofs.Ytjplnkkcmkpkbaa
section
variable [Sft] {P : Program} {A : FuncId → Prop} {RO : Nat → Prop} {ρ : Ren}

omit [Sft] in
theorem Flat.getBang {x : Array Value} (h : ∀ (i : Nat) v, x[i]? = some v → Flat v) (k : Nat) : Flat x[k]! := by
  rw [Array.getElem!_eq_getD, Array.getD_eq_getD_getElem?]
  cases e : x[k]? with
  | none => exact .bool false
  | some v => exact h k v e
omit [Sft] in
theorem LR.flatMapRange {x : Array Value} (h : ∀ (i : Nat) v, x[i]? = some v → Flat v) (n : Nat) : ∀ (i : Nat) v, ((Array.range n).map (x[· % x.size]!))[i]? = some v → Flat v := by
  intro i v e
  rw [Array.getElem?_map] at e
  obtain ⟨k, _, rfl⟩ := Option.map_eq_some_iff.1 e
  exact Flat.getBang h _
theorem SR.buildSlice (hz : FZ P) {l l' : Array (Nat × Value)} (h : PL A ρ l.toList l'.toList) (t : TypeId) (n : Nat) (ht : ztE P t = true) : SR P A RO ρ (VR A) (Instr.buildSlice t n l) (Instr.buildSlice t n l') := by
  unfold Instr.buildSlice
  refine SR.bind (SR.qp (QP.underlying t)) ?_
  rintro ρ1 h1 d _ ⟨rfl, hd⟩
  cases d with
  | slice el =>
    simp only []
    refine SR.bind (SR.qp (QP.sizeOf el)) ?_
    rintro ρ2 h2 size _ ⟨rfl, _⟩
    have fin : ∀ (ρ3 : Ren), (∀ b c, ρ2 b c → ρ3 b c) → ∀ zero : Array Value, (∀ (i : Nat) v, zero[i]? = some v → Flat v) → SR P A RO ρ3 (VR A)
          (match Instr.fill (fun i => some (i * size, size)) ((Array.range (n * size)).map (zero[· % zero.size]!)) l.toList with
            | some cells => do Pure.pure (.slice (some (← Go.newRow el cells)) n n)
            | _ => Go.stuck "buildSlice: a part of the wrong size")
          (match Instr.fill (fun i => some (i * size, size)) ((Array.range (n * size)).map (zero[· % zero.size]!)) l'.toList with
            | some cells => do Pure.pure (.slice (some (← Go.newRow el cells)) n n)
            | _ => Go.stuck "buildSlice: a part of the wrong size") := by
      intro ρ3 h3 zero hf
      have := fill_lr (A := A) (ρ := ρ3) (fun i => some (i * size, size)) l.toList l'.toList _ _ (((h.mono h1).mono h2).mono h3) (LR.flat (LR.flatMapRange hf (n * size)))
      cases e : Instr.fill (fun i => some (i * size, size)) ((Array.range (n * size)).map (zero[· % zero.size]!)) l.toList with
      | none => exact SR.stuck
      | some y =>
        rw [e] at this
        obtain ⟨y', e', hy⟩ := this
        rw [e']
        exact SR.bind (SR.newRow el hy) fun _ _ _ _ h => SR.pure (.slice _ _ h.1)
    split
    · exact SR.bind (Q := fun _ _ _ => False) SR.limit fun _ _ _ _ h => h.elim
    · split
      · refine SR.bind (Q := fun _ a b => a = b ∧ a = #[]) (SR.pure ⟨rfl, rfl⟩) ?_
        rintro ρ3 h3 z _ ⟨rfl, rfl⟩
        exact fin ρ3 h3 #[] fun i v e => by simp at e
      · refine SR.bind (SR.qp (QP.zeroValue hz el (ztE.el ht hd))) ?_
        rintro ρ3 h3 z _ ⟨rfl, hf⟩
        refine SR.bind (Q := fun _ a b => a = b ∧ a = z.cells) (SR.pure ⟨rfl, rfl⟩) ?_
        rintro ρ4 h4 _ _ ⟨rfl, rfl⟩
        exact fin ρ4 (fun b c x => h4 _ _ (h3 _ _ x)) _ hf.cells
  | _ => exact SR.stuck

/-! ### append, len, clear, min -/
theorem SR.lenOf {v v' : Value} (h : VR A ρ v v') : SR P A RO ρ (fun _ a b => a = b ∧ ∀ x c, v = .slice x 0 c → a = 0) (Builtin.lenOf v) (Builtin.lenOf v') := by
  cases h <;> first | exact SR.stuck | exact SR.pure ⟨rfl, fun x c e => by cases e; rfl⟩ | exact SR.pure ⟨rfl, fun x c e => by cases e⟩
theorem SR.firstCells {v v' : Value} (h : VR A ρ v v') (size n : Nat) (hn : ∀ a, v = .slice (some a) 0 0 → n = 0) : SR P A RO ρ (fun ρ' x y => LR A ρ' x y ∧ (n = 0 → y = #[])) (Builtin.firstCells size n v) (Builtin.firstCells size n v') := by
  by_cases h0 : n = 0
  · subst h0
    cases h with
    | string s =>
      have es : ((s.extract 0 0).data.map fun b => (Value.int .u8 b.toNat)) = #[] := by
        have : s.extract 0 0 = ByteArray.empty := by simp
        rw [this]; simp
      show SR P A RO ρ _ (Pure.pure _) (Pure.pure _)
      rw [es]
      exact SR.pure ⟨LR.nil, fun _ => rfl⟩
    | snil => exact SR.pure ⟨LR.nil, fun _ => rfl⟩
    | slice _ _ ha =>
      show SR P A RO ρ _ (Go.loadCells _ (0 * size)) (Go.loadCells _ (0 * size))
      rw [Nat.zero_mul]
      exact SR.pure ⟨LR.nil, fun _ => rfl⟩
    | szero a =>
      show SR P A RO ρ _ (Go.loadCells _ (0 * size)) (Go.loadCells _ (0 * size))
      rw [Nat.zero_mul]
      exact SR.pure ⟨LR.nil, fun _ => rfl⟩
    | _ => exact SR.stuck
  · refine SR.mono (Q := fun ρ' x y => LR A ρ' x y) ?_ fun _ _ _ _ h => ⟨h, fun e => absurd e h0⟩
    cases h with
    | snil => exact SR.pure LR.nil
    | slice _ _ ha => exact SR.loadCells ha _
    | szero a => exact absurd (hn a rfl) h0
    | string s => exact SR.pure (LR.flat fun i v e => by
        rw [Array.getElem?_map] at e
        obtain ⟨k, _, rfl⟩ := Option.map_eq_some_iff.1 e
        exact .int _ _)
    | _ => exact SR.stuck
omit [Sft] in
theorem Flat.zeroCells {x : Array Value} (h : ∀ (i : Nat) v, x[i]? = some v → Flat v) (n : Nat) : ∀ (i : Nat) v, (Builtin.zeroCells x n)[i]? = some v → Flat v := by
  intro i v e
  unfold Builtin.zeroCells at e
  rw [Array.getElem?_map] at e
  obtain ⟨k, _, rfl⟩ := Option.map_eq_some_iff.1 e
  exact Flat.getBang h _
omit [Sft] in
theorem holds_ok (a : Addr) (n : Nat) (w : World) : ∃ b, (Builtin.holdsCells a n).run P w = .ok b w := by
  unfold Builtin.holdsCells
  rw [Sem.run_bind, run_shape, Result.andThen_ok]
  cases w.shape? a.block with
  | none => exact ⟨_, rfl⟩
  | some p => exact ⟨_, rfl⟩
omit [Sft] in
theorem frozen_ok (a : Addr) (w : World) : (Go.frozen a).run P w = .ok (w.frozen? a) w := rfl
omit [Sft] in
theorem mayShare_ok (size sLen n : Nat) (base : Option Addr) (x : Value) (w : World) : ∃ b, (Builtin.mayShare size sLen n base x).run P w = .ok b w := by
  unfold Builtin.mayShare
  have tail : ∀ there : Bool, ∃ b, (if (!there) = true then (Pure.pure true : Sem Bool) else
        match x with
        | .slice (some b) _ _ => do Pure.pure (!(← Builtin.holdsCells b (n * size)) || base.any (·.block == b.block))
        | _ => Pure.pure false).run P w = Result.ok b w := by
    intro there
    cases there with
    | false => exact ⟨true, rfl⟩
    | true =>
      simp only [Bool.not_true, Bool.false_eq_true, if_false]
      cases x with
      | slice a l c =>
        cases a with
        | none => exact ⟨_, rfl⟩
        | some a =>
          obtain ⟨b, hb⟩ := holds_ok (P := P) a (n * size) w
          exact ⟨_, by simp only [Sem.run_bind, hb, Result.andThen_ok]; rfl⟩
      | _ => exact ⟨_, rfl⟩
  cases base with
  | none => exact tail true
  | some a =>
    obtain ⟨b, hb⟩ := holds_ok (P := P) a (sLen * size) w
    simp only [Sem.run_bind, hb, Result.andThen_ok, frozen_ok, Sem.run_pure]
    exact tail _
/-- append of a slice or a string (not of 'make') -/
def plainApp (P : Program) (ts : Array TypeId) : Bool := match ts[1]? with
  | some t => match P.underlying t with
    | some (.int _) => false
    | _ => true
  | none => true
/-- bases that match -/
def BR (ρ : Ren) (n k : Nat) (a c : Option Addr) : Prop := (a = none ∧ c = none) ∨ (∃ x y, a = some x ∧ c = some y ∧ AR ρ x y) ∨ ∃ x, a = some x ∧ c = some x ∧ n = 0 ∧ k = 0
theorem BR.mono {ρ' : Ren} {n k : Nat} {a c : Option Addr} (h : BR ρ n k a c) (le : ∀ b c, ρ b c → ρ' b c) : BR ρ' n k a c := by
  rcases h with h | ⟨x, y, h1, h2, h3⟩ | h
  · exact .inl h
  · exact .inr (.inl ⟨x, y, h1, h2, h3.mono le⟩)
  · exact .inr (.inr h)
theorem VR.asSlice {s s' : Value} (h : VR A ρ s s') : (∃ base base' n k, s = .slice base n k ∧ s' = .slice base' n k ∧ BR ρ n k base base') ∨ (∀ b n k, s ≠ .slice b n k) := by
  cases h with
  | snil n k => exact .inl ⟨none, none, n, k, rfl, rfl, .inl ⟨rfl, rfl⟩⟩
  | slice n k ha => exact .inl ⟨_, _, n, k, rfl, rfl, .inr (.inl ⟨_, _, rfl, rfl, ha⟩)⟩
  | szero a => exact .inl ⟨_, _, 0, 0, rfl, rfl, .inr (.inr ⟨_, rfl, rfl, rfl, rfl⟩)⟩
  | _ => exact .inr fun _ _ _ h => by cases h
theorem SR.append (hz : FZ P) {ts : Array TypeId} (hp : plainApp P ts = true) (ht : ztA P ts = true) (ty : TypeId) {args args' : Array Value} (h : LR A ρ args args') : SR P A RO ρ (VR A) (Builtin.append_ ts ty args) (Builtin.append_ ts ty args') := by
  unfold Builtin.append_
  cases e0 : ts[0]? with
  | none => exact SR.stuck
  | some sType =>
  cases ea : args[0]? with
  | none => rw [h.none ea]; exact SR.stuck
  | some s =>
  obtain ⟨s', ea', hs⟩ := h.get ea
  cases eb : args[1]? with
  | none => rw [h.none eb, ea']; exact SR.stuck
  | some x =>
  obtain ⟨x', eb', hx⟩ := h.get eb
  rw [ea', eb']
  dsimp only
  refine SR.bind (SR.qp (QP.underlying sType)) ?_
  rintro ρ1 h1 d _ ⟨rfl, hd0⟩
  cases d with
  | slice el =>
    dsimp only
    have hel : zt P el = true := ztE.el (by simpa [ztA, e0] using ht) hd0
    obtain ⟨base, base', sLen, sCap, rfl, rfl, hb⟩ | hno := hs.asSlice
    case inr => cases s <;> first | exact SR.stuck | exact absurd rfl (hno _ _ _)
    dsimp only
    refine SR.bind (SR.qp (QP.sizeOf el)) ?_
    rintro ρ2 h2 size _ ⟨rfl, _⟩
    have hb2 : ∀ ρ', (∀ b c, ρ2 b c → ρ' b c) → BR ρ' sLen sCap base base' := fun ρ' k => (hb.mono h1).mono h2 |>.mono k
    have hx2 : ∀ ρ', (∀ b c, ρ2 b c → ρ' b c) → VR A ρ' x x' := fun ρ' k => (hx.mono h1).mono h2 |>.mono k
    have hs2 : ∀ ρ', (∀ b c, ρ2 b c → ρ' b c) → VR A ρ' (.slice base sLen sCap) (.slice base' sLen sCap) := fun ρ' k => (hs.mono h1).mono h2 |>.mono k
    clear hs hx hb h h1 h2
    cases e1 : ts[1]?
    case' none =>
      refine SR.bind (Q := fun _ a b => a = b ∧ a = false) (SR.pure ⟨rfl, rfl⟩) ?_
      rintro ρ3 h3 z _ ⟨rfl, rfl⟩
    case' some xt =>
      refine SR.bind (SR.qp (QP.underlying xt)) ?_
      rintro ρq hq d _ ⟨rfl, hd⟩
      have hni : ∀ k, d ≠ .int k := fun k e => by
        subst e
        simp [plainApp, e1, hd] at hp
      refine SR.bind (Q := fun _ a b => a = b ∧ a = false) (SR.pure ⟨rfl, by cases d <;> first | rfl | exact absurd rfl (hni _)⟩) ?_
      rintro ρ3 h3' z _ ⟨rfl, rfl⟩
      have h3 : ∀ b c, ρ2 b c → ρ3 b c := fun b c y => h3' _ _ (hq _ _ y)
    all_goals
      simp only [Bool.false_eq_true, if_false, Bool.not_false, if_true, false_or]
      refine SR.bind (SR.lenOf (hx2 _ h3)) ?_
      rintro ρ4 h4 n _ ⟨rfl, hn0⟩
      have hnx : ∀ a, x = .slice (some a) 0 0 → n = 0 := fun a e => hn0 _ _ e
      have le4 : ∀ b c, ρ2 b c → ρ4 b c := fun b c y => h4 _ _ (h3 _ _ y)
      split
      · rename_i hneed
        refine SR.bind (SR.firstCells (hx2 _ le4) size n hnx) ?_
        rintro ρ5 h5 y y' ⟨hy, hy0⟩
        have le5 : ∀ b c, ρ2 b c → ρ5 b c := fun b c y => h5 _ _ (le4 _ _ y)
        rcases hb2 ρ5 le5 with ⟨rfl, rfl⟩ | ⟨a, c, rfl, rfl, hac⟩ | ⟨a, rfl, rfl, rfl, rfl⟩
        · exact SR.pure (.snil _ _)
        rotate_left
        · have hn1 : n = 0 := by omega
          subst hn1
          have e1 := hy0 rfl
          subst e1
          have e2 : y = #[] := by have := hy.1; simpa using this
          subst e2
          exact SR.pure (.szero _)
        · dsimp only
          refine SR.bind (SR.storeCells _ _ ρ5 0 (hac.add _) (LL.of hy)) ?_
          intro ρ6 h6 _ _ _
          exact SR.pure (.slice _ _ (hac.mono h6))
      · refine SR.bind (SR.qp (QP.typeInfo el)) ?_
        rintro ρ5 h5 i _ ⟨rfl, _⟩
        have le5 : ∀ b c, ρ2 b c → ρ5 b c := fun b c y => h5 _ _ (le4 _ _ y)
        split
        · refine SR.bind (Q := fun _ _ _ => False) (SR.error _) fun _ _ _ _ h => h.elim
        · refine SR.bind (SR.qp (QP.typeInfo el)) ?_
          rintro ρ6 h6 i _ ⟨rfl, _⟩
          have le6 : ∀ b c, ρ2 b c → ρ6 b c := fun b c y => h6 _ _ (le5 _ _ y)
          split
          · refine SR.halts fun w => ?_
            obtain ⟨b, hb⟩ := mayShare_ok (P := P) size sLen n base x w
            refine ⟨?hh, w, ?hr, ?hd⟩
            case hr =>
              simp only [Sem.run_bind, hb, Result.andThen_ok]
              cases b <;> rfl
            case hd => exact trivial
          · refine SR.bind (SR.choose (Q := fun _ a b => a = b) _ fun _ => rfl) ?_
            rintro ρ7 h7 nc _ rfl
            refine SR.bind (SR.qp (QP.typeInfo el)) ?_
            rintro ρ8 h8 i2 _ ⟨rfl, _⟩
            refine SR.bind (SR.room (Q := fun _ _ _ => True) _ trivial) ?_
            intro ρ9 h9 _ _ _
            have le9 : ∀ b c, ρ2 b c → ρ9 b c := fun b c y => h9 _ _ (h8 _ _ (h7 _ _ (le6 _ _ y)))
            refine SR.bind (SR.firstCells (hs2 _ le9) size sLen fun a e => by cases e; rfl) ?_
            rintro ρa ha o o' ⟨ho, _⟩
            have lea : ∀ b c, ρ2 b c → ρa b c := fun b c y => ha _ _ (le9 _ _ y)
            refine SR.bind (SR.firstCells (hx2 _ lea) size n hnx) ?_
            rintro ρb hb y y' ⟨hy, _⟩
            refine SR.bind (SR.qp (QP.zeroValue hz el hel)) ?_
            rintro ρc hc z _ ⟨rfl, hf⟩
            refine SR.bind (SR.newRow el ((((ho.mono hb).mono hc).append (hy.mono hc)).append (LR.flat (Flat.zeroCells hf.cells _)))) ?_
            intro ρd hd a c hac
            exact SR.pure (.slice _ _ hac.1)
  | _ => exact SR.stuck
end
end Go.Proofs.Ytjplnkkcmkpkbaa
