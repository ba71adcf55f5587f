/- Several of my texts in one: Lf2. -/
import Derived.Test.YtjplnkkcmkpkbaaMA01
set_option linter.unusedSimpArgs false
set_option linter.unusedVariables false
/- The lift, 2: the kinds of operation that hall.Do and its callees use, each related to itself. -/
namespace Go.Proofs.Ytjplnkkcmkpkbaa

/-- pieces that neither touch the world nor ask it anything -/
def QP {α : Type} (P : Program) (s : Sem α) (T : α → Prop) : Prop := (∃ a, T a ∧ ∀ w es, s.runT P w es = (.ok a w, es)) ∨ (∃ h, Deadly h ∧ ∀ w es, s.runT P w es = (.halt h w, es))
section
variable [Sft] {P : Program} {A : FuncId → Prop} {RO : Nat → Prop} {ρ : Ren}
theorem SR.qp {α : Type} {s : Sem α} {T : α → Prop} (h : QP P s T) : SR P A RO ρ (fun _ a b => a = b ∧ T a) s s := by
  intro wL wC es hw
  rcases h with ⟨a, ht, h⟩ | ⟨x, hd, h⟩
  · have e : s.run P wL = .ok a wL := by rw [← Sem.runT_fst P s wL #[], h]
    rw [e]
    exact ⟨Adv.refl _, fun _ => ⟨a, wC, ρ, #[], by rw [h, Array.append_empty], hw, Eff.refl _ _ _, rfl, ht⟩⟩
  · have e : s.run P wL = .halt x wL := by rw [← Sem.runT_fst P s wL #[], h]
    rw [e]
    cases x <;> first | exact hd | exact hd.elim
omit [Sft] in
theorem QP.pure {α : Type} {T : α → Prop} {a : α} (h : T a) : QP P (Pure.pure a : Sem α) T := .inl ⟨a, h, fun _ _ => rfl⟩
omit [Sft] in
theorem QP.stuck {α : Type} {T : α → Prop} {why : String} : QP P (Go.stuck why : Sem α) T := .inr ⟨.stuck why, trivial, fun _ _ => rfl⟩
omit [Sft] in
theorem QP.limit {α : Type} {T : α → Prop} {why : String} : QP P (Go.unsupported (.resourceLimit why) : Sem α) T := .inr ⟨.unsupported (.resourceLimit why), trivial, fun _ _ => rfl⟩
omit [Sft] in
theorem QP.program {T : Program → Prop} (h : T P) : QP P Go.program T := .inl ⟨P, h, fun _ _ => rfl⟩
omit [Sft] in
theorem QP.bind {α β : Type} {s : Sem α} {f : α → Sem β} {T : α → Prop} {T' : β → Prop} (h : QP P s T) (k : ∀ a, T a → QP P (f a) T') : QP P (s >>= f) T' := by
  rcases h with ⟨a, ht, h⟩ | ⟨x, hd, h⟩
  · rcases k a ht with ⟨b, hb, h2⟩ | ⟨x, hd, h2⟩
    · exact .inl ⟨b, hb, fun w es => by show (s.bind f).runT P w es = _; rw [Sem.runT_bind', h]; exact h2 w es⟩
    · exact .inr ⟨x, hd, fun w es => by show (s.bind f).runT P w es = _; rw [Sem.runT_bind', h]; exact h2 w es⟩
  · exact .inr ⟨x, hd, fun w es => by show (s.bind f).runT P w es = _; rw [Sem.runT_bind', h]⟩
omit [Sft] in
theorem QP.underlying (t : TypeId) : QP P (Go.underlying t) (fun d => P.underlying t = some d) := by
  unfold Go.underlying
  refine QP.bind (QP.program (T := fun p => p = P) rfl) ?_
  rintro p rfl
  cases h : p.underlying t with
  | some d => exact QP.pure rfl
  | none => exact QP.stuck
omit [Sft] in
theorem QP.typeInfo (t : TypeId) : QP P (Go.typeInfo t) (fun d => P.info? t = some d) := by
  unfold Go.typeInfo
  refine QP.bind (QP.program (T := fun p => p = P) rfl) ?_
  rintro p rfl
  cases h : p.info? t with
  | some d => exact QP.pure rfl
  | none => exact QP.stuck
omit [Sft] in
theorem QP.sizeOf (t : TypeId) : QP P (Go.sizeOf t) (fun _ => True) := by
  unfold Go.sizeOf
  exact QP.bind (QP.typeInfo t) fun i _ => QP.pure trivial
omit [Sft] in
theorem QP.isAgg (t : TypeId) : QP P (Go.isAgg t) (fun _ => True) := by
  unfold Go.isAgg
  refine QP.bind (QP.underlying t) fun i _ => ?_
  split <;> exact QP.pure trivial
/-- a type whose zero value holds no block -/
def zt (P : Program) (t : TypeId) : Bool := match P.info? t with
  | some i => (match i.zero with | some v => flatB v | none => true)
  | none => true
def ztE (P : Program) (t : TypeId) : Bool := match P.underlying t with
  | some (.slice el) => zt P el
  | _ => true
def ztA (P : Program) (ts : Array TypeId) : Bool := match ts[0]? with
  | some t => ztE P t
  | none => true
omit [Sft] in
theorem ztE.el {P : Program} {t el : TypeId} (h : ztE P t = true) (e : P.underlying t = some (.slice el)) : zt P el = true := by
  simp only [ztE, e] at h; exact h
def FZ (P : Program) : Prop := ∀ t, zt P t = true → ∀ i v, P.info? t = some i → i.zero = some v → Flat v
omit [Sft] in
theorem fz_all (P : Program) : FZ P := fun t h i v e1 e2 => by
  simp only [zt, e1, e2] at h
  exact flatB_flat h
omit [Sft] in
theorem QP.zeroValue (hz : FZ P) (t : TypeId) (ht : zt P t = true) : QP P (Go.zeroValue t) Flat := by
  unfold Go.zeroValue
  refine QP.bind (QP.typeInfo t) fun i hi => ?_
  cases h : i.zero with
  | some v => exact QP.pure (hz t ht i v hi h)
  | none => exact QP.limit
omit [Sft] in
theorem Flat.cells {v : Value} (h : Flat v) : ∀ (i : Nat) u, v.cells[i]? = some u → Flat u := by
  have one : ∀ u, Flat u → ∀ (i : Nat) x, (#[u] : Array Value)[i]? = some x → Flat x := fun u hu i x e => by
    cases i with
    | zero => simp at e; subst e; exact hu
    | succ i => simp at e
  cases h with
  | agg h => exact h
  | bool b => exact one _ (.bool b)
  | int k n => exact one _ (.int k n)
  | string s => exact one _ (.string s)
  | pnil => exact one _ .pnil
  | snil n k => exact one _ (.snil n k)
  | nilFunc => exact one _ .nilFunc
  | nilIface => exact one _ .nilIface
  | iface t h => exact one _ (.iface t h)
  | tuple h => exact one _ (.tuple h)
theorem LR.ofFlat {v : Value} (h : Flat v) : LR A ρ v.cells v.cells := LR.flat h.cells

theorem SR.asAddr {v v' : Value} (h : VR A ρ v v') : SR P A RO ρ (fun ρ' => AR ρ') (Instr.sureAddr v) (Instr.sureAddr v') := by
  cases h <;> first | exact SR.stuck | exact SR.pure ‹_›
theorem SR.loadCellsFrom {a c : Addr} (n : Nat) : ∀ (ρ : Ren) (i : Nat) (acc acc' : Array Value), AR ρ a c → LR A ρ acc acc' → SR P A RO ρ (fun ρ' => LR A ρ') (Go.loadCellsFrom a i n acc) (Go.loadCellsFrom c i n acc') := by
  induction n with
  | zero => exact fun ρ i acc acc' _ h => SR.pure h
  | succ n ih =>
    intro ρ i acc acc' ha h
    unfold Go.loadCellsFrom
    refine SR.bind (SR.load (ha.add i)) fun ρ' hl v v' hv => ?_
    exact ih ρ' (i + 1) _ _ (ha.mono hl) ((h.mono hl).push hv)
theorem SR.loadCells {a c : Addr} (ha : AR ρ a c) (n : Nat) : SR P A RO ρ (fun ρ' => LR A ρ') (Go.loadCells a n) (Go.loadCells c n) := SR.loadCellsFrom n ρ 0 _ _ ha LR.nil
theorem SR.loadVar {a c : Addr} (ha : AR ρ a c) (t : TypeId) : SR P A RO ρ (VR A) (Go.loadVar t a) (Go.loadVar t c) := by
  unfold Go.loadVar
  refine SR.bind (SR.qp (QP.isAgg t)) ?_
  rintro ρ' hl b _ ⟨rfl, _⟩
  cases b with
  | true =>
    simp only [if_true]
    refine SR.bind (SR.qp (QP.sizeOf t)) ?_
    rintro ρ2 hl2 n _ ⟨rfl, _⟩
    refine SR.bind (SR.loadCells ((ha.mono hl).mono hl2) n) fun _ _ _ _ h => SR.pure (.agg h.1 h.2)
  | false => simp only [Bool.false_eq_true, if_false]; exact SR.load (ha.mono hl)
/-- lists that match -/
def LL (A : FuncId → Prop) (ρ : Ren) (l l' : List Value) : Prop := LR A ρ l.toArray l'.toArray
theorem LL.of {x x' : Array Value} (h : LR A ρ x x') : LL A ρ x.toList x'.toList := by unfold LL; simpa using h
theorem LL.nilL {l' : List Value} (h : LL A ρ [] l') : l' = [] := by
  have := h.1
  simp at this
  cases l' with
  | nil => rfl
  | cons x l' => simp at this
theorem LL.cons {v : Value} {l l' : List Value} (h : LL A ρ (v :: l) l') : ∃ v' l2, l' = v' :: l2 ∧ VR A ρ v v' ∧ LL A ρ l l2 := by
  have h1 := h.1
  cases l' with
  | nil => simp at h1
  | cons v' l2 =>
    refine ⟨v', l2, rfl, h.2 0 v v' (by simp) (by simp), by simpa using h1, fun i x y e e' => h.2 (i + 1) x y (by simpa using e) (by simpa using e')⟩
theorem LL.mono {ρ' : Ren} (k : ∀ b c, ρ b c → ρ' b c) {l l' : List Value} (h : LL A ρ l l') : LL A ρ' l l' := LR.mono k h
theorem SR.storeCells {a c : Addr} : ∀ (l l' : List Value) (ρ : Ren) (i : Nat), AR ρ a c → LL A ρ l l' → SR P A RO ρ (fun _ _ _ => True) (Go.storeCells a l i) (Go.storeCells c l' i)
  | [], l', ρ, i, _, h => by rw [h.nilL]; exact SR.pure trivial
  | v :: l, l', ρ, i, ha, h => by
    obtain ⟨v', l2, rfl, hv, hl⟩ := h.cons
    unfold Go.storeCells
    exact SR.bind (SR.store (ha.add i) hv) fun ρ' hle _ _ _ => SR.storeCells l l2 ρ' (i + 1) (ha.mono hle) (hl.mono hle)
theorem SR.storeVar {a c : Addr} {v v' : Value} (ha : AR ρ a c) (hv : VR A ρ v v') (t : TypeId) : SR P A RO ρ (fun _ _ _ => True) (Go.storeVar t a v) (Go.storeVar t c v') := by
  unfold Go.storeVar
  refine SR.bind (SR.qp (QP.sizeOf t)) ?_
  rintro ρ' hl n _ ⟨rfl, _⟩
  rw [← hv.cells.1]
  by_cases h : v.cells.size ≠ n
  · simp only [h, if_true, ne_eq, not_false_eq_true]; exact SR.bind (Q := fun _ _ _ => True) SR.stuck fun ρ2 h2 _ _ _ => SR.storeCells _ _ ρ2 0 ((ha.mono hl).mono h2) (LL.of ((hv.cells.mono hl).mono h2))
  · simp only [h, if_false]
    exact SR.storeCells _ _ ρ' 0 (ha.mono hl) (LL.of (hv.cells.mono hl))
theorem SR.newRow {cs cs' : Array Value} (el : TypeId) (h : LR A ρ cs cs') : SR P A RO ρ (fun ρ' a c => AR ρ' a c ∧ ¬ RO a.block ∧ a.off = 0 ∧ Sft.sh a.block = 0) (Go.newRow el cs) (Go.newRow el cs') := by
  unfold Go.newRow
  exact SR.bind (SR.newObj (.inl ⟨_, _, _, rfl, rfl, h⟩)) fun _ _ _ _ ⟨h1, h2, h3⟩ => SR.pure ⟨⟨h1, by simp only [h3], rfl⟩, h2, rfl, h3⟩
theorem SR.newVar {v v' : Value} (el : TypeId) (h : VR A ρ v v') : SR P A RO ρ (fun ρ' => AR ρ') (Go.newVar el v) (Go.newVar el v') := (SR.newRow el h.cells).mono fun _ _ _ _ h => h.1
theorem SR.flat {s : Sem Value} (h : QP P s Flat) : SR P A RO ρ (VR A) s s := (SR.qp h).mono fun ρ' _ _ _ ⟨e, hf⟩ => e ▸ hf.vr ρ'

/-! ### panics -/
omit [Sft] in
theorem flat_agg4 (a b c d : Value) (ha : Flat a) (hb : Flat b) (hc : Flat c) (hd : Flat d) : Flat (.agg #[a, b, c, d]) := .agg fun i v e => by
  match i, e with
  | 0, e => simp at e; exact e ▸ ha
  | 1, e => simp at e; exact e ▸ hb
  | 2, e => simp at e; exact e ▸ hc
  | 3, e => simp at e; exact e ▸ hd
  | i + 4, e => simp at e
theorem SR.bounds {α β : Type} {Q : Ren → α → β → Prop} (x y : Int) (s : Bool) (c : BoundsCode) : SR P A RO ρ Q (runtimePanic (.bounds x y s c) : Sem α) (runtimePanic (.bounds x y s c) : Sem β) := by
  unfold runtimePanic
  refine SR.bind (SR.program (Q := fun _ a b => a = P ∧ b = P) ⟨rfl, rfl⟩) ?_
  rintro ρ' hl p q ⟨rfl, rfl⟩
  exact SR.goPanic ((Flat.iface _ (flat_agg4 _ _ _ _ (.int _ _) (.int _ _) (.bool _) (.int _ _))).vr _)
theorem SR.error {α β : Type} {Q : Ren → α → β → Prop} (m : String) : SR P A RO ρ Q (runtimePanic (.error m) : Sem α) (runtimePanic (.error m) : Sem β) := by
  unfold runtimePanic
  refine SR.bind (SR.program (Q := fun _ a b => a = P ∧ b = P) ⟨rfl, rfl⟩) ?_
  rintro ρ' hl p q ⟨rfl, rfl⟩
  exact SR.goPanic ((Flat.iface _ (.string _)).vr _)
theorem SR.nilDeref {α β : Type} {Q : Ren → α → β → Prop} : SR P A RO ρ Q (runtimePanic .nilDeref : Sem α) (runtimePanic .nilDeref : Sem β) := by
  unfold runtimePanic
  refine SR.bind (SR.program (Q := fun _ a b => a = P ∧ b = P) ⟨rfl, rfl⟩) ?_
  rintro ρ' hl p q ⟨rfl, rfl⟩
  exact SR.goPanic ((Flat.iface _ (.string _)).vr _)
theorem SR.boundsPanic {α β : Type} {Q : Ren → α → β → Prop} (k : IntKind) (x y : Int) (c : BoundsCode) : SR P A RO ρ Q (boundsPanic k x y c : Sem α) (boundsPanic k x y c : Sem β) := by
  unfold Go.boundsPanic
  dsimp only
  split
  · rw [← bind_pure_comp]
    refine SR.bind (Q := fun _ a b => a = b) (SR.bind (SR.choose (Q := fun _ a b => a = b) _ fun _ => rfl) fun _ _ _ _ h => h ▸ SR.pure rfl) ?_
    rintro _ _ s _ rfl
    exact SR.bounds _ _ _ _
  · exact SR.bounds _ _ _ _
theorem SR.intOf {v v' : Value} (h : VR A ρ v v') : SR P A RO ρ (fun _ a b => a = b) (asIntOf v) (asIntOf v') := by
  cases h <;> first | exact SR.stuck | exact SR.observed | exact SR.pure rfl
theorem SR.asInt {v v' : Value} (h : VR A ρ v v') : SR P A RO ρ (fun _ a b => a = b) (Go.asInt v) (Go.asInt v') := by
  unfold Go.asInt
  exact SR.bind (SR.intOf h) fun _ _ _ _ e => e ▸ SR.pure rfl
theorem SR.asBool {v v' : Value} (h : VR A ρ v v') : SR P A RO ρ (fun _ a b => a = b) (Go.asBool v) (Go.asBool v') := by
  cases h <;> first | exact SR.stuck | exact SR.pure rfl

/-! ### instructions -/
theorem SR.alloc (hz : FZ P) (t : TypeId) (ht : zt P t = true) : SR P A RO ρ (VR A) (Instr.alloc t true (.tuple #[])) (Instr.alloc t true (.tuple #[])) := by
  unfold Instr.alloc
  refine SR.bind (SR.qp (QP.zeroValue hz t ht)) ?_
  rintro ρ' hl z _ ⟨rfl, hf⟩
  exact SR.bind (SR.newVar t (hf.vr ρ')) fun _ _ _ _ h => SR.pure (.ptr h)
theorem SR.box {v v' : Value} (h : VR A ρ v v') (t : TypeId) : SR P A RO ρ (VR A) (Instr.box t v) (Instr.box t v') := by
  unfold Instr.box
  exact SR.bind (SR.newVar t h) fun _ _ _ _ h => SR.pure (.ptr h)
theorem SR.loadAt {v v' : Value} (h : VR A ρ v v') (t : TypeId) : SR P A RO ρ (VR A) (Instr.loadAt t v) (Instr.loadAt t v') := by
  unfold Instr.loadAt
  exact SR.bind (SR.asAddr h) fun _ _ _ _ h => SR.loadVar h t
theorem SR.storeAt {v v' u u' : Value} (h : VR A ρ v v') (hu : VR A ρ u u') (t : TypeId) : SR P A RO ρ (fun _ _ _ => True) (Instr.storeAt t v u) (Instr.storeAt t v' u') := by
  unfold Instr.storeAt
  exact SR.bind (SR.asAddr h) fun _ hl _ _ h => SR.storeVar h (hu.mono hl) t
/-- parts of a composite -/
def PL (A : FuncId → Prop) (ρ : Ren) (l l' : List (Nat × Value)) : Prop := l.map (·.1) = l'.map (·.1) ∧ LL A ρ (l.map (·.2)) (l'.map (·.2))
theorem fold_lr {off : Nat} : ∀ (l l' : List Value) (k : Nat) (x x' : Array Value), LL A ρ l l' → LR A ρ x x' →
    LR A ρ ((l.zipIdx k).foldl (fun cs (p : Value × Nat) => cs.setIfInBounds (off + p.2) p.1) x) ((l'.zipIdx k).foldl (fun cs (p : Value × Nat) => cs.setIfInBounds (off + p.2) p.1) x')
  | [], l', k, x, x', h, hx => by rw [h.nilL]; exact hx
  | v :: l, l', k, x, x', h, hx => by
    obtain ⟨v', l2, rfl, hv, hl⟩ := h.cons
    simp only [List.zipIdx_cons, List.foldl_cons]
    exact fold_lr l l2 (k + 1) _ _ hl (hx.set _ hv)
theorem fill_lr (place : Nat → Option (Nat × Nat)) : ∀ (l l' : List (Nat × Value)) (x x' : Array Value), PL A ρ l l' → LR A ρ x x' →
    match Instr.fill place x l with
    | none => True
    | some y => ∃ y', Instr.fill place x' l' = some y' ∧ LR A ρ y y'
  | [], l', x, x', h, hx => by
    have : l' = [] := by have := h.1; simpa using this.symm
    subst this
    exact ⟨x', rfl, hx⟩
  | (i, v) :: l, l', x, x', h, hx => by
    cases l' with
    | nil => simp [PL] at h
    | cons q l2 =>
      obtain ⟨i', v'⟩ := q
      have h1 := h.1
      simp only [List.map_cons, List.cons.injEq] at h1
      obtain ⟨e1, h1⟩ := h1
      subst e1
      obtain ⟨v2, l3, e, hv, hl⟩ := LL.cons (show LL A ρ (v :: l.map (·.2)) (v' :: l2.map (·.2)) from h.2)
      simp only [List.cons.injEq] at e
      obtain ⟨rfl, rfl⟩ := e
      simp only [Instr.fill]
      cases hp : place i with
      | none => exact trivial
      | some p =>
        obtain ⟨off, size⟩ := p
        simp only []
        rw [← hv.cells.1, ← hx.1]
        split
        · rename_i heq
          split at heq
          · exact trivial
          · exact trivial
        · rename_i y heq
          split at heq
          · cases heq
          · rename_i hc
            rw [if_neg hc]
            have hx2 : LR A ρ (v.cells.zipIdx.foldl (fun cs (p : Value × Nat) => cs.setIfInBounds (off + p.2) p.1) x) (v'.cells.zipIdx.foldl (fun cs (p : Value × Nat) => cs.setIfInBounds (off + p.2) p.1) x') := by
              have := fold_lr (A := A) (ρ := ρ) (off := off) v.cells.toList v'.cells.toList 0 x x' (LL.of hv.cells) hx
              rw [← Array.foldl_toList, ← Array.foldl_toList, Array.toList_zipIdx, Array.toList_zipIdx]
              exact this
            have := fill_lr place l l2 _ _ ⟨h1, hl⟩ hx2
            rw [heq] at this
            exact this
theorem PL.mono {ρ' : Ren} (k : ∀ b c, ρ b c → ρ' b c) {l l' : List (Nat × Value)} (h : PL A ρ l l') : PL A ρ' l l' := ⟨h.1, h.2.mono k⟩
omit [Sft] in
theorem QP.mapM {α β : Type} {f : α → Sem β} (h : ∀ a, QP P (f a) (fun _ => True)) : ∀ l : List α, QP P (l.mapM f) (fun _ => True)
  | [] => QP.pure trivial
  | a :: l => by
    rw [List.mapM_cons]
    exact QP.bind (h a) fun b _ => QP.bind (QP.mapM h l) fun bs _ => QP.pure trivial
omit [Sft] in
theorem QP.mapMA {α β : Type} {f : α → Sem β} (h : ∀ a, QP P (f a) (fun _ => True)) (x : Array α) : QP P (x.mapM f) (fun _ => True) := by
  rw [Array.mapM_eq_mapM_toList, ← bind_pure_comp]
  exact QP.bind (QP.mapM h x.toList) fun b _ => QP.pure trivial
theorem SR.build (hz : FZ P) {l l' : Array (Nat × Value)} (h : PL A ρ l.toList l'.toList) (t : TypeId) (ht : zt P t = true) : SR P A RO ρ (VR A) (Instr.build t l) (Instr.build t l') := by
  unfold Instr.build
  refine SR.bind (SR.qp (QP.zeroValue hz t ht)) ?_
  rintro ρ1 h1 z _ ⟨rfl, hf⟩
  refine SR.bind (SR.qp (QP.underlying t)) ?_
  rintro ρ2 h2 d _ ⟨rfl, _⟩
  have fin : ∀ (ρ3 : Ren), (∀ b c, ρ2 b c → ρ3 b c) → ∀ (place : Nat → Option (Nat × Nat)) (why : String), SR P A RO ρ3 (VR A)
      (match Instr.fill place z.cells l.toList with | some cells => Pure.pure (.agg cells) | x => Go.stuck why) (match Instr.fill place z.cells l'.toList with | some cells => Pure.pure (.agg cells) | x => Go.stuck why) := by
    intro ρ3 h3 place why
    have := fill_lr (A := A) (ρ := ρ3) place l.toList l'.toList z.cells z.cells (((h.mono h1).mono h2).mono h3) (LR.ofFlat hf)
    cases e : Instr.fill place z.cells l.toList with
    | none => exact SR.stuck
    | some y =>
      rw [e] at this
      obtain ⟨y', e', hy⟩ := this
      rw [e']
      exact SR.pure (.agg hy.1 hy.2)
  cases d with
  | struct fields =>
    simp only []
    refine SR.bind (SR.qp (QP.mapMA (fun f => ?_) fields)) ?_
    · exact QP.bind (QP.sizeOf _) fun n _ => QP.pure trivial
    · rintro ρ3 h3 pl _ ⟨rfl, _⟩
      exact fin ρ3 h3 _ _
  | array n e =>
    simp only []
    refine SR.bind (SR.qp (QP.sizeOf e)) ?_
    rintro ρ3 h3 n _ ⟨rfl, _⟩
    exact fin ρ3 h3 _ _
  | _ => exact SR.stuck
end
end Go.Proofs.Ytjplnkkcmkpkbaa
