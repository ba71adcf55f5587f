/- Several of my texts in one: Lf1. -/
import Derived.Conc.Events
import Derived.Laws.Sem
set_option linter.unusedSimpArgs false
set_option linter.unusedVariables false
/- The lift, 1: a lone run and a run in company, related: values, worlds, pieces of 'Sem' (a lone run's pieces that come to an end by a value or a panic are matched step for step; blocks are renamed by a growing partial injection). -/
namespace Go.Proofs.Ytjplnkkcmkpkbaa

/-- lone block, the machine's block -/
abbrev Ren := Nat → Nat → Prop
/-- by how much a still block's places lie further on in the machine's world -/
class Sft where
  sh : Nat → Nat
/-- a value without a block in it -/
inductive Flat : Value → Prop
  | bool (b : Bool) : Flat (.bool b)
  | int (k : IntKind) (n : Int) : Flat (.int k n)
  | string (s : ByteArray) : Flat (.string s)
  | pnil : Flat (.pointer .none)
  | snil (n k : Nat) : Flat (.slice .none n k)
  | nilFunc : Flat .nilFunc
  | nilIface : Flat .nilIface
  | iface (t : TypeId) {v : Value} : Flat v → Flat (.iface t v)
  | agg {x : Array Value} : (∀ (i : Nat) v, x[i]? = some v → Flat v) → Flat (.agg x)
  | tuple {x : Array Value} : (∀ (i : Nat) v, x[i]? = some v → Flat v) → Flat (.tuple x)
/-- cells of plain kinds -/
def flatC : Value → Bool
  | .bool _ | .int _ _ | .string _ | .pointer .none | .slice .none _ _ | .nilFunc | .nilIface => true
  | _ => false
theorem flatC_flat {v : Value} (h : flatC v = true) : Flat v := by
  cases v with
  | bool b => exact .bool b
  | int k n => exact .int k n
  | string s => exact .string s
  | pointer a => cases a with
    | none => exact .pnil
    | some _ => cases h
  | slice a n k => cases a with
    | none => exact .snil n k
    | some _ => cases h
  | nilFunc => exact .nilFunc
  | nilIface => exact .nilIface
  | _ => cases h
def flatB : Value → Bool
  | .agg x => x.all flatC
  | .tuple x => x.all flatC
  | v => flatC v
theorem flatB_flat {v : Value} (h : flatB v = true) : Flat v := by
  cases v with
  | agg x =>
    refine .agg fun i v e => flatC_flat ?_
    have := Array.all_eq_true.1 (show x.all flatC = true from h) i (Array.getElem?_eq_some_iff.1 e).1
    rw [← (Array.getElem?_eq_some_iff.1 e).2]; exact this
  | tuple x =>
    refine .tuple fun i v e => flatC_flat ?_
    have := Array.all_eq_true.1 (show x.all flatC = true from h) i (Array.getElem?_eq_some_iff.1 e).1
    rw [← (Array.getElem?_eq_some_iff.1 e).2]; exact this
  | _ => exact flatC_flat h
variable [Sft]
structure AR (ρ : Ren) (a c : Addr) : Prop where
  blk : ρ a.block c.block
  off : c.off = a.off + Sft.sh a.block
  spot : c.spot = a.spot
theorem AR.mono {ρ ρ' : Ren} (h : ∀ b c, ρ b c → ρ' b c) {a c : Addr} (x : AR ρ a c) : AR ρ' a c := ⟨h _ _ x.blk, x.off, x.spot⟩
/-- nothing is renamed, nothing lies elsewhere -/
def Idr (ρ : Ren) : Prop := ∀ b c, ρ b c → b = c ∧ Sft.sh b = 0
theorem AR.eq {ρ : Ren} {a c : Addr} (x : AR ρ a c) (h : Idr ρ) : a = c := by
  obtain ⟨b, o, s⟩ := a
  obtain ⟨b', o', s'⟩ := c
  obtain ⟨h1, h4⟩ := h _ _ x.blk
  have h2 := x.off
  have h3 := x.spot
  simp only at h1 h2 h3 h4
  subst h1; rw [h4, Nat.add_zero] at h2; subst h2; subst h3; rfl
theorem AR.add {ρ : Ren} {a c : Addr} (x : AR ρ a c) (n : Nat) : AR ρ (a.add n) (c.add n) := by
  unfold Addr.add
  split
  · exact x
  · exact ⟨x.blk, by have := x.off; simp only; omega, rfl⟩

inductive VR (A : FuncId → Prop) (ρ : Ren) : Value → Value → Prop
  | bool (b : Bool) : VR A ρ (.bool b) (.bool b)
  | int (k : IntKind) (n : Int) : VR A ρ (.int k n) (.int k n)
  | string (s : ByteArray) : VR A ρ (.string s) (.string s)
  | pnil : VR A ρ (.pointer .none) (.pointer .none)
  | ptr {a c : Addr} : AR ρ a c → VR A ρ (.pointer (some a)) (.pointer (some c))
  | snil (n k : Nat) : VR A ρ (.slice .none n k) (.slice .none n k)
  | slice {a c : Addr} (n k : Nat) : AR ρ a c → VR A ρ (.slice (some a) n k) (.slice (some c) n k)
  | szero (a : Addr) : VR A ρ (.slice (some a) 0 0) (.slice (some a) 0 0)
  | func (f : FuncId) {x x' y y' : Array Value} : A f → x.size = x'.size → (∀ (i : Nat) v v', x[i]? = some v → x'[i]? = some v' → VR A ρ v v') →
      y.size = y'.size → (∀ (i : Nat) v v', y[i]? = some v → y'[i]? = some v' → VR A ρ v v') → VR A ρ (.func (.func f) x y) (.func (.func f) x' y')
  | nilFunc : VR A ρ .nilFunc .nilFunc
  | nilIface : VR A ρ .nilIface .nilIface
  | iface (t : TypeId) {v v' : Value} : VR A ρ v v' → VR A ρ (.iface t v) (.iface t v')
  | agg {x x' : Array Value} : x.size = x'.size → (∀ (i : Nat) v v', x[i]? = some v → x'[i]? = some v' → VR A ρ v v') → VR A ρ (.agg x) (.agg x')
  | tuple {x x' : Array Value} : x.size = x'.size → (∀ (i : Nat) v v', x[i]? = some v → x'[i]? = some v' → VR A ρ v v') → VR A ρ (.tuple x) (.tuple x')

def LR (A : FuncId → Prop) (ρ : Ren) (x x' : Array Value) : Prop := x.size = x'.size ∧ ∀ (i : Nat) v v', x[i]? = some v → x'[i]? = some v' → VR A ρ v v'

variable {A : FuncId → Prop}
theorem VR.mono {ρ ρ' : Ren} (h : ∀ b c, ρ b c → ρ' b c) {v v' : Value} (x : VR A ρ v v') : VR A ρ' v v' := by
  induction x with
  | bool b => exact .bool b
  | int k n => exact .int k n
  | string s => exact .string s
  | pnil => exact .pnil
  | ptr ha => exact .ptr (ha.mono h)
  | snil n k => exact .snil n k
  | slice n k ha => exact .slice n k (ha.mono h)
  | szero a => exact .szero a
  | func f h0 h1 _ h3 _ ih1 ih2 => exact .func f h0 h1 ih1 h3 ih2
  | nilFunc => exact .nilFunc
  | nilIface => exact .nilIface
  | iface t _ ih => exact .iface t ih
  | agg h1 _ ih => exact .agg h1 ih
  | tuple h1 _ ih => exact .tuple h1 ih

omit [Sft] in
theorem arr_eq {x x' : Array Value} (h : x.size = x'.size) (k : ∀ (i : Nat) v v', x[i]? = some v → x'[i]? = some v' → v = v') : x = x' := by
  apply Array.ext h
  intro i h1 h2
  exact k i _ _ (Array.getElem?_eq_getElem h1) (Array.getElem?_eq_getElem h2)
theorem VR.eq {ρ : Ren} (h : Idr ρ) {v v' : Value} (x : VR A ρ v v') : v = v' := by
  induction x with
  | bool b => rfl
  | int k n => rfl
  | string s => rfl
  | pnil => rfl
  | ptr ha => rw [ha.eq h]
  | snil n k => rfl
  | slice n k ha => rw [ha.eq h]
  | szero a => rfl
  | func f h0 h1 _ h3 _ ih1 ih2 => rw [arr_eq h1 ih1, arr_eq h3 ih2]
  | nilFunc => rfl
  | nilIface => rfl
  | iface t _ ih => rw [ih]
  | agg h1 _ ih => rw [arr_eq h1 ih]
  | tuple h1 _ ih => rw [arr_eq h1 ih]
theorem LR.eq {ρ : Ren} (h : Idr ρ) {x x' : Array Value} (k : LR A ρ x x') : x = x' := arr_eq k.1 fun i v v' a b => (k.2 i v v' a b).eq h
theorem LR.mono {ρ ρ' : Ren} (h : ∀ b c, ρ b c → ρ' b c) {x x' : Array Value} (k : LR A ρ x x') : LR A ρ' x x' := ⟨k.1, fun i v v' a b => (k.2 i v v' a b).mono h⟩
theorem LR.nil {ρ : Ren} : LR A ρ #[] #[] := ⟨rfl, fun i v v' h => by simp at h⟩
theorem LR.get {ρ : Ren} {x x' : Array Value} (h : LR A ρ x x') {i : Nat} {v : Value} (e : x[i]? = some v) : ∃ v', x'[i]? = some v' ∧ VR A ρ v v' := by
  have hi : i < x.size := (Array.getElem?_eq_some_iff.1 e).1
  have hi' : i < x'.size := by rw [← h.1]; exact hi
  exact ⟨x'[i], Array.getElem?_eq_getElem hi', h.2 i v _ e (Array.getElem?_eq_getElem hi')⟩
theorem LR.none {ρ : Ren} {x x' : Array Value} (h : LR A ρ x x') {i : Nat} (e : x[i]? = .none) : x'[i]? = .none := by
  rw [Array.getElem?_eq_none_iff] at e ⊢
  rw [← h.1]; exact e
theorem LR.getD {ρ : Ren} {x x' : Array Value} (h : LR A ρ x x') (i : Nat) {d d' : Value} (hd : VR A ρ d d') : VR A ρ (x.getD i d) (x'.getD i d') := by
  rw [Array.getD_eq_getD_getElem?, Array.getD_eq_getD_getElem?]
  cases e : x[i]? with
  | none => rw [h.none e]; exact hd
  | some v =>
    obtain ⟨v', e', hv⟩ := h.get e
    rw [e']; exact hv
theorem LR.set {ρ : Ren} {x x' : Array Value} (h : LR A ρ x x') (i : Nat) {v v' : Value} (hv : VR A ρ v v') : LR A ρ (x.setIfInBounds i v) (x'.setIfInBounds i v') := by
  refine ⟨by simp [h.1], fun j a a' e e' => ?_⟩
  rw [Array.getElem?_setIfInBounds] at e e'
  by_cases hj : i = j
  · subst hj
    simp only [if_true] at e e'
    split at e
    · split at e'
      · cases e; cases e'; exact hv
      · cases e'
    · cases e
  · rw [if_neg hj] at e e'
    exact h.2 j a a' e e'
theorem LR.push {ρ : Ren} {x x' : Array Value} (h : LR A ρ x x') {v v' : Value} (hv : VR A ρ v v') : LR A ρ (x.push v) (x'.push v') := by
  refine ⟨by simp [h.1], fun j a a' e e' => ?_⟩
  rw [Array.getElem?_push] at e e'
  by_cases hj : j = x.size
  · rw [if_pos hj] at e
    rw [if_pos (by rw [← h.1]; exact hj)] at e'
    cases e; cases e'; exact hv
  · rw [if_neg hj] at e
    rw [if_neg (by rw [← h.1]; exact hj)] at e'
    exact h.2 j a a' e e'
theorem LR.append {ρ : Ren} {x x' y y' : Array Value} (h : LR A ρ x x') (k : LR A ρ y y') : LR A ρ (x ++ y) (x' ++ y') := by
  refine ⟨by simp [h.1, k.1], fun j a a' e e' => ?_⟩
  rw [Array.getElem?_append] at e e'
  rw [← h.1] at e'
  split at e
  · rw [if_pos (by assumption)] at e'; exact h.2 j a a' e e'
  · rw [if_neg (by assumption)] at e'; exact k.2 _ a a' e e'
theorem LR.extract {ρ : Ren} {x x' : Array Value} (h : LR A ρ x x') (i j : Nat) : LR A ρ (x.extract i j) (x'.extract i j) := by
  refine ⟨by simp [h.1], fun k a a' e e' => ?_⟩
  rw [Array.getElem?_extract] at e e'
  rw [← h.1] at e'
  split at e
  · rw [if_pos (by assumption)] at e'; exact h.2 _ a a' e e'
  · cases e

theorem Flat.vr {v : Value} (h : Flat v) (ρ : Ren) : VR A ρ v v := by
  induction h with
  | bool b => exact .bool b
  | int k n => exact .int k n
  | string s => exact .string s
  | pnil => exact .pnil
  | snil n k => exact .snil n k
  | nilFunc => exact .nilFunc
  | nilIface => exact .nilIface
  | iface t _ ih => exact .iface t ih
  | agg _ ih => exact .agg rfl fun i v v' a b => by rw [a] at b; cases b; exact ih i v a
  | tuple _ ih => exact .tuple rfl fun i v v' a b => by rw [a] at b; cases b; exact ih i v a
theorem VR.undef {ρ : Ren} : VR A ρ undef undef := (Flat.tuple (x := #[]) fun i v h => by simp at h).vr ρ
theorem VR.cells {ρ : Ren} {v v' : Value} (h : VR A ρ v v') : LR A ρ v.cells v'.cells := by
  have one : ∀ u u', VR A ρ u u' → LR A ρ #[u] #[u'] := fun u u' hu => ⟨rfl, fun i a a' e e' => by
    cases i with
    | zero => simp at e e'; subst e; subst e'; exact hu
    | succ i => simp at e⟩
  cases h with
  | agg h1 h2 => exact ⟨h1, h2⟩
  | bool b => exact one _ _ (.bool b)
  | int k n => exact one _ _ (.int k n)
  | string s => exact one _ _ (.string s)
  | pnil => exact one _ _ .pnil
  | ptr ha => exact one _ _ (.ptr ha)
  | snil n k => exact one _ _ (.snil n k)
  | slice n k ha => exact one _ _ (.slice n k ha)
  | szero a => exact one _ _ (.szero a)
  | func f h0 h1 h2 h3 h4 => exact one _ _ (.func f h0 h1 h2 h3 h4)
  | nilFunc => exact one _ _ .nilFunc
  | nilIface => exact one _ _ .nilIface
  | iface t h => exact one _ _ (.iface t h)
  | tuple h1 h2 => exact one _ _ (.tuple h1 h2)
theorem LR.flat {ρ : Ren} {x : Array Value} (h : ∀ (i : Nat) v, x[i]? = some v → Flat v) : LR A ρ x x := ⟨rfl, fun i v v' a b => by rw [a] at b; cases b; exact (h i v a).vr ρ⟩

/-- cells that match: a still block's lie further on, among others -/
def CR (A : FuncId → Prop) (RO : Nat → Prop) (ρ : Ren) (b : Nat) (cs cs' : Array Value) : Prop :=
  (¬ RO b → LR A ρ cs cs') ∧ (RO b → ∀ (i : Nat) v, cs[i]? = some v → ∃ v', cs'[i + Sft.sh b]? = some v' ∧ VR A ρ v v')
structure WR (A : FuncId → Prop) (P : Program) (RO : Nat → Prop) (ρ : Ren) (wL wC : World) : Prop where
  blk : ∀ b c, ρ b c → (∃ cs e fz cs' e' fz', wL.heap[b]? = some (.cells cs e fz) ∧ wC.heap[c]? = some (.cells cs' e' fz') ∧ CR A RO ρ b cs cs' ∧ (RO b ∨ (fz' = fz ∧ e' = e)) ∧ (RO b → (∀ o, o < cs.size → fz.1 ≤ o ∧ o < fz.2) ∧ P.cellsOf e = 0)) ∨
    (∃ a a' l, wL.heap[b]? = some (.number a l) ∧ wC.heap[c]? = some (.number a' l) ∧ AR ρ a a' ∧ ¬ RO b)
  big : ∀ b c, ρ b c → P.globals.size ≤ b
  sz : P.globals.size ≤ wL.heap.size
  fn : ∀ b c c', ρ b c → ρ b c' → c = c'
  inj : ∀ b b' c, ρ b c → ρ b' c → b = b'
  ro : ∀ b, RO b → b < wL.heap.size
  shr : ∀ b, ¬ RO b → Sft.sh b = 0
theorem CR.mono {RO : Nat → Prop} {ρ ρ' : Ren} (h : ∀ b c, ρ b c → ρ' b c) {b : Nat} {cs cs' : Array Value} (k : CR A RO ρ b cs cs') : CR A RO ρ' b cs cs' :=
  ⟨fun hr => (k.1 hr).mono h, fun hr i v e => by obtain ⟨v', e', hv⟩ := k.2 hr i v e; exact ⟨v', e', hv.mono h⟩⟩
theorem CR.get {RO : Nat → Prop} {ρ : Ren} {b : Nat} {cs cs' : Array Value} (k : CR A RO ρ b cs cs') (hs : ¬ RO b → Sft.sh b = 0) {i : Nat} {v : Value} (e : cs[i]? = some v) : ∃ v', cs'[i + Sft.sh b]? = some v' ∧ VR A ρ v v' := by
  by_cases hr : RO b
  · exact k.2 hr i v e
  · obtain ⟨v', e', hv⟩ := (k.1 hr).get e
    exact ⟨v', by rw [hs hr]; exact e', hv⟩

structure Eff (RO : Nat → Prop) (ρ ρ' : Ren) (wL wC wL' wC' : World) (es : Array Event) : Prop where
  le : ∀ b c, ρ b c → ρ' b c
  new : ∀ b c, ρ' b c → ρ b c ∨ (wL.heap.size ≤ b ∧ wC.heap.size ≤ c)
  old : ∀ c, c < wC.heap.size → (∀ b, ρ b c → RO b) → wC'.heap[c]? = wC.heap[c]?
  grow : wC.heap.size ≤ wC'.heap.size
  growL : wL.heap.size ≤ wL'.heap.size
  tape : wC'.tape = wC.tape
  tapeL : wL'.tape = wL.tape
  dr : wC'.drawn + wL.drawn = wC.drawn + wL'.drawn
  drL : wL.drawn ≤ wL'.drawn
  os : wC'.os = wC.os
  out : wC'.output = wC.output
  osL : wL'.os = wL.os
  outL : wL'.output = wL.output
  same : Idr ρ → wC.heap = wL.heap → Idr ρ' ∧ wC'.heap = wL'.heap
  evs : ∀ e ∈ es, e = ⟨.mark .noRoom, false, true⟩ ∨ (∃ a b wr, e = ⟨.cell a, wr, false⟩ ∧ ρ' b a.block ∧ (wr = true → ¬ RO b)) ∨ ∃ b c, e = ⟨.obj c, false, false⟩ ∧ ρ' b c

theorem WR.tape {P : Program} {RO : Nat → Prop} {ρ : Ren} {wL wC : World} (h : WR A P RO ρ wL wC) (τ : Nat → Question → Nat) : WR A P RO ρ wL { wC with tape := τ } := ⟨h.blk, h.big, h.sz, h.fn, h.inj, h.ro, h.shr⟩
theorem Eff.refl {RO : Nat → Prop} (ρ : Ren) (wL wC : World) : Eff RO ρ ρ wL wC wL wC #[] :=
  ⟨fun _ _ h => h, fun _ _ h => .inl h, fun _ _ _ => rfl, Nat.le_refl _, Nat.le_refl _, rfl, rfl, rfl, Nat.le_refl _, rfl, rfl, rfl, rfl, (fun hid hh => ⟨hid, hh⟩), fun e h => by simp at h⟩
theorem Eff.trans {RO : Nat → Prop} {ρ ρ' ρ'' : Ren} {wL wC wL' wC' wL'' wC'' : World} {es es' : Array Event} (h : Eff RO ρ ρ' wL wC wL' wC' es) (k : Eff RO ρ' ρ'' wL' wC' wL'' wC'' es') : Eff RO ρ ρ'' wL wC wL'' wC'' (es ++ es') := by
  refine ⟨fun b c x => k.le _ _ (h.le _ _ x), fun b c x => ?_, fun c hc hr => ?_, Nat.le_trans h.grow k.grow, Nat.le_trans h.growL k.growL, k.tape.trans h.tape, k.tapeL.trans h.tapeL, by have := h.dr; have := k.dr; omega, Nat.le_trans h.drL k.drL, k.os.trans h.os, k.out.trans h.out, k.osL.trans h.osL, k.outL.trans h.outL, (fun hid hh => k.same (h.same hid hh).1 (h.same hid hh).2), fun e he => ?_⟩
  · rcases k.new b c x with y | ⟨y1, y2⟩
    · exact h.new b c y
    · exact .inr ⟨Nat.le_trans h.growL y1, Nat.le_trans h.grow y2⟩
  · rw [k.old c (Nat.lt_of_lt_of_le hc h.grow) fun b hb => ?_, h.old c hc hr]
    rcases h.new b c hb with y | ⟨_, y2⟩
    · exact hr b y
    · omega
  · rcases Array.mem_append.1 he with x | x
    · rcases h.evs e x with y | ⟨a, b, wr, y1, y2, y3⟩ | ⟨b, c, y1, y2⟩
      · exact .inl y
      · exact .inr (.inl ⟨a, b, wr, y1, k.le _ _ y2, y3⟩)
      · exact .inr (.inr ⟨b, c, y1, k.le _ _ y2⟩)
    · exact k.evs e x

def Deadly : Halt → Prop
  | .stuck _ => True
  | .unsupported (.initOrder _) => False
  | .unsupported _ => True
  | _ => False

def Adv (w w' : World) : Prop := w.drawn ≤ w'.drawn ∧ w'.tape = w.tape
def Al (wL wL' wC : World) : Prop := ∀ i q, wL.drawn + i < wL'.drawn → wL.tape (wL.drawn + i) q = wC.tape (wC.drawn + i) q
omit [Sft] in
theorem Adv.refl (w : World) : Adv w w := ⟨Nat.le_refl _, rfl⟩
def SR {α β : Type} (P : Program) (A : FuncId → Prop) (RO : Nat → Prop) (ρ : Ren) (Q : Ren → α → β → Prop) (s : Sem α) (s' : Sem β) : Prop :=
  ∀ wL wC es, WR A P RO ρ wL wC → match s.run P wL with
    | .ok a wL' => Adv wL wL' ∧ (Al wL wL' wC → ∃ b wC' ρ' es', s'.runT P wC es = (.ok b wC', es ++ es') ∧ WR A P RO ρ' wL' wC' ∧ Eff RO ρ ρ' wL wC wL' wC' es' ∧ Q ρ' a b)
    | .halt (.panic v) wL' => Adv wL wL' ∧ (Al wL wL' wC → ∃ v' wC' ρ' es', s'.runT P wC es = (.halt (.panic v') wC', es ++ es') ∧ WR A P RO ρ' wL' wC' ∧ Eff RO ρ ρ' wL wC wL' wC' es' ∧ VR A ρ' v v')
    | .halt h _ => Deadly h

section
variable {P : Program} {A : FuncId → Prop} {RO : Nat → Prop} {ρ : Ren}

theorem SR.pure {α β : Type} {Q : Ren → α → β → Prop} {a : α} {b : β} (h : Q ρ a b) : SR P A RO ρ Q (Pure.pure a) (Pure.pure b) :=
  fun wL wC es hw => ⟨Adv.refl _, fun _ => ⟨b, wC, ρ, #[], by simp [-Sem.runT_eq, Pure.pure, Sem.runT], hw, Eff.refl _ _ _, h⟩⟩
theorem SR.mono {α β : Type} {Q Q' : Ren → α → β → Prop} {s : Sem α} {s' : Sem β} (h : SR P A RO ρ Q s s') (k : ∀ ρ', (∀ b c, ρ b c → ρ' b c) → ∀ a b, Q ρ' a b → Q' ρ' a b) : SR P A RO ρ Q' s s' := by
  intro wL wC es hw
  have := h wL wC es hw
  cases hr : s.run P wL with
  | ok a wL' =>
    rw [hr] at this
    refine ⟨this.1, fun al => ?_⟩
    obtain ⟨b, wC', ρ', es', h1, h2, h3, h4⟩ := this.2 al
    exact ⟨b, wC', ρ', es', h1, h2, h3, k ρ' h3.le a b h4⟩
  | halt x wL' => rw [hr] at this; cases x <;> exact this
theorem SR.bind {α β γ δ : Type} {Q : Ren → α → β → Prop} {Q' : Ren → γ → δ → Prop} {s : Sem α} {s' : Sem β} {f : α → Sem γ} {f' : β → Sem δ} (h : SR P A RO ρ Q s s')
    (k : ∀ ρ', (∀ b c, ρ b c → ρ' b c) → ∀ a b, Q ρ' a b → SR P A RO ρ' Q' (f a) (f' b)) : SR P A RO ρ Q' (s >>= f) (s' >>= f') := by
  intro wL wC es hw
  have h1 := h wL wC es hw
  show match (s.bind f).run P wL with
    | .ok a wL' => Adv wL wL' ∧ (Al wL wL' wC → ∃ b wC' ρ' es', (s'.bind f').runT P wC es = (.ok b wC', es ++ es') ∧ WR A P RO ρ' wL' wC' ∧ Eff RO ρ ρ' wL wC wL' wC' es' ∧ Q' ρ' a b)
    | .halt (.panic v) wL' => Adv wL wL' ∧ (Al wL wL' wC → ∃ v' wC' ρ' es', (s'.bind f').runT P wC es = (.halt (.panic v') wC', es ++ es') ∧ WR A P RO ρ' wL' wC' ∧ Eff RO ρ ρ' wL wC wL' wC' es' ∧ VR A ρ' v v')
    | .halt h _ => Deadly h
  rw [Sem.run_bind']
  cases hr : s.run P wL with
  | ok a wL' =>
    rw [hr] at h1
    obtain ⟨ad1, h1⟩ := h1
    simp only [Result.andThen]
    -- the second half's own advance does not hang on the machine's world
    have stepc : ∀ wL2, Al wL wL2 wC → wL'.drawn ≤ wL2.drawn → ∃ b wC' ρ' es', s'.runT P wC es = (.ok b wC', es ++ es') ∧ WR A P RO ρ' wL' wC' ∧ Eff RO ρ ρ' wL wC wL' wC' es' ∧ Q ρ' a b := fun wL2 al hle => h1 fun i q hi => al i q (by omega)
    have al2 : ∀ {wL2 wC' : World} {ρ' es'}, Al wL wL2 wC → Eff RO ρ ρ' wL wC wL' wC' es' → Al wL' wL2 wC' := fun {wL2 wC' ρ' es'} al he i q hi => by
      have e1 := ad1.1
      have e2 := he.dr
      have := al (wL'.drawn - wL.drawn + i) q (by omega)
      rw [he.tapeL, he.tape]
      rw [show wL.drawn + (wL'.drawn - wL.drawn + i) = wL'.drawn + i by omega, show wC.drawn + (wL'.drawn - wL.drawn + i) = wC'.drawn + i by omega] at this
      exact this
    -- on an aligned tape
    have hA : ∃ (ρ0 : Ren) (w0 : World) (b0 : β), (∀ b c, ρ b c → ρ0 b c) ∧ Q ρ0 a b0 ∧ WR A P RO ρ0 wL' w0 := by
      have h1' := h wL { wC with tape := fun d q => wL.tape (wL.drawn + d - wC.drawn) q } es (hw.tape _)
      rw [hr] at h1'
      obtain ⟨b0, w0, ρ0, es0, _, hw0, he0, hq0⟩ := h1'.2 fun i q _ => by show _ = wL.tape (wL.drawn + (wC.drawn + i) - wC.drawn) q; congr 1; omega
      exact ⟨ρ0, w0, b0, he0.le, hq0, hw0⟩
    obtain ⟨ρ0, w0, b0, hle0, hq0, hw0⟩ := hA
    have h20 := k ρ0 hle0 a b0 hq0 wL' w0 es hw0
    cases hr2 : (f a).run P wL' with
    | ok a2 wL2 =>
      simp only []
      rw [hr2] at h20
      have adv2 := h20.1
      refine ⟨⟨Nat.le_trans ad1.1 adv2.1, adv2.2.trans ad1.2⟩, fun al => ?_⟩
      obtain ⟨b, wC', ρ', es', e1, hw', he, hq⟩ := stepc wL2 al adv2.1
      have h2 := k ρ' he.le a b hq wL' wC' (es ++ es') hw'
      rw [hr2] at h2
      obtain ⟨b2, wC2, ρ2, es2, e2, hw2, he2, hq2⟩ := h2.2 (al2 al he)
      exact ⟨b2, wC2, ρ2, es' ++ es2, by rw [Sem.runT_bind', e1]; simp only []; rw [e2, Array.append_assoc], hw2, he.trans he2, hq2⟩
    | halt x wL2 =>
      rw [hr2] at h20
      cases x with
      | panic v =>
        simp only []
        have adv2 := h20.1
        refine ⟨⟨Nat.le_trans ad1.1 adv2.1, adv2.2.trans ad1.2⟩, fun al => ?_⟩
        obtain ⟨b, wC', ρ', es', e1, hw', he, hq⟩ := stepc wL2 al adv2.1
        have h2 := k ρ' he.le a b hq wL' wC' (es ++ es') hw'
        rw [hr2] at h2
        obtain ⟨v2, wC2, ρ2, es2, e2, hw2, he2, hq2⟩ := h2.2 (al2 al he)
        exact ⟨v2, wC2, ρ2, es' ++ es2, by rw [Sem.runT_bind', e1]; simp only []; rw [e2, Array.append_assoc], hw2, he.trans he2, hq2⟩
      | _ => exact h20
  | halt x wL' =>
    rw [hr] at h1
    simp only [Result.andThen]
    cases x with
    | panic v =>
      refine ⟨h1.1, fun al => ?_⟩
      obtain ⟨v', wC', ρ', es', e1, hw', he, hq⟩ := h1.2 al
      exact ⟨v', wC', ρ', es', by rw [Sem.runT_bind', e1], hw', he, hq⟩
    | _ => exact h1
theorem SR.halts {α β : Type} {Q : Ren → α → β → Prop} {s : Sem α} {s' : Sem β} (h : ∀ w, ∃ x w', s.run P w = .halt x w' ∧ Deadly x) : SR P A RO ρ Q s s' := by
  intro wL wC es hw
  obtain ⟨x, w', e, hd⟩ := h wL
  rw [e]
  cases x <;> first | exact hd | exact hd.elim
theorem SR.stuck {α β : Type} {Q : Ren → α → β → Prop} {why : String} {s' : Sem β} : SR P A RO ρ Q (Go.stuck why : Sem α) s' := SR.halts fun w => ⟨_, w, rfl, trivial⟩
theorem SR.noEntry {α β : Type} {Q : Ren → α → β → Prop} {why : String} {s' : Sem β} : SR P A RO ρ Q (Go.unsupported (.noEntry why) : Sem α) s' := SR.halts fun w => ⟨_, w, rfl, trivial⟩
theorem SR.limit {α β : Type} {Q : Ren → α → β → Prop} {why : String} {s' : Sem β} : SR P A RO ρ Q (Go.unsupported (.resourceLimit why) : Sem α) s' := SR.halts fun w => ⟨_, w, rfl, trivial⟩
theorem SR.observed {α β : Type} {Q : Ren → α → β → Prop} {s' : Sem β} : SR P A RO ρ Q (Go.unsupported .addressObserved : Sem α) s' := SR.halts fun w => ⟨_, w, rfl, trivial⟩
theorem SR.goPanic {α β : Type} {Q : Ren → α → β → Prop} {v v' : Value} (h : VR A ρ v v') : SR P A RO ρ Q (Go.goPanic v : Sem α) (Go.goPanic v' : Sem β) :=
  fun wL wC es hw => ⟨Adv.refl _, fun _ => ⟨v', wC, ρ, #[], by simp [-Sem.runT_eq, Go.goPanic, Sem.runT], hw, Eff.refl _ _ _, h⟩⟩
theorem SR.program {Q : Ren → Program → Program → Prop} (h : Q ρ P P) : SR P A RO ρ Q Go.program Go.program :=
  fun wL wC es hw => ⟨Adv.refl _, fun _ => ⟨P, wC, ρ, #[], by simp [-Sem.runT_eq, Go.program, Sem.runT], hw, Eff.refl _ _ _, h⟩⟩
theorem SR.choose {Q : Ren → Nat → Nat → Prop} (q : Question) (h : ∀ n, Q ρ n n) : SR P A RO ρ Q (Go.choose q) (Go.choose q) := by
  intro wL wC es hw
  simp only [Go.choose, Sem.run, Sem.runT]
  by_cases hf : q.forced = true
  · simp only [hf, if_true]
    exact ⟨Adv.refl _, fun _ => ⟨0, wC, ρ, #[], by simp, hw, Eff.refl _ _ _, h 0⟩⟩
  · simp only [hf, if_false, Bool.false_eq_true]
    refine ⟨⟨Nat.le_succ _, rfl⟩, fun al => ?_⟩
    have e := al 0 q (by simp)
    simp only [Nat.add_zero] at e
    exact ⟨_, { wC with drawn := wC.drawn + 1 }, ρ, #[], by rw [← e, Array.append_empty], ⟨hw.blk, hw.big, hw.sz, hw.fn, hw.inj, hw.ro, hw.shr⟩, ⟨fun _ _ h => h, fun _ _ h => .inl h, fun _ _ _ => rfl, Nat.le_refl _, Nat.le_refl _, rfl, rfl, by show wC.drawn + 1 + wL.drawn = wC.drawn + (wL.drawn + 1); omega, Nat.le_succ _, rfl, rfl, rfl, rfl, (fun hid hh => ⟨hid, hh⟩), fun e h => by simp at h⟩, h _⟩
theorem SR.room {Q : Ren → Unit → Unit → Prop} (n : Nat) (h : Q ρ () ()) : SR P A RO ρ Q (askRoom n) (askRoom n) := by
  unfold askRoom
  split
  · intro wL wC es hw
    refine ⟨Adv.refl _, fun _ => ?_⟩
    refine ⟨(), wC, ρ, #[⟨.mark .noRoom, false, true⟩], by simp [-Sem.runT_eq, mark, Sem.runT], hw, ⟨fun _ _ h => h, fun _ _ h => .inl h, fun _ _ _ => rfl, Nat.le_refl _, Nat.le_refl _, rfl, rfl, rfl, Nat.le_refl _, rfl, rfl, rfl, rfl, (fun hid hh => ⟨hid, hh⟩), fun e h => by simp at h; exact .inl h⟩, h⟩
  · exact SR.pure h
theorem WR.cellC {wL wC : World} (h : WR A P RO ρ wL wC) {a c : Addr} (ha : AR ρ a c) {v : Value} (e : wL.cell? a = some v) : ∃ v', wC.cell? c = some v' ∧ VR A ρ v v' := by
  rcases h.blk _ _ ha.blk with ⟨cs, el, fz, cs', el', fz', h1, h2, h3, _⟩ | ⟨x, x', l, h1, _⟩
  · simp only [World.cell?, h1] at e
    split at e
    · cases e
    · rename_i hs
      obtain ⟨v', e', hv⟩ := h3.get (h.shr _) e
      refine ⟨v', ?_, hv⟩
      simp only [World.cell?, h2, ha.spot, hs, if_false, ha.off, Bool.false_eq_true]
      exact e'
  · simp [World.cell?, h1] at e
theorem WR.far {wL wC : World} (h : WR A P RO ρ wL wC) {a c : Addr} (ha : AR ρ a c) (b : Bool) : wL.farLoad P a b = .error (.stuck "load: no such cell") := by
  rcases h.blk _ _ ha.blk with ⟨cs, el, fz, cs', el', fz', h1, _⟩ | ⟨x, x', l, h1, _⟩ <;> simp [World.farLoad, World.noCell, h1]
theorem WR.farS {wL wC : World} (h : WR A P RO ρ wL wC) {a c : Addr} (ha : AR ρ a c) (v : Value) (b : Bool) : wL.farStore P a v b = .error (.stuck "store: no such cell") := by
  rcases h.blk _ _ ha.blk with ⟨cs, el, fz, cs', el', fz', h1, _⟩ | ⟨x, x', l, h1, _⟩ <;> simp [World.farStore, World.noCell, h1]
theorem SR.load {a c : Addr} (ha : AR ρ a c) : SR P A RO ρ (VR A) (Go.load a) (Go.load c) := by
  intro wL wC es hw
  simp only [Go.load, Sem.run, Sem.runT]
  cases e : wL.cell? a with
  | none => rw [hw.far (P := P) ha]; exact trivial
  | some v =>
    obtain ⟨v', e', hv⟩ := hw.cellC ha e
    rw [e']
    refine ⟨Adv.refl _, fun _ => ?_⟩
    refine ⟨v', wC, ρ, #[⟨.cell c, false, false⟩], by simp only [Array.append_singleton]; rfl, hw, ⟨fun _ _ h => h, fun _ _ h => .inl h, fun _ _ _ => rfl, Nat.le_refl _, Nat.le_refl _, rfl, rfl, rfl, Nat.le_refl _, rfl, rfl, rfl, rfl, (fun hid hh => ⟨hid, hh⟩), fun e h => ?_⟩, hv⟩
    simp at h
    exact .inr (.inl ⟨c, a.block, false, h, ha.blk, fun h => by cases h⟩)
omit [Sft] in
theorem heap_setCell_self {w : World} {a : Addr} {v : Value} {cs : Array Value} {e : TypeId} {fz : Nat × Nat} (hs : a.spot = .none) (h : w.heap[a.block]? = some (.cells cs e fz)) : (w.setCell a v).heap[a.block]? = some (.cells (cs.setIfInBounds a.off v) e fz) := by
  simp only [World.setCell, Array.getElem?_modify, if_true, h, Option.map_some, hs]
  rfl
omit [Sft] in
theorem heap_setCell_other {w : World} {a : Addr} {v : Value} {b : Nat} (h : a.block ≠ b) : (w.setCell a v).heap[b]? = w.heap[b]? := by
  simp [World.setCell, Array.getElem?_modify, h]
omit [Sft] in
theorem size_setCell (w : World) (a : Addr) (v : Value) : (w.setCell a v).heap.size = w.heap.size := by simp [World.setCell]
theorem SR.store {a c : Addr} {v v' : Value} (ha : AR ρ a c) (hv : VR A ρ v v') : SR P A RO ρ (fun _ _ _ => True) (Go.store a v) (Go.store c v') := by
  intro wL wC es hw
  by_cases hag : (∃ x, v = .agg x) ∨ (∃ x, v = .tuple x)
  · rcases hag with ⟨x, rfl⟩ | ⟨x, rfl⟩ <;> simp only [Go.store, Sem.run] <;> exact trivial
  have hag' : (¬ ∃ x, v' = .agg x) ∧ (¬ ∃ x, v' = .tuple x) := by
    constructor
    · rintro ⟨x, rfl⟩; cases hv; exact hag (.inl ⟨_, rfl⟩)
    · rintro ⟨x, rfl⟩; cases hv; exact hag (.inr ⟨_, rfl⟩)
  have r1 : ∀ (w : World), (Go.store a v).run P w = match w.cell? a with
      | some _ => if w.frozen? a then .halt (.unsupported (.unsafePointer "a write to bytes that a string shares")) w else .ok () (w.setCell a v)
      | .none => match w.farStore P a v (Mode.plain == .atomic) with
        | .ok (w, _) => .ok () w
        | .error h => .halt h w := by
    intro w
    cases v <;> first | (exact absurd (.inl ⟨_, rfl⟩) hag) | (exact absurd (.inr ⟨_, rfl⟩) hag) | rfl
  have r2 : ∀ (w : World) (es : Array Event), (Go.store c v').runT P w es = match w.cell? c with
      | some _ => if w.frozen? c then (.halt (.unsupported (.unsafePointer "a write to bytes that a string shares")) w, es) else (.ok () (w.setCell c v'), es.push ⟨.cell c, true, Mode.plain == .atomic⟩)
      | .none => match w.farStore P c v' (Mode.plain == .atomic) with
        | .ok (w, touched) => (.ok () w, es ++ touched.toArray.map (⟨.cell ·, true, Mode.plain == .atomic⟩))
        | .error h => (.halt h w, es) := by
    intro w es
    cases v' <;> first | (exact absurd ⟨_, rfl⟩ hag'.1) | (exact absurd ⟨_, rfl⟩ hag'.2) | rfl
  rw [r1]
  cases e : wL.cell? a with
  | none => rw [hw.farS (P := P) ha]; exact trivial
  | some u =>
    simp only []
    by_cases hfr : wL.frozen? a = true
    · rw [hfr]; exact trivial
    · rw [if_neg hfr]
      obtain ⟨u', e', hu⟩ := hw.cellC ha e
      obtain ⟨cs, el, fz, cs', el', fz', h1, h2, h3, h4, h5⟩ := (hw.blk _ _ ha.blk).resolve_right fun ⟨x, x', l, h1, _⟩ => by simp [World.cell?, h1] at e
      have hsp : a.spot = .none := by
        cases hs : a.spot with
        | none => rfl
        | some x => simp [World.cell?, h1, hs] at e
      have hoff : a.off < cs.size := by
        simp only [World.cell?, h1, hsp] at e
        exact (Array.getElem?_eq_some_iff.1 (by simpa using e)).1
      have hnro : ¬ RO a.block := fun hr => hfr (by
        have := (h5 hr).1 a.off hoff
        simp [World.frozen?, h1, this.1, this.2])
      obtain ⟨hfz, rfl⟩ : fz' = fz ∧ el' = el := h4.resolve_left hnro
      have hsh : c.off = a.off := by have := ha.off; rw [hw.shr _ hnro] at this; exact this
      have hfc : ¬ wC.frozen? c = true := by
        intro h
        apply hfr
        simp only [World.frozen?, h2, hfz, hsh] at h
        simp only [World.frozen?, h1]
        exact h
      refine ⟨⟨Nat.le_refl _, rfl⟩, fun _ => ?_⟩
      refine ⟨(), wC.setCell c v', ρ, #[⟨.cell c, true, false⟩], ?_, ⟨fun b d hbd => ?_, hw.big, by rw [size_setCell]; exact hw.sz, hw.fn, hw.inj, fun b hb => by rw [size_setCell]; exact hw.ro b hb, hw.shr⟩, ⟨fun _ _ h => h, fun _ _ h => .inl h, fun d hd hr => ?_, by rw [size_setCell]; exact Nat.le_refl _, by rw [size_setCell]; exact Nat.le_refl _, rfl, rfl, rfl, Nat.le_refl _, rfl, rfl, rfl, rfl, (fun hid hh => ⟨hid, ?_⟩), fun e h => ?_⟩, trivial⟩
      · rw [r2, e']
        simp only []
        rw [if_neg hfc]
        simp
        rfl
      · by_cases hb : a.block = b
        · subst hb
          obtain rfl := hw.fn _ _ _ ha.blk hbd
          exact .inl ⟨_, el', fz, _, el', fz', heap_setCell_self hsp h1, heap_setCell_self (by rw [ha.spot]; exact hsp) h2, ⟨fun _ => by rw [hsh]; exact (h3.1 hnro).set _ hv, fun hr => absurd hr hnro⟩, h4, fun hr => absurd hr hnro⟩
        · have hd : c.block ≠ d := fun h => hb (hw.inj _ _ _ ha.blk (h ▸ hbd))
          rw [heap_setCell_other hb, heap_setCell_other hd]
          exact hw.blk _ _ hbd
      · refine heap_setCell_other fun h => hnro ?_
        exact hr _ (h ▸ ha.blk)
      · rw [← ha.eq hid, ← hv.eq hid]
        simp only [World.setCell, hh]
      · simp at h
        exact .inr (.inl ⟨c, a.block, true, h, ha.blk, fun _ => hnro⟩)
omit [Sft] in
theorem heap_push_old {w : World} {o : Obj} {b : Nat} {x : Obj} (h : w.heap[b]? = some x) : ({ w with heap := w.heap.push o } : World).heap[b]? = some x := by
  have := (Array.getElem?_eq_some_iff.1 h).1
  simp only [Array.getElem?_push]
  rw [if_neg (by omega)]; exact h
/-- a pair of objects that match -/
def OR (A : FuncId → Prop) (ρ : Ren) (o o' : Obj) : Prop :=
  (∃ cs cs' el, o = .cells cs el ∧ o' = .cells cs' el ∧ LR A ρ cs cs') ∨ (∃ a a' l, o = .number a l ∧ o' = .number a' l ∧ AR ρ a a')
theorem SR.newObj {o o' : Obj} (h : OR A ρ o o') : SR P A RO ρ (fun ρ' b c => ρ' b c ∧ ¬ RO b ∧ Sft.sh b = 0) (Go.newObj o) (Go.newObj o') := by
  intro wL wC es hw
  have hn : ∀ c, ¬ ρ wL.heap.size c := fun c hc => by
    rcases hw.blk _ _ hc with ⟨_, _, _, _, _, _, h1, _⟩ | ⟨_, _, _, h1, _⟩ <;> (have := (Array.getElem?_eq_some_iff.1 h1).1; omega)
  have hn' : ∀ b, ¬ ρ b wC.heap.size := fun b hc => by
    rcases hw.blk _ _ hc with ⟨_, _, _, _, _, _, _, h1, _⟩ | ⟨_, _, _, _, h1, _⟩ <;> (have := (Array.getElem?_eq_some_iff.1 h1).1; omega)
  have hnro : ¬ RO wL.heap.size := fun h => by have := hw.ro _ h; omega
  have hle : ∀ b c, ρ b c → ρ b c ∨ (b = wL.heap.size ∧ c = wC.heap.size) := fun b c h => .inl h
  refine ⟨⟨Nat.le_refl _, rfl⟩, fun _ => ?_⟩
  refine ⟨wC.heap.size, { wC with heap := wC.heap.push o' }, fun b c => ρ b c ∨ (b = wL.heap.size ∧ c = wC.heap.size), #[], by simp [-Sem.runT_eq, Go.newObj, Sem.runT], ⟨?_, ?_, ?_, ?_, ?_, ?_, hw.shr⟩, ⟨hle, ?_, fun d hd _ => ?_, by simp, by simp, rfl, rfl, rfl, Nat.le_refl _, rfl, rfl, rfl, rfl, (fun hid hh => ⟨?_, ?_⟩), fun e h => by simp at h⟩, .inr ⟨rfl, rfl⟩, hnro, hw.shr _ hnro⟩
  · rintro b c (hbc | ⟨rfl, rfl⟩)
    · rcases hw.blk _ _ hbc with ⟨cs, el, fz, cs', el', fz', k1, k2, k3, k4⟩ | ⟨a, a', l, k1, k2, k3, k4⟩
      · exact .inl ⟨cs, el, fz, cs', el', fz', heap_push_old k1, heap_push_old k2, k3.mono hle, k4⟩
      · exact .inr ⟨a, a', l, heap_push_old k1, heap_push_old k2, k3.mono hle, k4⟩
    · rcases h with ⟨cs, cs', el, rfl, rfl, h⟩ | ⟨a, a', l, rfl, rfl, h⟩
      · exact .inl ⟨cs, el, (0, 0), cs', el, (0, 0), by simp, by simp, ⟨fun _ => h.mono hle, fun hr => absurd hr hnro⟩, .inr ⟨rfl, rfl⟩, fun hr => absurd hr hnro⟩
      · exact .inr ⟨a, a', l, by simp, by simp, h.mono hle, hnro⟩
  · rintro b c (hbc | ⟨rfl, rfl⟩)
    · exact hw.big _ _ hbc
    · exact hw.sz
  · have := hw.sz
    simp; omega
  · rintro b c c' (h1 | ⟨rfl, rfl⟩) (h2 | ⟨h3, rfl⟩)
    · exact hw.fn _ _ _ h1 h2
    · subst h3; exact absurd h1 (hn _)
    · exact absurd h2 (hn _)
    · rfl
  · rintro b b' c (h1 | ⟨rfl, rfl⟩) (h2 | ⟨rfl, h3⟩)
    · exact hw.inj _ _ _ h1 h2
    · subst h3; exact absurd h1 (hn' _)
    · exact absurd h2 (hn' _)
    · rfl
  · intro b hb
    have := hw.ro b hb
    simp; omega
  · rintro b c (h1 | ⟨rfl, rfl⟩)
    · exact .inl h1
    · exact .inr ⟨Nat.le_refl _, Nat.le_refl _⟩
  · simp only [Array.getElem?_push]
    rw [if_neg (by omega)]
  · rintro b c (h1 | ⟨rfl, rfl⟩)
    · exact hid _ _ h1
    · exact ⟨by rw [hh], hw.shr _ hnro⟩
  · have : o' = o := by
      rcases h with ⟨cs, cs', el, rfl, rfl, h⟩ | ⟨a, a', l, rfl, rfl, h⟩
      · rw [h.eq hid]
      · rw [h.eq hid]
    simp only [this, hh]
/-- a still block, whose shape in the lone world says nothing -/
def Shy (P : Program) (x y : Option (TypeId × Nat)) : Prop := ∃ e n m k, x = some (e, n) ∧ y = some (m, k) ∧ P.cellsOf e = 0
theorem SR.shape {b c : Nat} (h : ρ b c) : SR P A RO ρ (fun _ x y => (x = y ∧ Sft.sh b = 0) ∨ (RO b ∧ Shy P x y)) (Go.shape b) (Go.shape c) := by
  intro wL wC es hw
  show Adv wL wL ∧ (Al wL wL wC → ∃ x wC' ρ' es', (Go.shape c).runT P wC es = (.ok x wC', es ++ es') ∧ WR A P RO ρ' wL wC' ∧ Eff RO ρ ρ' wL wC wL wC' es' ∧ ((wL.shape? b = x ∧ Sft.sh b = 0) ∨ (RO b ∧ Shy P (wL.shape? b) x)))
  refine ⟨Adv.refl _, fun _ => ⟨wC.shape? c, wC, ρ, #[], by simp only [Go.shape, Sem.runT, Array.append_empty], hw, Eff.refl _ _ _, ?_⟩⟩
  rcases hw.blk _ _ h with ⟨cs, el, fz, cs', el', fz', k1, k2, k3, k4, k5⟩ | ⟨a, a', l, k1, k2, _, k4⟩
  · by_cases hr : RO b
    · exact .inr ⟨hr, el, cs.size, el', cs'.size, by simp [World.shape?, k1], by simp [World.shape?, k2], (k5 hr).2⟩
    · obtain ⟨_, rfl⟩ := k4.resolve_left hr
      exact .inl ⟨by simp [World.shape?, k1, k2, (k3.1 hr).1], hw.shr _ hr⟩
  · exact .inl ⟨by simp [World.shape?, k1, k2], hw.shr _ k4⟩
/-- a block that is no row of cells -/
theorem SR.getObj {b c : Nat} (h : ρ b c) : SR P A RO ρ (fun ρ' x y => ∃ a a' l, x = .number a l ∧ y = .number a' l ∧ AR ρ' a a') (Go.getObj b) (Go.getObj c) := by
  intro wL wC es hw
  rcases hw.blk _ _ h with ⟨cs, el, fz, cs', el', fz', k1, k2, k3, _⟩ | ⟨a, a', l, k1, k2, k3, k4⟩
  · simp only [Go.getObj, Sem.run, k1]; exact trivial
  · simp only [Go.getObj, Sem.run, Sem.runT, k1, k2]
    refine ⟨Adv.refl _, fun _ => ?_⟩
    exact ⟨_, wC, ρ, #[⟨.obj c, false, false⟩], by simp [Obj.isChan], hw, ⟨fun _ _ h => h, fun _ _ h => .inl h, fun _ _ _ => rfl, Nat.le_refl _, Nat.le_refl _, rfl, rfl, rfl, Nat.le_refl _, rfl, rfl, rfl, rfl, (fun hid hh => ⟨hid, hh⟩), fun e h' => by simp at h'; exact .inr (.inr ⟨b, c, h', h⟩)⟩, a, a', l, rfl, rfl, k3⟩
theorem SR.freeze {a c : Addr} {n : Nat} (ha : AR ρ a c) (hr : ¬ RO a.block) : SR P A RO ρ (fun _ _ _ => True) (Go.freeze a n) (Go.freeze c n) := by
  intro wL wC es hw
  have sz : ∀ (w : World) (a : Addr), (w.freeze a n).heap.size = w.heap.size := fun w a => by unfold World.freeze; split <;> simp
  have ot : ∀ (w : World) (a : Addr) (b : Nat), a.block ≠ b → (w.freeze a n).heap[b]? = w.heap[b]? := fun w a b h => by
    unfold World.freeze
    split
    · rfl
    · simp [Array.getElem?_modify, h]
  have tp : ∀ (w : World) (a : Addr), (w.freeze a n).tape = w.tape ∧ (w.freeze a n).drawn = w.drawn ∧ (w.freeze a n).os = w.os ∧ (w.freeze a n).output = w.output := fun w a => by
    unfold World.freeze
    split <;> exact ⟨rfl, rfl, rfl, rfl⟩
  refine ⟨⟨by rw [(tp wL a).2.1]; exact Nat.le_refl _, (tp wL a).1⟩, fun _ => ?_⟩
  refine ⟨(), wC.freeze c n, ρ, #[], by simp only [Go.freeze, Sem.runT, Array.append_empty], ⟨fun b d hbd => ?_, hw.big, by rw [sz]; exact hw.sz, hw.fn, hw.inj, fun b hb => by rw [sz]; exact hw.ro b hb, hw.shr⟩,
    ⟨fun _ _ h => h, fun _ _ h => .inl h, fun d hd hro => ot _ _ _ fun h => hr (hro _ (h ▸ ha.blk)), by rw [sz]; exact Nat.le_refl _, by rw [sz]; exact Nat.le_refl _, (tp wC c).1, (tp wL a).1, by rw [(tp wC c).2.1, (tp wL a).2.1], by rw [(tp wL a).2.1]; exact Nat.le_refl _, (tp wC c).2.2.1, (tp wC c).2.2.2, (tp wL a).2.2.1, (tp wL a).2.2.2, (fun hid hh => ⟨hid, by rw [← ha.eq hid]; simp only [World.freeze, hh]; split <;> first | exact hh | rfl⟩), fun e h => by simp at h⟩, trivial⟩
  by_cases hb : a.block = b
  · subst hb
    obtain rfl := hw.fn _ _ _ ha.blk hbd
    rcases hw.blk _ _ ha.blk with ⟨cs, el, fz, cs', el', fz', k1, k2, k3, k4, k5⟩ | ⟨x, x', l, k1, k2, k3⟩
    · obtain ⟨e0, rfl⟩ : fz' = fz ∧ el' = el := k4.resolve_left hr
      have hsh : c.off = a.off := by have := ha.off; rw [hw.shr _ hr] at this; exact this
      obtain ⟨fz2, f1, f2⟩ : ∃ fz2, (wL.freeze a n).heap[a.block]? = some (.cells cs el' fz2) ∧ (wC.freeze c n).heap[c.block]? = some (.cells cs' el' fz2) := by
        unfold World.freeze
        split
        · exact ⟨fz, k1, e0 ▸ k2⟩
        · refine ⟨if fz.1 == fz.2 then (a.off, a.off + n) else (min fz.1 a.off, max fz.2 (a.off + n)), ?_, ?_⟩
          · simp only [Array.getElem?_modify, if_true, k1, Option.map_some]
          · simp only [Array.getElem?_modify, if_true, k2, Option.map_some, e0, hsh]
      exact .inl ⟨cs, el', fz2, cs', el', fz2, f1, f2, k3, .inr ⟨rfl, rfl⟩, fun h => absurd h hr⟩
    · refine .inr ⟨x, x', l, ?_, ?_, k3⟩
      · unfold World.freeze
        split
        · exact k1
        · simp only [Array.getElem?_modify, if_true, k1, Option.map_some]
      · unfold World.freeze
        split
        · exact k2
        · simp only [Array.getElem?_modify, if_true, k2, Option.map_some]
  · have hd : c.block ≠ d := fun h => hb (hw.inj _ _ _ ha.blk (h ▸ hbd))
    rw [ot _ _ _ hb, ot _ _ _ hd]
    exact hw.blk _ _ hbd
end
end Go.Proofs.Ytjplnkkcmkpkbaa
