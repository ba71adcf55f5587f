/- Several of my texts in one: Mn23, Mn27, Mn28. -/
import Derived.Test.YtjplnkkcmkpkbaaMA46
import Derived.Test.YtjplnkkcmkpkbaaMA19
import Derived.Test.YtjplnkkcmkpkbaaMA26
set_option linter.unusedSimpArgs false
set_option linter.unusedVariables false
/- The machine, 23: the contract of many.do, carried into company. -/
namespace Go.Proofs.Ytjplnkkcmkpkbaa
open Go.Conc Go.ConcN

def doFns : List Nat := [10, 27, 28, 38, 39, 40, 41, 42, 43, 44, 45, 46, 47, 49, 50, 51, 52, 53, 54, 55, 56, 57, 58, 59]
def doB (f : FuncId) : Bool := doFns.contains f
/-- a function's text is of admitted operations -/
def okF (P : Program) (B : FuncId → Bool) (f : FuncId) : Bool := match P.funcs[f]? with
  | some fn => !(fn.name == "runtime.NumGoroutine") && (match fn.body with | some c => okCode P B c | none => false)
  | none => false
theorem okF_spec {P : Program} {B : FuncId → Bool} {f : FuncId} (h : okF P B f = true) : ∃ fn c, P.funcs[f]? = some fn ∧ (fn.name == "runtime.NumGoroutine") = false ∧ fn.body = some c ∧ okCode P B c = true := by
  unfold okF at h
  cases e : P.funcs[f]? with
  | none => rw [e] at h; cases h
  | some fn =>
    rw [e] at h
    simp only [Bool.and_eq_true, Bool.not_eq_true'] at h
    cases e2 : fn.body with
    | none => rw [e2] at h; cases h.2
    | some c =>
      rw [e2] at h
      exact ⟨fn, c, rfl, h.1, e2, h.2⟩
theorem okAll : (doFns.all fun f => okF Try.prog doB f) = true := by kernel_rfl
theorem okDo : OkFns Try.prog doB := fun f hf => okF_spec (List.all_eq_true.1 okAll f (List.contains_iff_mem.1 hf))

/-- a slice in a block of the footprint, told by its cells -/
def SxF (F : Foot) (ad : Option Addr) (xs : List Value) (w : World) : Prop := 0 < xs.length → ∃ b, ad = some ⟨b, 0, none⟩ ∧ F b ∧ ∀ i, i < xs.length → w.cell? ⟨b, i, none⟩ = xs[i]?
def ResF (R : List DR) (v0 v1 : Value) (F : Foot) (w : World) : Prop :=
  ∃ ad1 c1 ad2 c2, v0 = .slice ad1 R.length c1 ∧ v1 = .slice ad2 R.length c2 ∧ SxF F ad1 (rowsC toldC R) w ∧ SxF F ad2 (rowsC errC R) w
theorem SxF.at {F : Foot} {ad : Option Addr} {xs : List Value} {w w₁ : World} (h : SxF F ad xs w) (hk : ∀ b, F b → w₁.heap[b]? = w.heap[b]?) : SxF F ad xs w₁ := fun h0 => by
  obtain ⟨b, e, hb, hc⟩ := h h0
  exact ⟨b, e, hb, fun i hi => (cell_of_eq (hk b hb)).trans (hc i hi)⟩
theorem ResF.at {R : List DR} {v0 v1 : Value} {F : Foot} {w w₁ : World} (hk : ∀ b, F b → w₁.heap[b]? = w.heap[b]?) (h : ResF R v0 v1 F w) : ResF R v0 v1 F w₁ := by
  obtain ⟨ad1, c1, ad2, c2, e1, e2, h1, h2⟩ := h
  exact ⟨ad1, c1, ad2, c2, e1, e2, h1.at hk, h2.at hk⟩
theorem ResF.slices {R : List DR} {v0 v1 : Value} {F : Foot} {w : World} (h : ResF R v0 v1 F w) : (∃ a l c, v0 = .slice a l c) ∧ ∃ a l c, v1 = .slice a l c := by
  obtain ⟨ad1, c1, ad2, c2, e1, e2, _⟩ := h
  exact ⟨⟨_, _, _, e1⟩, ⟨_, _, _, e2⟩⟩

def plainV (v : Value) : Prop := (∃ s, v = .string s) ∨ ∃ k n, v = .int k n
theorem VR.plain [Sft] {A : FuncId → Prop} {ρ : Ren} {v v' : Value} (h : VR A ρ v v') (hp : plainV v) : v' = v := by
  rcases hp with ⟨s, rfl⟩ | ⟨k, n, rfl⟩ <;> cases h <;> rfl
theorem plain_told (R : List DR) : ∀ v ∈ rowsC toldC R, plainV v := by
  induction R with
  | nil => intro v h; simp [rowsC] at h
  | cons r R ih =>
    intro v h
    simp only [rowsC, toldC, List.cons_append, List.nil_append, List.mem_cons] at h
    rcases h with rfl | rfl | h
    · exact .inl ⟨_, rfl⟩
    · exact .inr ⟨_, _, rfl⟩
    · exact ih v h
theorem plain_err (R : List DR) : ∀ v ∈ rowsC errC R, plainV v := by
  induction R with
  | nil => intro v h; simp [rowsC] at h
  | cons r R ih =>
    intro v h
    simp only [rowsC, errC, List.cons_append, List.nil_append, List.mem_cons] at h
    rcases h with rfl | h
    · exact .inr ⟨_, _, rfl⟩
    · exact ih v h
theorem rows_pos {α : Type} (f : α → List Value) {c : Nat} (hf : ∀ x, (f x).length = c) (l : List α) : 0 < (rowsC f l).length → 0 < l.length := fun h => by
  rw [rowsC_len hf] at h
  exact Nat.pos_of_ne_zero fun e => by rw [e] at h; simp at h
section
variable [Sft] {A : FuncId → Prop} {RO : Nat → Prop} {ρ : Ren} {S F : Foot} {wL w : World} {base : Nat}
theorem sx_carry (hw : WR A Try.prog RO ρ wL w) (hr : Ran RO S F ρ) (hro : ∀ b, RO b → b < base) {ad ad' : Option Addr} {n n' c c' : Nat} {xs : List Value} (hv : VR A ρ (.slice ad n c) (.slice ad' n' c')) (hp : ∀ v ∈ xs, plainV v) (hn : 0 < xs.length → 0 < n) (h : SxI base ad xs wL) : SxF F ad' xs w := fun h0 => by
  have hn := hn h0
  obtain ⟨b, rfl, hb, _, hc⟩ := h h0
  have hnr : ¬ RO b := fun h => by have := hro b h; omega
  obtain ⟨cc, e, ha⟩ : ∃ cc, ad' = some cc ∧ AR ρ ⟨b, 0, none⟩ cc := by
    cases hv with
    | slice _ _ ha => exact ⟨_, rfl, ha⟩
    | szero _ => exact absurd hn (by omega)
  subst e
  · obtain ⟨cb, co, cs⟩ := cc
    obtain ⟨h1, h2, h3⟩ := ha
    simp only at h1 h2 h3
    rw [hw.shr b hnr] at h2
    subst h2; subst h3
    refine ⟨cb, rfl, (hr b cb h1).2 hnr, fun i hi => ?_⟩
    have hx : xs[i]? = some xs[i] := List.getElem?_eq_getElem hi
    obtain ⟨v', e, hv⟩ := hw.cellC (a := ⟨b, i, none⟩) (c := ⟨cb, i, none⟩) ⟨h1, by simp only [hw.shr b hnr, Nat.add_zero], rfl⟩ ((hc i hi).trans hx)
    rw [e, hx, hv.plain (hp _ (List.getElem_mem hi))]
theorem vr_slice {a : Option Addr} {n c : Nat} {v : Value} (h : VR A ρ (.slice a n c) v) : ∃ a', v = .slice a' n c := by
  cases h with
  | snil => exact ⟨_, rfl⟩
  | slice _ _ ha => exact ⟨_, rfl⟩
  | szero _ => exact ⟨_, rfl⟩
theorem told_res {R : List DR} {v : Value} (h : Told Try.prog doB RO S (DoneIs base R) F v w) (hro : ∀ b, RO b → b < base) : ∃ v0 v1, v = .agg #[v0, v1] ∧ ResF R v0 v1 F w := by
  obtain ⟨ρ, wL, vL, ⟨ad1, c1, ad2, c2, rfl, s1, s2⟩, hw, hv, hr⟩ := h
  cases hv with
  | agg hs hi =>
    rename_i x'
    obtain ⟨l⟩ := x'
    match l, hs with
    | [v0, v1], _ =>
      have k0 := hi 0 _ v0 rfl rfl
      have k1 := hi 1 _ v1 rfl rfl
      obtain ⟨a1, rfl⟩ := vr_slice k0
      obtain ⟨a2, rfl⟩ := vr_slice k1
      exact ⟨_, _, rfl, a1, c1, a2, c2, rfl, rfl, sx_carry hw hr hro k0 (plain_told R) (rows_pos toldC (c := 2) (fun _ => rfl) R) s1, sx_carry hw hr hro k1 (plain_err R) (rows_pos errC (c := 1) (fun _ => rfl) R) s2⟩
end
theorem Priv.mono {P : Program} {m : Bool} {R : World → World → Prop} {S : Foot} {Stop Stop' : Foot → Goroutine → World → Prop} (hS : ∀ F g w, Stop F g w → Stop' F g w) : ∀ (r : Rk) (F : Foot) (g : Goroutine) (w : World), Priv P m R S Stop r F g w → Priv P m R S Stop' r F g w := by
  intro r
  induction r with
  | z => exact fun F g w h w1 h1 k1 => hS _ _ _ (h w1 h1 k1)
  | mk f ih =>
    intro F g w h
    rcases h with h | ⟨hrun, h⟩
    · exact .inl fun w1 h1 k1 => hS _ _ _ (h w1 h1 k1)
    · refine .inr ⟨hrun, fun w1 h1 k1 => ?_⟩
      obtain ⟨g', w', es, F', e1, e2, e3⟩ := h w1 h1 k1
      exact ⟨g', w', es, F', e1, e2, ih w1 F' g' w' e3⟩

/-- a job's deeds, as they lie in the memory -/
structure JobAt (q : Ph) (w : World) (D : List Deed) (a : Option Addr) (n cap : Nat) : Prop where
  deeds : Deeds w a n D
  room : (n + 1) * 40 ≤ 140737488355328
  blk : ∀ ad, a = some ad → (n = 0 ∧ cap = 0) ∨ (q.low ad.block ∧ ad.spot = none ∧ ∃ cs e fz, w.heap[ad.block]? = some (.cells cs e fz))
theorem JobAt.at {q : Ph} {w w₁ : World} {D : List Deed} {a : Option Addr} {n cap : Nat} (h : JobAt q w D a n cap) (hr : RS q w w₁) : JobAt q w₁ D a n cap := by
  refine ⟨⟨h.deeds.len, fun h0 => ?_, h.deeds.nm⟩, h.room, fun ad e => ?_⟩
  · obtain ⟨b, off, e, hb, hc⟩ := h.deeds.sa h0
    rcases h.blk _ e with ⟨rfl, _⟩ | ⟨hl, _⟩
    · rw [rowsC_len (c := 4) (fun _ => rfl), h.deeds.len] at h0
      omega
    · exact ⟨b, off, e, Nat.lt_of_lt_of_le hb hr.grow, fun i hi => (cell_of_eq (hr.low b hl)).trans (hc i hi)⟩
  · rcases h.blk ad e with h0 | ⟨h1, h2, cs, el, fz, h3⟩
    · exact .inl h0
    · exact .inr ⟨h1, h2, cs, el, fz, (hr.low _ h1).trans h3⟩
theorem deeds_flat (D : List Deed) : ∀ v ∈ rowsC deedC D, Flat v := by
  induction D with
  | nil => intro v h; simp [rowsC] at h
  | cons d D ih =>
    intro v h
    simp only [rowsC, deedC, List.cons_append, List.nil_append, List.mem_cons] at h
    rcases h with rfl | rfl | rfl | rfl | h
    · exact .int _ _
    · exact .int _ _
    · exact .string _
    · exact .string _
    · exact ih v h
/-- no type -/
def noTy : TypeId := 999999
/-- the lone world: the deeds in a block of their own, which may not be written -/
noncomputable def roomy (w : World) : World := { w with heap := w.heap ++ Array.replicate Try.prog.globals.size (.cells #[] noTy) }
theorem roomy_size (w : World) : (roomy w).heap.size = w.heap.size + Try.prog.globals.size := by simp only [roomy, Array.size_append, Array.size_replicate]
noncomputable def alone (w : World) (D : List Deed) : World := (roomy w).alloc (.cells (rowsC deedC D).toArray noTy (0, (rowsC deedC D).length))
theorem noTy_cells : Try.prog.cellsOf noTy = 0 := by kernel_rfl
theorem alone_blk (w : World) (D : List Deed) : (alone w D).heap[(roomy w).heap.size]? = some (.cells (rowsC deedC D).toArray noTy (0, (rowsC deedC D).length)) := heap_alloc_new _ _
theorem alone_size (w : World) (D : List Deed) : (alone w D).heap.size = (roomy w).heap.size + 1 := by simp [alone]
theorem arg_rel [Sft] {A : FuncId → Prop} {ρ : Ren} {v v' : Value} (h : VR A ρ v v') : LR A ρ #[v] #[v'] := ⟨rfl, fun i u u' e e' => by
  cases i with
  | zero => simp at e e'; subst e; subst e'; exact h
  | succ i => simp at e⟩
theorem does_of {q : Ph} {w : World} {D : List Deed} {a : Option Addr} {n cap k : Nat} (hq : ∀ v0 v1 F w, q.Res k v0 v1 F w ↔ ResF (runR ⟨[], []⟩ D) v0 v1 F w) (h : JobAt q w D a n cap) : Does q w k (.slice a n cap) := by
  intro c cs F w₁ hr
  have h1 := h.at hr
  clear h hr
  have fin : ∀ [Sft] (RO : Nat → Prop) (base : Nat), (∀ b, RO b → b < base) → (∃ r, Priv Try.prog false (RS q) q.low (fun F g w => ∃ v, g = G (c.finish v) cs ∧ Told Try.prog doB RO q.low (DoneIs base (runR ⟨[], []⟩ D)) F v w) r F (G (Frame.enter Try.prog 10 #[.slice a n cap] .normal) (c :: cs)) w₁) →
      ∃ r, Priv Try.prog false (RS q) q.low (fun F g w => ∃ v0 v1, g = G (c.finish (.agg #[v0, v1])) cs ∧ q.Res k v0 v1 F w) r F (G (Frame.enter Try.prog 10 #[.slice a n cap] .normal) (c :: cs)) w₁ := by
    rintro _ RO base hro ⟨r, hp⟩
    refine ⟨r, Priv.mono (fun F g w hS => ?_) r _ _ _ hp⟩
    obtain ⟨v, rfl, ht⟩ := hS
    obtain ⟨v0, v1, rfl, hres⟩ := told_res ht hro
    exact ⟨v0, v1, rfl, (hq _ _ _ _).2 hres⟩
  have call : ∀ (a : Option Addr) (w0 : World), Deeds w0 a n D → ∀ τ, Calls Try.prog 10 #[.slice a n cap] (tp w0 τ) fun e w' => match e with | .returned v => DoneIs w0.heap.size (runR ⟨[], []⟩ D) v w' | _ => False := fun a w0 hd τ =>
    (manyDo D n a cap (tp w0 τ) ⟨hd.len, hd.sa, hd.nm⟩ h1.room).mono fun e w' ⟨v, e1, e2⟩ => by subst e1; exact e2
  let S0 : Sft := ⟨fun _ => 0⟩
  by_cases hnil : a = none ∨ (n = 0 ∧ cap = 0)
  · have arg : ∀ (ρ : Ren), @VR S0 (fun f => doB f = true) ρ (.slice a n cap) (.slice a n cap) := fun ρ => by
      cases a with
      | none => exact @VR.snil S0 _ _ _ _
      | some ad =>
        obtain ⟨rfl, rfl⟩ := hnil.resolve_left (by simp)
        exact @VR.szero S0 _ _ _
    have hd0 : Deeds (roomy w₁) a n D := ⟨h1.deeds.len, fun h0 => by
      obtain ⟨b, off, e, _⟩ := h1.deeds.sa h0
      rw [rowsC_len (c := 4) (fun _ => rfl), h1.deeds.len] at h0
      rcases hnil with h | h
      · rw [h] at e; cases e
      · omega, h1.deeds.nm⟩
    have hg : Try.prog.globals.size ≤ (roomy w₁).heap.size := by rw [roomy_size]; omega
    have hT := @lone_tree S0 Try.prog doB (fun _ => False) (fz_all _) okDo (DoneIs (roomy w₁).heap.size (runR ⟨[], []⟩ D)) (fun v w τ h => h) 10 (by rfl) #[.slice a n cap] (roomy w₁) (call a _ hd0) (fun _ => rfl)
      ⟨fun b c h => h.2.elim, fun b c h => h.2.elim, hg, fun b c c' h => h.2.elim, fun b b' c h => h.2.elim, fun b h => h.elim, fun _ _ => rfl⟩ (@arg_rel S0 _ _ _ _ (arg _))
    exact @fin S0 (fun _ => False) (roomy w₁).heap.size (fun b h => h.elim) (@lift_call S0 Try.prog doB (fun _ => False) (fun _ _ => False) (fz_all _) okDo false (RS q) q.low F _ 10 (by rfl) _ _ (roomy w₁) w₁ hT
      ⟨fun b c h => h.elim, fun b c h => h.elim, hg, fun b c c' h => h.elim, fun b b' c h => h.elim, fun b h => h.elim, fun _ _ => rfl⟩ (@arg_rel S0 _ _ _ _ (arg _)) (fun b c h => h.elim) c cs)
  · cases a with
    | none => exact absurd (.inl rfl) hnil
    | some ad =>
      obtain ⟨hlow, hspot, cl, el, fz, hblk⟩ := (h1.blk ad rfl).resolve_left fun h => hnil (.inr h)
      have hlt : ad.block < w₁.heap.size := (Array.getElem?_eq_some_iff.1 hblk).1
      have hg : Try.prog.globals.size ≤ (roomy w₁).heap.size := by rw [roomy_size]; omega
      have hlen : (rowsC deedC D).length = n * 4 := by rw [rowsC_len (c := 4) (fun _ => rfl), h1.deeds.len]
      have hcell : ∀ (i : Nat) v, (rowsC deedC D)[i]? = some v → cl[i + ad.off]? = some v := fun i v e => by
        have hi : i < (rowsC deedC D).length := (List.getElem?_eq_some_iff.1 e).1
        obtain ⟨b, off, e1, _, hc⟩ := h1.deeds.sa (by omega)
        cases e1
        have := (hc i hi).trans e
        simp only [World.cell?, hblk] at this
        rw [Nat.add_comm]
        simpa using this
      have hd : Deeds (alone w₁ D) (some ⟨(roomy w₁).heap.size, 0, none⟩) n D := ⟨h1.deeds.len, fun h0 => ⟨(roomy w₁).heap.size, 0, rfl, by rw [alone_size]; omega, fun i hi => by
        simp only [World.cell?, alone_blk]
        simp⟩, h1.deeds.nm⟩
      have hT := @lone_tree S0 Try.prog doB (fun b => b = (roomy w₁).heap.size) (fz_all _) okDo (DoneIs (alone w₁ D).heap.size (runR ⟨[], []⟩ D)) (fun v w τ h => h) 10 (by rfl) #[.slice (some ⟨(roomy w₁).heap.size, 0, none⟩) n cap] (alone w₁ D) (call _ _ hd) (fun _ => rfl)
        ⟨fun b c ⟨h2, h3⟩ => by
            subst h2; subst h3
            exact .inl ⟨_, _, _, _, _, _, alone_blk w₁ D, alone_blk w₁ D, ⟨fun h => absurd rfl h, fun _ i v e => ⟨v, e, (deeds_flat D v (List.mem_of_getElem? (by simpa using e))).vr _⟩⟩, .inl rfl, fun _ => ⟨fun o ho => ⟨Nat.zero_le _, by simpa using ho⟩, noTy_cells⟩⟩,
          fun b c ⟨_, h3⟩ => by rw [h3]; exact hg, by rw [alone_size]; have := hg; omega, fun b c c' h h' => h.1.symm.trans h'.1, fun b b' c h h' => h.1.trans h'.1.symm, fun b h => by rw [h, alone_size]; omega, fun _ _ => rfl⟩
        (@arg_rel S0 _ _ _ _ (@VR.slice S0 _ _ _ _ _ _ ⟨⟨rfl, rfl⟩, rfl, rfl⟩))
      let S1 : Sft := ⟨fun b => if b = (roomy w₁).heap.size then ad.off else 0⟩
      have sh1 : S1.sh (roomy w₁).heap.size = ad.off := if_pos rfl
      refine @fin S1 (fun b => b = (roomy w₁).heap.size) (alone w₁ D).heap.size (fun b h => by rw [h, alone_size]; omega) (@lift_call S1 Try.prog doB (fun b => b = (roomy w₁).heap.size) (fun b c => b = (roomy w₁).heap.size ∧ c = ad.block) (fz_all _) okDo false (RS q) q.low F _ 10 (by rfl) _ _ (alone w₁ D) w₁ hT
        ⟨fun b c ⟨h2, h3⟩ => ?_, fun b c ⟨h2, _⟩ => by rw [h2]; exact hg, by rw [alone_size]; have := hg; omega, fun b c c' h h' => h.2.trans h'.2.symm, fun b b' c h h' => h.1.trans h'.1.symm, fun b h => by rw [h, alone_size]; omega, fun b h => if_neg h⟩
        (@arg_rel S1 _ _ _ _ (@VR.slice S1 _ _ _ _ _ _ ⟨⟨rfl, rfl⟩, ?_, hspot⟩)) (fun b c ⟨h2, h3⟩ => ⟨fun _ => by rw [h3]; exact hlow, fun hn => absurd h2 hn⟩) c cs)
      · subst h2; subst h3
        refine .inl ⟨_, _, _, _, _, _, alone_blk w₁ D, hblk, ⟨fun h => absurd rfl h, fun _ i v e => ⟨v, ?_, @Flat.vr S1 _ _ (deeds_flat D v (List.mem_of_getElem? (by simpa using e))) _⟩⟩, .inl rfl, fun _ => ⟨fun o ho => ⟨Nat.zero_le _, by simpa using ho⟩, noTy_cells⟩⟩
        show cl[i + S1.sh (roomy w₁).heap.size]? = some v
        rw [sh1]
        exact hcell i v (by simpa using e)
      · show ad.off = 0 + S1.sh (roomy w₁).heap.size
        rw [sh1, Nat.zero_add]
end Go.Proofs.Ytjplnkkcmkpkbaa
/- The machine, 27: many.Run closes its channel and makes its group; one call's middle, put together. -/
namespace Go.Proofs.Ytjplnkkcmkpkbaa
open Go.Conc Go.ConcN Go.RowKit Go.Conc.Lib Go.ConcR.Gen Go.ConcN.Gen
open Go.ConcR (KK wgBlock WgAt stA smA rd wr mk DC0)

/-- the world behind the closing -/
structure Shut (W5 : World) (Ch N : Nat) (w : World) : Prop where
  blk : ∀ b, b ≠ Ch → w.heap[b]? = W5.heap[b]?
  ch : w.heap[Ch]? = some (.chan N (bufK N) true N 0 false)
  size : w.heap.size = W5.heap.size
  os : w.os = W5.os
  tape : w.tape = W5.tape
  out : w.output = W5.output
theorem Shut.rely {W5 w w₁ : World} {Ch N : Nat} (h : Shut W5 Ch N w) (r : AtRel w w₁) : Shut W5 Ch N w₁ := by
  obtain ⟨d, rfl⟩ := r
  exact ⟨h.blk, h.ch, h.size, h.os, h.tape, h.out⟩
/-- .. the group made -/
structure Rdy (W5 : World) (N0 N : Nat) (w : World) : Prop where
  blk : ∀ b, b < N0 + 5 → b ≠ N0 + 3 → w.heap[b]? = W5.heap[b]?
  ch : w.heap[N0 + 3]? = some (.chan N (bufK N) true N 0 false)
  wg : WgAt 50 (N0 + 5) w 0 0
  size : w.heap.size = N0 + 6
  os : w.os = W5.os
  tape : w.tape = W5.tape
  out : w.output = W5.output
theorem Rdy.rely {W5 w w₁ : World} {N0 N : Nat} (h : Rdy W5 N0 N w) (r : AtRel w w₁) : Rdy W5 N0 N w₁ := by
  obtain ⟨d, rfl⟩ := r
  exact ⟨h.blk, h.ch, h.wg, h.size, h.os, h.tape, h.out⟩
theorem wgZero : (Try.prog.info? 50).map (fun i => (i.zero, i.size, i.bytes)) = some (some (.agg #[.int .u64 0, .int .u32 0]), 2, 16) := by kernel_rfl
section
variable {E : Event → Prop} {W5 w : World} {N N0 n : Nat} {cs : List Frame}
set_option maxRecDepth 100000 in
set_option maxHeartbeats 4000000 in
theorem shutGo (slJ : Value) (hN : N ≤ 5864062014634) (hs5 : W5.heap.size = N0 + 5) (hb : W5.cell? ⟨N0 + 4, 0, none⟩ = some (.chan (some (N0 + 3)))) (hE : E ⟨.cell ⟨N0 + 4, 0, none⟩, false, false⟩) (hEc : ∀ e ∈ closeEvents (N0 + 3), E e) {g : Goroutine} (h : AtHd W5 N0 n slJ N cs N g w) :
    Gz Try.prog (DE E) (fun g w => (∃ T : Array Value, T.size = 39 ∧ T[3]? = some (.pointer (some ⟨N0, 0, none⟩)) ∧ T[6]? = some (.pointer (some ⟨N0 + 2, 0, none⟩)) ∧ T[7]? = some (.pointer (some ⟨N0 + 4, 0, none⟩)) ∧ T[9]? = some (.pointer (some ⟨N0 + 5, 0, none⟩)) ∧ T[31]? = some (.int .i64 (n : Nat)) ∧ T[32]? = some (.int .i64 0) ∧
      g = G (b4.at ⟨T, []⟩ (.code loopS :: [.inLoop loopS, .inBlock 2, .code tail4])) cs) ∧ Rdy W5 N0 N w) g w := by
  obtain ⟨⟨v8, v25, v26, v27, v28, v29, rfl⟩, hF⟩ := h
  have d1 : decide ((N : Int) < (N : Int)) = false := decide_eq_false (by omega)
  refine Gz.goes (n := 60) ?_
  simp only [T6, itK, loopK, after6, rest6, body4, loopS, tail4, after4, Try.f4, Option.getD_some]
  u_c stepG_seq Sent.rely hF
  u_reg Sent.rely hF
  u_op Sent.rely hF
  u_c stepG_region_end Sent.rely hF
  u_c stepG_seq Sent.rely hF
  u_cond false Sent.rely hF
  u_exit Sent.rely hF
  u_c stepG_seq Sent.rely hF
  u_reg Sent.rely hF
  refine Goes.stop (fun w₁ h₁ => ?_)
  replace hF := Sent.rely hF h₁
  clear h₁
  refine gz_ld (v := .chan (some (N0 + 3))) Sent.rely rfl rfl (by k_ne) hF (fun w hw => ?_) (fun w hw e he => ?_) (fun w' hF' => ?_)
  · (have hx := (hw.cell ⟨N0 + 4, 0, none⟩ (by simp)).trans hb; unfold execOp; simp [go_sem, Act.eval, hx])
  · (have hx := (hw.cell ⟨N0 + 4, 0, none⟩ (by simp)).trans hb; unfold execOp at he; simp [go_sem, Act.eval, hx] at he; subst he; exact hE)
  replace hF := hF'
  clear hF'
  refine Gz.goes (n := 60) ?_
  walk_nrm
  refine Goes.stop (fun w₁ h₁ => ?_)
  replace hF := Sent.rely hF h₁
  clear h₁
  refine Gz.step rfl fun w₂ h₂ => ?_
  replace hF := Sent.rely hF h₂
  clear h₂
  have hlt : N0 + 3 < w₂.heap.size := (Array.getElem?_eq_some_iff.1 hF.ch).1
  have hF' : Shut W5 (N0 + 3) N (w₂.setChan (N0 + 3) N (bufK N) true N 0 false) := by
    refine ⟨fun b hb => ?_, ?_, ?_, hF.os, hF.tape, hF.out⟩
    · simp only [World.setChan]
      rw [Array.getElem?_setIfInBounds_ne (Ne.symm hb)]
      exact hF.blk b hb
    · simp only [World.setChan]
      rw [Array.getElem?_setIfInBounds_self_of_lt hlt]
    · simp only [World.setChan, Array.size_setIfInBounds]
      exact hF.size
  refine ⟨_, _, _, stepG_close rfl rfl (by k_ne) rfl (by rfl) hF.ch (by kernel_rfl), fun e he => hEc e he, ?_⟩
  generalize w₂.setChan (N0 + 3) N (bufK N) true N 0 false = w₃ at hF'
  clear hF hlt
  refine Gz.goes (n := 60) ?_
  walk_nrm
  u_c stepG_region_end Shut.rely hF'
  u_c stepG_seq Shut.rely hF'
  u_reg Shut.rely hF'
  refine Goes.stop (fun w₁ h₁ => ?_)
  replace hF' := Shut.rely hF' h₁
  clear h₁
  have sz : w₁.heap.size = N0 + 5 := hF'.size.trans hs5
  have hF : Rdy W5 N0 N (w₁.alloc (.cells #[.int .u64 0, .int .u32 0] 50)) := by
    refine ⟨fun b hb1 hb2 => ?_, ?_, ?_, by simp [sz], hF'.os, hF'.tape, hF'.out⟩
    · rw [Below.heap_alloc _ _ _ (by omega)]; exact hF'.blk b hb2
    · rw [Below.heap_alloc _ _ _ (by omega)]; exact hF'.ch
    · have := heap_alloc_new w₁ (.cells #[.int .u64 0, .int .u32 0] 50)
      rw [sz] at this
      exact this
  refine gz_val (W := w₁) (v := .pointer (some ⟨N0 + 5, 0, none⟩)) (W' := w₁.alloc (.cells #[.int .u64 0, .int .u32 0] 50)) rfl rfl (by k_ne) (atRel_refl w₁) (fun d => ?_) (fun d e he => ?_) (fun w' hA => ?_)
  · unfold execOp; simp [go_sem, Act.eval, at_alloc, at_size, sz]
  · unfold execOp at he; simp [go_sem, Act.eval] at he
  replace hF := hF.rely hA
  clear hA hF' sz
  refine Gz.goes (n := 60) ?_
  walk_nrm
  u_c stepG_region_end Rdy.rely hF
  u_c stepG_seq Rdy.rely hF
  u_c stepG_seq Rdy.rely hF
  u_reg Rdy.rely hF
  u_op Rdy.rely hF
  u_op Rdy.rely hF
  u_c stepG_region_end Rdy.rely hF
  u_c stepG_block Rdy.rely hF
  u_c stepG_loop Rdy.rely hF
  exact Goes.stop fun w₁ h₁ => .stop fun w₂ h₂ => ⟨⟨_, rfl, rfl, rfl, rfl, rfl, rfl, rfl, rfl⟩, (hF.rely h₁).rely h₂⟩
end
end Go.Proofs.Ytjplnkkcmkpkbaa
/- The machine, 28: one call of many.Run, from its entry to behind its return. -/
namespace Go.Proofs.Ytjplnkkcmkpkbaa
open Go.Conc Go.ConcN Go.RowKit Go.Conc.Lib Go.ConcR.Gen Go.ConcN.Gen
open Go.ConcR (KK wgBlock WgAt stA smA rd wr mk DC0)

/-- the places that are shunned: the groups of calls past -/
def ShO (Old : Nat → Prop) (l : Loc) : Prop := ∃ a, l = .cell a ∧ Old a.block
theorem ShO.add (Old : Nat → Prop) (Wg : Nat) : (fun l => ShO Old l ∨ ShN Wg l) = ShO (fun b => Old b ∨ b = Wg) := by
  funext l
  apply propext
  constructor
  · rintro (⟨a, e, h⟩ | ⟨a, e, h⟩)
    · exact ⟨a, e, .inl h⟩
    · exact ⟨a, e, .inr h⟩
  · rintro ⟨a, e, h | h⟩
    · exact .inl ⟨a, e, h⟩
    · exact .inr ⟨a, e, h⟩
theorem evI_cell {Old : Nat → Prop} {B C b o : Nat} {wr : Bool} (hO : ¬ Old b) (hB : b < B) (hC : b ≠ C) : EvI (ShO Old) B C ⟨.cell ⟨b, o, none⟩, wr, false⟩ := by
  refine ⟨evL_cell _ _ (fun ⟨a, e, h⟩ => hO (by cases e; exact h)) hB, fun x hx ad e => ?_⟩
  simp only [ofEvent_cell0, MemAct.touch?, Option.some.injEq] at hx
  subst hx
  cases e
  exact hC
theorem evI_room {Old : Nat → Prop} {B C : Nat} : EvI (ShO Old) B C ⟨.mark .noRoom, false, true⟩ :=
  ⟨⟨fun x hx => by simp [MemAct.ofEvent, MemAct.touch?] at hx, by simp, by simp, trivial⟩, fun x hx => by simp [MemAct.ofEvent, MemAct.touch?] at hx⟩
theorem evI_close {Old : Nat → Prop} {B C c : Nat} (hB : c < B) : ∀ e ∈ closeEvents c, EvI (ShO Old) B C e := by
  intro e he
  simp only [closeEvents, List.mem_toArray, List.mem_cons, List.not_mem_nil, or_false] at he
  rcases he with rfl | rfl
  · refine ⟨⟨fun x hx hs => ?_, by simp, by simp, hB⟩, fun x hx ad e => ?_⟩
    · simp only [MemAct.ofEvent, MemAct.touch?, Option.some.injEq] at hx
      subst hx
      obtain ⟨a, e, _⟩ := hs; cases e
    · simp only [MemAct.ofEvent, MemAct.touch?, Option.some.injEq] at hx
      subst hx
      cases e
  · refine ⟨⟨fun x hx hs => ?_, by simp, by simp, hB⟩, fun x hx ad e => ?_⟩
    · simp only [MemAct.ofEvent, MemAct.touch?] at hx
      first | (cases hx; done) | (simp only [Option.some.injEq] at hx; subst hx; obtain ⟨a, e, _⟩ := hs; cases e)
    · simp only [MemAct.ofEvent, MemAct.touch?] at hx
      first | (cases hx; done) | (simp only [Option.some.injEq] at hx; subst hx; cases e)
theorem ti_own {Shun : Loc → Prop} {B N C : Nat} (hN : 0 < N) : ∀ t fn pos w w' es, DE (EvI Shun B C) w w' es → TI Shun B N C t → TI Shun B N C (t ++ MemOp.ofEvents 0 fn pos es) := fun _ _ _ _ _ _ h hI => hI.own hN h

/-- the jobs, as they lie in the memory -/
structure JobsIn (w : World) (Old : Nat → Prop) (aJ : Option Addr) (N : Nat) (D : Nat → List Deed) : Prop where
  old : ∀ b, Old b → b < w.heap.size
  job : ∀ k, k < N → ∃ J oJ a n cap, aJ = some ⟨J, oJ, none⟩ ∧ J < w.heap.size ∧ ¬ Old J ∧ w.cell? ⟨J, oJ + k, none⟩ = some (.slice a n cap) ∧ Deeds w a n (D k) ∧ (n + 1) * 40 ≤ 140737488355328 ∧
    ∀ ad, a = some ad → (n = 0 ∧ cap = 0) ∨ (ad.block < w.heap.size ∧ ¬ Old ad.block ∧ ad.spot = none ∧ ∃ cs e fz, w.heap[ad.block]? = some (.cells cs e fz))
/-- what a call that started its hands leaves -/
structure RunRes (w : World) (Old : Nat → Prop) (N : Nat) (D : Nat → List Deed) (w' : World) : Prop where
  blk : ∀ b, b < w.heap.size → ¬ Old b → w'.heap[b]? = w.heap[b]?
  size : w.heap.size + 6 ≤ w'.heap.size
  os : w'.os = w.os
  tape : w'.tape = w.tape
  out : w'.output = w.output
  res : ∀ k, k < N → ∃ v0 v1 F, ResF (runR ⟨[], []⟩ (D k)) v0 v1 F w' ∧ w'.cell? ⟨w.heap.size + 1, 2 * k, none⟩ = some v0 ∧ w'.cell? ⟨w.heap.size + 1, 2 * k + 1, none⟩ = some v1 ∧ ∀ b, F b → w.heap.size + 6 ≤ b ∧ b < w'.heap.size
/-- one call's numbers -/
def phOf (N0 N n j0 : Nat) (Old : Nat → Prop) (D : Nat → List Deed) : Ph :=
  { ty := 50, ety := 33, Wg := N0 + 5, Ch := N0 + 3, C := N0 + 1, N := N, n := n, Low := N0 + 6, j0 := j0, Old := Old, Res := fun k v0 v1 F w => ResF (runR ⟨[], []⟩ (D k)) v0 v1 F w }
section
variable {W w : World} {slJ : Value} {N : Nat}
theorem newAt (w : World) (o : Obj) {n : Nat} (h : w.heap.size = n) : (w.alloc o).heap[n]? = some o := by subst h; exact heap_alloc_new w o
theorem wR_size : (wR5 W slJ N).heap.size = W.heap.size + 5 := by simp [wR5, wR4, wR3, wR2, wR1]
theorem wR_old {b : Nat} (hb : b < W.heap.size) : (wR5 W slJ N).heap[b]? = W.heap[b]? := by
  have h1 : (wR1 W slJ).heap[b]? = W.heap[b]? := Below.heap_alloc _ _ _ hb
  have h2 : (wR2 W slJ N).heap[b]? = W.heap[b]? := (Below.heap_alloc _ _ _ (by simp [wR1] <;> omega)).trans h1
  have h3 : (wR3 W slJ N).heap[b]? = W.heap[b]? := (Below.heap_alloc _ _ _ (by simp [wR2, wR1] <;> omega)).trans h2
  have h4 : (wR4 W slJ N).heap[b]? = W.heap[b]? := (Below.heap_alloc _ _ _ (by simp [wR3, wR2, wR1] <;> omega)).trans h3
  exact (Below.heap_alloc _ _ _ (by simp [wR4, wR3, wR2, wR1] <;> omega)).trans h4
theorem wR_0 : (wR5 W slJ N).heap[W.heap.size]? = some (.cells #[slJ] 22) := by
  have h1 : (wR1 W slJ).heap[W.heap.size]? = some (.cells #[slJ] 22) := heap_alloc_new _ _
  have h2 : (wR2 W slJ N).heap[W.heap.size]? = _ := (Below.heap_alloc _ _ _ (by simp [wR1] <;> omega)).trans h1
  have h3 : (wR3 W slJ N).heap[W.heap.size]? = _ := (Below.heap_alloc _ _ _ (by simp [wR2, wR1] <;> omega)).trans h2
  have h4 : (wR4 W slJ N).heap[W.heap.size]? = _ := (Below.heap_alloc _ _ _ (by simp [wR3, wR2, wR1] <;> omega)).trans h3
  exact (Below.heap_alloc _ _ _ (by simp [wR4, wR3, wR2, wR1] <;> omega)).trans h4
theorem wR_1 : (wR5 W slJ N).heap[W.heap.size + 1]? = some (.cells (outC N) 33) := by
  have h2 : (wR2 W slJ N).heap[W.heap.size + 1]? = some (.cells (outC N) 33) := by
    exact newAt (wR1 W slJ) _ (by simp [wR1])
  have h3 : (wR3 W slJ N).heap[W.heap.size + 1]? = _ := (Below.heap_alloc _ _ _ (by simp [wR2, wR1] <;> omega)).trans h2
  have h4 : (wR4 W slJ N).heap[W.heap.size + 1]? = _ := (Below.heap_alloc _ _ _ (by simp [wR3, wR2, wR1] <;> omega)).trans h3
  exact (Below.heap_alloc _ _ _ (by simp [wR4, wR3, wR2, wR1] <;> omega)).trans h4
theorem wR_2 : (wR5 W slJ N).heap[W.heap.size + 2]? = some (.cells #[.slice (some ⟨W.heap.size + 1, 0, none⟩) N N] 23) := by
  have h3 : (wR3 W slJ N).heap[W.heap.size + 2]? = some (.cells #[.slice (some ⟨W.heap.size + 1, 0, none⟩) N N] 23) := by
    exact newAt (wR2 W slJ N) _ (by simp [wR2, wR1])
  have h4 : (wR4 W slJ N).heap[W.heap.size + 2]? = _ := (Below.heap_alloc _ _ _ (by simp [wR3, wR2, wR1] <;> omega)).trans h3
  exact (Below.heap_alloc _ _ _ (by simp [wR4, wR3, wR2, wR1] <;> omega)).trans h4
theorem wR_3 : (wR5 W slJ N).heap[W.heap.size + 3]? = some (.chan N #[] false 0 0 false) := by
  have h4 : (wR4 W slJ N).heap[W.heap.size + 3]? = some (.chan N #[] false 0 0 false) := by
    exact newAt (wR3 W slJ N) _ (by simp [wR3, wR2, wR1])
  exact (Below.heap_alloc _ _ _ (by simp [wR4, wR3, wR2, wR1] <;> omega)).trans h4
theorem wR_4 : (wR5 W slJ N).heap[W.heap.size + 4]? = some (.cells #[.chan (some (W.heap.size + 3))] 40) := by
  exact newAt (wR4 W slJ N) _ (by simp [wR4, wR3, wR2, wR1])
theorem wR_os : (wR5 W slJ N).os = W.os ∧ (wR5 W slJ N).tape = W.tape ∧ (wR5 W slJ N).output = W.output := ⟨rfl, rfl, rfl⟩
theorem outC_size : (outC N).size = 2 * N := by simp [outC, size_madeCells, Nat.mul_comm]
end
theorem geomOf (N0 N n j0 : Nat) (Old : Nat → Prop) (D : Nat → List Deed) : Geom (phOf N0 N n j0 Old D) :=
  ⟨by show N0 + 5 < N0 + 6; omega, by show N0 + 3 < N0 + 6; omega, by show N0 + 1 < N0 + 6; omega, by show N0 + 5 ≠ N0 + 3; omega, by show N0 + 5 ≠ N0 + 1; omega, by show N0 + 3 ≠ N0 + 1; omega⟩
theorem resOkOf (N0 N n j0 : Nat) (Old : Nat → Prop) (D : Nat → List Deed) : ResOk (phOf N0 N n j0 Old D) := fun _ _ _ _ _ _ hk h => ResF.at hk h
end Go.Proofs.Ytjplnkkcmkpkbaa
