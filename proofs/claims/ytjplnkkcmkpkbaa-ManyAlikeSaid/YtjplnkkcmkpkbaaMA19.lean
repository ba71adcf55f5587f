/- Several of my texts in one: Mn14, Mn15, Mn16. -/
import Derived.Test.YtjplnkkcmkpkbaaMA18
import Derived.Test.YtjplnkkcmkpkbaaMA11
import Derived.Conc.WgWords
set_option linter.unusedSimpArgs false
set_option linter.unusedVariables false
/- The machine, 14: a hand at one job: the region that asks the tape for its order. -/
namespace Go.Proofs.Ytjplnkkcmkpkbaa
open Go.Conc Go.ConcN Go.RowKit Go.Conc.Lib Go.ConcR.Gen Go.ConcN.Gen
open Go.ConcR (KK wgBlock WgAt stA smA rd wr mk DC0)

theorem RS.of_dp' {q : Ph} (hG : Geom q) {F F' : Foot} {w w' : World} {es : Array Event} (hF : ∀ b, F b → q.Low ≤ b) (hl : q.Low ≤ w.heap.size) (hD : Dp q.low F F' w w' es) : RS q w w' := by
  have nf : ∀ b, b < q.Low → w'.heap[b]? = w.heap[b]? := fun b hb => hD.old b (by omega) fun hf => by have := hF b hf; omega
  exact ⟨fun b hb => nf b hb.1, fun ⟨st, sm, x⟩ => ⟨st, sm, x.of_block (nf _ hG.wg)⟩, fun r hr => ⟨r, Nat.le_refl _, hr.1, by rw [nf _ hG.ch]; exact hr.2⟩, fun ⟨cs, h1, h2⟩ => ⟨cs, by rw [nf _ hG.c]; exact h1, h2⟩, hD.tape, hD.os, hD.out, hD.grow⟩
theorem Priv.with {P : Program} {q : Ph} (hG : Geom q) {wB : World} {Stop : Foot → Goroutine → World → Prop} : ∀ (r : Rk) (F : Foot) (g : Goroutine) (w : World), Priv P false (RS q) q.low Stop r F g w → RS q wB w → (∀ b, F b → q.Low ≤ b) → q.Low ≤ wB.heap.size →
    Priv P false (RS q) q.low (fun F g w => Stop F g w ∧ RS q wB w ∧ ∀ b, F b → q.Low ≤ b) r F g w := by
  intro r
  induction r with
  | z => exact fun F g w h hr hF _ w1 h1 k1 => ⟨h w1 h1 k1, hr.trans h1, hF⟩
  | mk f ih =>
    intro F g w h hr hF hl
    rcases h with h | ⟨hrun, h⟩
    · exact .inl fun w1 h1 k1 => ⟨h w1 h1 k1, hr.trans h1, hF⟩
    · refine .inr ⟨hrun, fun w1 h1 k1 => ?_⟩
      obtain ⟨g', w', es, F', e1, e2, e3⟩ := h w1 h1 k1
      have hl1 : q.Low ≤ w1.heap.size := by have := (hr.trans h1).grow; omega
      refine ⟨g', w', es, F', e1, e2, ih w1 F' g' w' e3 ((hr.trans h1).trans (RS.of_dp' hG hF hl1 e2)) (fun b hb => ?_) hl⟩
      rcases e2.new b hb with h | h
      · exact hF b h
      · omega

noncomputable def ops3 : Array Oper := match loop9 with
  | .seq _ (.seq _ (.block _ (.seq _ (.region _ ops _)))) => ops
  | _ => #[]
theorem ops3_size : ops3.size = 9 := by kernel_rfl
theorem ready_after {ops : Array Oper} {listed : Array Bool} {i : Nat} (h : i ∈ Region.ready .any ops listed) {o : Oper} (ho : ops[i]? = some o) {e : Edge} (he : e ∈ o.after) (hb : Region.binds .any e = true) : listed.getD e.on false = true := by
  simp only [Region.ready, List.mem_filter, List.mem_range, Bool.and_eq_true, ho, Option.map_some, Option.getD_some, Array.all_eq_true'] at h
  have := h.2.2 e he
  simpa [hb] using this

theorem ready_not {ops : Array Oper} {listed : Array Bool} {i : Nat} (h : i ∈ Region.ready .any ops listed) : listed.getD i false = false := by
  simp only [Region.ready, List.mem_filter, List.mem_range, Bool.and_eq_true, Bool.not_eq_true'] at h
  have h2 := h.2.1
  rw [Array.getD_eq_getD_getElem?] at h2 ⊢
  cases e : listed[i]? with
  | none => rfl
  | some b => rw [e] at h2; exact h2

/-- where a hand stands in that region -/
structure RI (q : Ph) (wB : World) (bc bj bo k : Nat) (slJ sv : Value) (ad : Addr) (listed : Array Bool) (F : Foot) (T : Array Value) (w : World) : Prop where
  rs : RS q wB w ∧ WgLive q.ty q.Wg w
  size : T.size = 18
  t0 : T[0]? = some (.pointer (some ⟨bc, 0, none⟩))
  t1 : T[1]? = some (.pointer (some ⟨bj, 0, none⟩))
  t2 : T[2]? = some (.pointer (some ⟨bo, 0, none⟩))
  t3 : T[3]? = some (.pointer (some ⟨q.Wg, 0, none⟩))
  t4 : T[4]? = some (.int .i64 k)
  t5 : T[5]? = some (.chan (some q.Ch))
  s0 : listed.getD 0 false = true → T[9]? = some (.slice (some ⟨q.C, 0, none⟩) q.N q.N)
  s1 : listed.getD 1 false = true → T[10]? = some (.int .i64 k)
  s2 : listed.getD 2 false = true → T[11]? = some slJ
  s3 : listed.getD 3 false = true → T[12]? = some (.int .i64 k)
  s4 : listed.getD 4 false = true → T[13]? = some (.pointer (some ad))
  s5 : listed.getD 5 false = true → T[14]? = some sv
  s6 : listed.getD 6 false = true → listed.getD 8 false = false → ∃ v0 v1, T[15]? = some (.agg #[v0, v1]) ∧ q.Res k v0 v1 F w
  s7 : listed.getD 7 false = true → T[16]? = some (.pointer (some ⟨q.C, 2 * k, none⟩))
  low : ∀ b, F b → q.Low ≤ b
  end_ : listed.getD 8 false = true → ∀ b, ¬ F b
  ord : listed.getD 8 false = true → ∀ i, i < 8 → listed.getD i false = true
theorem getD_set {l : Array Bool} {i j : Nat} (hi : i < l.size) : (l.setIfInBounds i true).getD j false = true ↔ (j = i ∨ l.getD j false = true) := by
  simp only [Array.getD_eq_getD_getElem?, Array.getElem?_setIfInBounds]
  by_cases e : i = j
  · subst e; simp [hi]
  · simp [e, Ne.symm e]
theorem put_get {T : Array Value} {i j : Nat} {v : Value} (hi : i < T.size) : (T.setIfInBounds i v)[j]? = if i = j then some v else T[j]? := by
  simp only [Array.getElem?_setIfInBounds]
  by_cases e : i = j
  · subst e; simp [hi]
  · simp [e]
section
variable {q : Ph} {wB w w₁ : World} {bc bj bo k : Nat} {slJ sv : Value} {ad : Addr} {listed : Array Bool} {F : Foot} {T : Array Value}
theorem RI.rely (hR : ResOk q) (h : RI q wB bc bj bo k slJ sv ad listed F T w) (hr : RS q w w₁) (hk : ∀ b, F b → w₁.heap[b]? = w.heap[b]?) : RI q wB bc bj bo k slJ sv ad listed F T w₁ :=
  ⟨rs_rely h.rs hr, h.size, h.t0, h.t1, h.t2, h.t3, h.t4, h.t5, h.s0, h.s1, h.s2, h.s3, h.s4, h.s5, fun e e8 => let ⟨v0, v1, h1, h2⟩ := h.s6 e e8; ⟨v0, v1, h1, hR _ _ _ _ _ _ hk h2⟩, h.s7, h.low, h.end_, h.ord⟩
/-- an operation of the first eight has put its value -/
theorem RI.put (h : RI q wB bc bj bo k slJ sv ad listed F T w) (hsz : listed.size = 9) {i : Nat} (hi : i < 8) {v : Value}
    (hv : (i = 0 → v = .slice (some ⟨q.C, 0, none⟩) q.N q.N) ∧ (i = 1 → v = .int .i64 k) ∧ (i = 2 → v = slJ) ∧ (i = 3 → v = .int .i64 k) ∧ (i = 4 → v = .pointer (some ad)) ∧ (i = 5 → v = sv) ∧ (i = 6 → ∃ v0 v1, v = .agg #[v0, v1] ∧ q.Res k v0 v1 F w) ∧ (i = 7 → v = .pointer (some ⟨q.C, 2 * k, none⟩))) :
    RI q wB bc bj bo k slJ sv ad (listed.setIfInBounds i true) F (T.setIfInBounds (9 + i) v) w := by
  have hs := h.size
  have hg : ∀ j, (T.setIfInBounds (9 + i) v)[j]? = if 9 + i = j then some v else T[j]? := fun j => put_get (by omega)
  have hl : ∀ j, (listed.setIfInBounds i true).getD j false = true ↔ (j = i ∨ listed.getD j false = true) := fun j => getD_set (by omega)
  obtain ⟨a0, a1, a2, a3, a4, a5, a6, a7⟩ := hv
  refine ⟨h.rs, by simp [hs], ?_, ?_, ?_, ?_, ?_, ?_, ?_, ?_, ?_, ?_, ?_, ?_, ?_, ?_, h.low, ?_, ?_⟩
  · rw [hg, if_neg (by omega)]; exact h.t0
  · rw [hg, if_neg (by omega)]; exact h.t1
  · rw [hg, if_neg (by omega)]; exact h.t2
  · rw [hg, if_neg (by omega)]; exact h.t3
  · rw [hg, if_neg (by omega)]; exact h.t4
  · rw [hg, if_neg (by omega)]; exact h.t5
  · intro e; rw [hg]
    by_cases c : i = 0
    · subst c; rw [if_pos rfl, a0 rfl]
    · rw [if_neg (by omega)]; exact h.s0 (((hl 0).1 e).resolve_left (by omega))
  · intro e; rw [hg]
    by_cases c : i = 1
    · subst c; rw [if_pos rfl, a1 rfl]
    · rw [if_neg (by omega)]; exact h.s1 (((hl 1).1 e).resolve_left (by omega))
  · intro e; rw [hg]
    by_cases c : i = 2
    · subst c; rw [if_pos rfl, a2 rfl]
    · rw [if_neg (by omega)]; exact h.s2 (((hl 2).1 e).resolve_left (by omega))
  · intro e; rw [hg]
    by_cases c : i = 3
    · subst c; rw [if_pos rfl, a3 rfl]
    · rw [if_neg (by omega)]; exact h.s3 (((hl 3).1 e).resolve_left (by omega))
  · intro e; rw [hg]
    by_cases c : i = 4
    · subst c; rw [if_pos rfl, a4 rfl]
    · rw [if_neg (by omega)]; exact h.s4 (((hl 4).1 e).resolve_left (by omega))
  · intro e; rw [hg]
    by_cases c : i = 5
    · subst c; rw [if_pos rfl, a5 rfl]
    · rw [if_neg (by omega)]; exact h.s5 (((hl 5).1 e).resolve_left (by omega))
  · intro e e8
    by_cases c : i = 6
    · subst c
      obtain ⟨v0, v1, e1, e2⟩ := a6 rfl
      exact ⟨v0, v1, by rw [hg, if_pos rfl, e1], e2⟩
    · have e8' : listed.getD 8 false = false := by
        cases e9 : listed.getD 8 false with
        | false => rfl
        | true => rw [(hl 8).2 (.inr e9)] at e8; cases e8
      obtain ⟨v0, v1, e1, e2⟩ := h.s6 (((hl 6).1 e).resolve_left (by omega)) e8'
      exact ⟨v0, v1, by rw [hg, if_neg (by omega)]; exact e1, e2⟩
  · intro e; rw [hg]
    by_cases c : i = 7
    · subst c; rw [if_pos rfl, a7 rfl]
    · rw [if_neg (by omega)]; exact h.s7 (((hl 7).1 e).resolve_left (by omega))
  · exact fun e => h.end_ (((hl 8).1 e).resolve_left (by omega))
  · exact fun e j hj => (hl j).2 (.inr (h.ord (((hl 8).1 e).resolve_left (by omega)) j hj))
end
end Go.Proofs.Ytjplnkkcmkpkbaa
/- The machine, 15: a hand at one job: the operations of that region. -/
namespace Go.Proofs.Ytjplnkkcmkpkbaa
open Go.Conc Go.ConcN Go.RowKit Go.Conc.Lib Go.ConcR.Gen Go.ConcN.Gen
open Go.ConcR (KK wgBlock WgAt stA smA rd wr mk DC0)

def oA (d : Nat) (op : Op) (ty : TypeId) (af : Array Edge) : Oper := { dst := some d, op := op, type := ty, pos := "many.go:27", after := af, guard := none }
abbrev edD (n : Nat) : Edge := { on := n, ground := .data }
abbrev edP (n : Nat) : Edge := { on := n, ground := .phase }
theorem o3_0 : ops3[0]? = some (oA 9 (.load 23 (.tmp 2)) 23 #[]) := by kernel_rfl
theorem o3_1 : ops3[1]? = some (oA 10 (.move (.tmp 4)) 3 #[]) := by kernel_rfl
theorem o3_2 : ops3[2]? = some (oA 11 (.load 22 (.tmp 1)) 22 #[]) := by kernel_rfl
theorem o3_3 : ops3[3]? = some (oA 12 (.move (.tmp 4)) 3 #[]) := by kernel_rfl
theorem o3_4 : ops3[4]? = some (oA 13 (.indexAddr 22 (.tmp 11) (.tmp 12)) 0 #[edD 2, edD 3]) := by kernel_rfl
theorem o3_5 : ops3[5]? = some (oA 14 (.load 29 (.tmp 13)) 29 #[edD 4]) := by kernel_rfl
theorem o3_6 : ops3[6]? = some (oA 15 (.call { callee := .value (.func 10), args := #[.tmp 14], argTypes := #[29] }) 33 #[edD 5]) := by kernel_rfl
theorem o3_7 : ops3[7]? = some (oA 16 (.indexAddr 23 (.tmp 9) (.tmp 10)) 0 #[edD 0, edD 1, edP 0, edP 1, edP 2, edP 3, edP 4, edP 5, edP 6]) := by kernel_rfl
theorem o3_8 : ops3[8]? = some { dst := none, op := .store 33 (.tmp 16) (.tmp 15), type := 0, pos := "many.go:27", after := #[edD 7, edD 6, { on := 6, ground := .chain }, edP 0, edP 1, edP 2, edP 3, edP 4, edP 5, edP 6], guard := none } := by kernel_rfl

section
variable {T : Array Value} {w : World}
theorem run_ld {d : Nat} {ty : TypeId} {x : Nat} {af : Array Edge} {ad : Addr} {v : Value} (hty : ty = 23 ∨ ty = 22 ∨ ty = 29) (hx : T[x]? = some (.pointer (some ad))) (hc : w.cell? ad = some v) :
    (execOp (Act.eval ⟨T, []⟩) (oA d (.load ty (.tmp x)) ty af)).run Try.prog w = .ok (.value v) w ∧ (execOp (Act.eval ⟨T, []⟩) (oA d (.load ty (.tmp x)) ty af)).events Try.prog w #[] = #[⟨.cell ad, false, false⟩] := by
  rcases hty with rfl | rfl | rfl <;> (unfold execOp oA; simp [go_sem, Act.eval, hx, hc])
theorem run_mv {d x : Nat} {ty : TypeId} {af : Array Edge} {v : Value} (hx : T[x]? = some v) :
    (execOp (Act.eval ⟨T, []⟩) (oA d (.move (.tmp x)) ty af)).run Try.prog w = .ok (.value v) w ∧ (execOp (Act.eval ⟨T, []⟩) (oA d (.move (.tmp x)) ty af)).events Try.prog w #[] = #[] := by
  unfold execOp oA; simp [go_sem, Act.eval, hx]
theorem run_ix4 {d : Nat} {ty : TypeId} {af : Array Edge} {J o k n cap : Nat} (h1 : T[11]? = some (.slice (some ⟨J, o, none⟩) n cap)) (h2 : T[12]? = some (.int .i64 (k : Nat))) (hk : k < n) :
    (execOp (Act.eval ⟨T, []⟩) (oA d (.indexAddr 22 (.tmp 11) (.tmp 12)) ty af)).run Try.prog w = .ok (.value (.pointer (some ⟨J, o + k, none⟩))) w ∧ (execOp (Act.eval ⟨T, []⟩) (oA d (.indexAddr 22 (.tmp 11) (.tmp 12)) ty af)).events Try.prog w #[] = #[] := by
  unfold execOp oA
  simp [go_sem, Act.eval, h1, h2, hk]
theorem run_ix7 {d : Nat} {ty : TypeId} {af : Array Edge} {C k n cap : Nat} (h1 : T[9]? = some (.slice (some ⟨C, 0, none⟩) n cap)) (h2 : T[10]? = some (.int .i64 (k : Nat))) (hk : k < n) :
    (execOp (Act.eval ⟨T, []⟩) (oA d (.indexAddr 23 (.tmp 9) (.tmp 10)) ty af)).run Try.prog w = .ok (.value (.pointer (some ⟨C, 2 * k, none⟩))) w ∧ (execOp (Act.eval ⟨T, []⟩) (oA d (.indexAddr 23 (.tmp 9) (.tmp 10)) ty af)).events Try.prog w #[] = #[] := by
  unfold execOp oA
  simp [go_sem, Act.eval, h1, h2, hk, Nat.mul_comm]
theorem run_call {d : Nat} {ty : TypeId} {af : Array Edge} {v : Value} (h : T[14]? = some v) :
    (execOp (Act.eval ⟨T, []⟩) (oA d (.call { callee := .value (.func 10), args := #[.tmp 14], argTypes := #[29] }) ty af)).run Try.prog w = .ok (.enter 10 #[v]) w ∧ (execOp (Act.eval ⟨T, []⟩) (oA d (.call { callee := .value (.func 10), args := #[.tmp 14], argTypes := #[29] }) ty af)).events Try.prog w #[] = #[] := by
  have hb : (Try.f10.body.isNone) = false := by kernel_rfl
  have hn : (Try.f10.name == "runtime.NumGoroutine") = false := by kernel_rfl
  refine ⟨(run_call_body (P := Try.prog) (a := ⟨T, []⟩) (w := w) rfl Try.func10 hn hb).trans ?_, (events_call_body (P := Try.prog) (a := ⟨T, []⟩) (w := w) (o := oA d (.call { callee := .value (.func 10), args := #[.tmp 14], argTypes := #[29] }) ty af) rfl Try.func10 hn hb #[])⟩
  simp [Act.eval, h]
theorem run_st {C k N : Nat} {a0 a1 : Option Addr} {l0 c0 l1 c1 : Nat} {cs : Array Value} {ety : TypeId} (h1 : T[16]? = some (.pointer (some ⟨C, 2 * k, none⟩))) (h2 : T[15]? = some (.agg #[.slice a0 l0 c0, .slice a1 l1 c1])) (hc : w.heap[C]? = some (.cells cs ety)) (hs : cs.size = 2 * N) (hk : k < N) {o : Oper} (ho : o.op = .store 33 (.tmp 16) (.tmp 15)) :
    (execOp (Act.eval ⟨T, []⟩) o).run Try.prog w = .ok .skip ((w.setCell ⟨C, 2 * k, none⟩ (.slice a0 l0 c0)).setCell ⟨C, 2 * k + 1, none⟩ (.slice a1 l1 c1)) ∧ (execOp (Act.eval ⟨T, []⟩) o).events Try.prog w #[] = #[⟨.cell ⟨C, 2 * k, none⟩, true, false⟩, ⟨.cell ⟨C, 2 * k + 1, none⟩, true, false⟩] := by
  have e0 : w.cell? ⟨C, 2 * k, none⟩ = some (cs[2 * k]'(by omega)) := by simp only [World.cell?, hc]; simp
  have e1 : w.cell? ⟨C, 2 * k + 1, none⟩ = some (cs[2 * k + 1]'(by omega)) := by simp only [World.cell?, hc]; simp
  have z0 : ∀ d, w.frozen? ⟨C, d, none⟩ = false := fun d => by simp [World.frozen?, hc]
  have y1 := fun w => run_store Try.prog w ⟨C, 2 * k + 1, none⟩ (.slice a1 l1 c1) .plain rfl
  have x1 : (w.setCell ⟨C, 2 * k, none⟩ (.slice a0 l0 c0)).cell? ⟨C, 2 * k + 1, none⟩ = some (cs[2 * k + 1]'(by omega)) := (World.cell?_setCell_other _ _ _ _ (by simp)).trans e1
  have z1 : (w.setCell ⟨C, 2 * k, none⟩ (.slice a0 l0 c0)).frozen? ⟨C, 2 * k + 1, none⟩ = false := by simp [World.frozen?, setCell_block hc]
  unfold execOp
  simp only [ho]
  simp [go_sem, Act.eval, h1, h2, e0, x1, z0, z1, y1, stored, storedEv]
end
end Go.Proofs.Ytjplnkkcmkpkbaa
/- The machine, 16: a hand at one job, in whatever order its region is taken. -/
namespace Go.Proofs.Ytjplnkkcmkpkbaa
open Go.Conc Go.ConcN Go.RowKit Go.Conc.Lib Go.ConcR.Gen Go.ConcN.Gen
open Go.ConcR (KK wgBlock WgAt stA smA rd wr mk DC0)

def holdOf (k : Nat) (listed : Array Bool) : Option Nat := if listed.getD 8 false = true then none else some k
theorem holdOf_set {k i : Nat} {listed : Array Bool} (hsz : listed.size = 9) (hi : i < 8) : holdOf k (listed.setIfInBounds i true) = holdOf k listed := by
  have := getD_set (l := listed) (i := i) (j := 8) (by omega)
  unfold holdOf
  by_cases e : listed.getD 8 false = true
  · rw [if_pos e, if_pos (this.2 (.inr e))]
  · rw [if_neg e, if_neg fun h => e ((this.1 h).resolve_left (by omega))]
theorem not_ready {ops : Array Oper} {listed : Array Bool} {i : Nat} (h : Region.ready .any ops listed = []) {o : Oper} (ho : ops[i]? = some o) (hs : listed.size = ops.size) (ha : ∀ e ∈ o.after, listed.getD e.on false = true) : listed.getD i false = true := by
  have hi : i < ops.size := (Array.getElem?_eq_some_iff.1 ho).1
  cases hb : listed.getD i false with
  | true => rfl
  | false =>
    have : i ∈ Region.ready .any ops listed := by
      simp only [Region.ready, List.mem_filter, List.mem_range, Bool.and_eq_true, ho, Option.map_some, Option.getD_some, Array.all_eq_true']
      refine ⟨hi, ?_, fun e he => by simp [ha e he]⟩
      rw [Array.getD_eq_getD_getElem?, Array.getElem?_eq_getElem (by omega)] at hb ⊢
      simpa using hb
    rw [h] at this; cases this

section
variable {q : Ph} {wB w : World} {bc bj bo k J oJ cap : Nat} {slJ sv : Value} {ad : Addr} {listed : Array Bool} {F : Foot} {T : Array Value} {kk : List Item} {rest : List Nat}
def KR (q : Ph) (wB : World) (bc bj bo k : Nat) (slJ sv : Value) (ad : Addr) (kk : List Item) (listed : Array Bool) (rest : List Nat) : Prop :=
  ∀ F T w, RI q wB bc bj bo k slJ sv ad listed F T w → ∃ rk, Wk Try.prog q rk (holdOf k listed) F (G (b9.at ⟨T, []⟩ (.inRegion ops3 rest :: kk)) [bot]) w

theorem idleOp (hR : ResOk q) {i : Nat} {o : Oper} {v : Value} (ho : ops3[i]? = some o) (hg : o.guard = none) (hd : o.dst = some (9 + i)) (hi : i < 8) (hsz : listed.size = 9) (hn : KR q wB bc bj bo k slJ sv ad kk (listed.setIfInBounds i true) rest) (hI : RI q wB bc bj bo k slJ sv ad listed F T w)
    (hrun : ∀ w₁, RI q wB bc bj bo k slJ sv ad listed F T w₁ → (execOp (Act.eval ⟨T, []⟩) o).run Try.prog w₁ = .ok (.value v) w₁ ∧ ∀ e ∈ (execOp (Act.eval ⟨T, []⟩) o).events Try.prog w₁ #[], ∃ a, e = ⟨.cell a, false, false⟩ ∧ q.low a.block)
    (hv : (i = 0 → v = .slice (some ⟨q.C, 0, none⟩) q.N q.N) ∧ (i = 1 → v = .int .i64 k) ∧ (i = 2 → v = slJ) ∧ (i = 3 → v = .int .i64 k) ∧ (i = 4 → v = .pointer (some ad)) ∧ (i = 5 → v = sv) ∧ (i ≠ 6) ∧ (i = 7 → v = .pointer (some ⟨q.C, 2 * k, none⟩))) :
    ∃ rk, Wk Try.prog q rk (holdOf k listed) F (G (b9.at ⟨T, []⟩ (.inRegion ops3 (i :: rest) :: kk)) [bot]) w := by
  refine Wk.make rfl fun w₁ h1 h2 => ?_
  have hI1 := hI.rely hR h1 h2
  obtain ⟨r1, e1⟩ := hrun w₁ hI1
  have hw : Region.wanted o (yielded ops3 T) = true := by simp [Region.wanted, hg]
  obtain ⟨a0, a1, a2, a3, a4, a5, a6, a7⟩ := hv
  obtain ⟨rk, hk⟩ := hn F (T.setIfInBounds (9 + i) v) w₁ (hI1.put hsz hi ⟨a0, a1, a2, a3, a4, a5, fun e => absurd e a6, a7⟩)
  have hst := stepG_value (main := false) (b := b9) (a := ⟨T, []⟩) (k := kk) (cs := [bot]) (rest := rest) ho hw (by k_ne) r1
  rw [holdOf_set hsz hi] at hk
  refine ⟨rk, .inl ⟨_, _, _, F, hst, DKs.dp ⟨⟨w₁.drawn, rfl⟩, fun e he => e1 e (mem_listed he)⟩ F, ?_⟩⟩
  rw [hd]
  exact hk

/-- what is asked of the job's own work -/
def Does (q : Ph) (wB : World) (k : Nat) (sv : Value) : Prop := ∀ c cs F w, RS q wB w → ∃ r, Priv Try.prog false (RS q) q.low (fun F g w => ∃ v0 v1, g = G (c.finish (.agg #[v0, v1])) cs ∧ q.Res k v0 v1 F w) r F (G (Frame.enter Try.prog 10 #[sv] .normal) (c :: cs)) w

set_option maxHeartbeats 1000000 in
theorem jobStep (hR : ResOk q) (hG : Geom q) (hW : WF q wB bc bj bo slJ) (hslJ : slJ = .slice (some ⟨J, oJ, none⟩) q.N cap) (had : ad = ⟨J, oJ + k, none⟩) (hJ : q.low J) (hsv : wB.cell? ad = some sv) (hk : k < q.N) (hlo : q.Low ≤ wB.heap.size) (hpay : PayO q wB) (hlB : WgLive q.ty q.Wg wB)
    (hsl : ∀ v0 v1 F w, q.Res k v0 v1 F w → (∃ a l c, v0 = .slice a l c) ∧ ∃ a l c, v1 = .slice a l c) (hdo : Does q wB k sv)
    (listed : Array Bool) (i : Nat) (rest : List Nat) (hsz0 : listed.size = ops3.size) (hi : i ∈ Region.ready .any ops3 listed) (hn : KR q wB bc bj bo k slJ sv ad kk (listed.setIfInBounds i true) rest) : KR q wB bc bj bo k slJ sv ad kk listed (i :: rest) := by
  have hsz : listed.size = 9 := hsz0.trans ops3_size
  intro F T w hI
  have hilt : i < 9 := by
    simp only [Region.ready, List.mem_filter, List.mem_range] at hi
    rw [ops3_size] at hi; exact hi.1
  have none_ : ∀ {es : Array Event}, es = #[] → ∀ e ∈ es, ∃ a, e = ⟨.cell a, false, false⟩ ∧ q.low a.block := fun h e he => by rw [h] at he; simp at he
  have one_ : ∀ {es : Array Event} {a : Addr}, es = #[⟨.cell a, false, false⟩] → q.low a.block → ∀ e ∈ es, ∃ a, e = ⟨.cell a, false, false⟩ ∧ q.low a.block := fun h hl e he => by rw [h] at he; simp at he; exact ⟨_, he, hl⟩
  match i, hilt with
  | 0, _ =>
    refine idleOp hR o3_0 rfl rfl (by omega) hsz hn hI (v := .slice (some ⟨q.C, 0, none⟩) q.N q.N) (fun w₁ h => ?_) (by simp)
    have := run_ld (d := 9) (af := #[]) (.inl rfl) h.t2 ((low_cell h.rs.1 hW.lo).trans hW.out)
    exact ⟨this.1, one_ this.2 hW.lo⟩
  | 1, _ =>
    refine idleOp hR o3_1 rfl rfl (by omega) hsz hn hI (v := .int .i64 k) (fun w₁ h => ?_) (by simp)
    have := run_mv (w := w₁) (d := 10) (ty := 3) (af := #[]) h.t4
    exact ⟨this.1, none_ this.2⟩
  | 2, _ =>
    refine idleOp hR o3_2 rfl rfl (by omega) hsz hn hI (v := slJ) (fun w₁ h => ?_) (by simp)
    have := run_ld (d := 11) (af := #[]) (.inr (.inl rfl)) h.t1 ((low_cell h.rs.1 hW.lj).trans hW.jobs)
    exact ⟨this.1, one_ this.2 hW.lj⟩
  | 3, _ =>
    refine idleOp hR o3_3 rfl rfl (by omega) hsz hn hI (v := .int .i64 k) (fun w₁ h => ?_) (by simp)
    have := run_mv (w := w₁) (d := 12) (ty := 3) (af := #[]) h.t4
    exact ⟨this.1, none_ this.2⟩
  | 4, _ =>
    have d2 := ready_after hi o3_4 (e := edD 2) (by simp [oA]) rfl
    have d3 := ready_after hi o3_4 (e := edD 3) (by simp [oA]) rfl
    refine idleOp hR o3_4 rfl rfl (by omega) hsz hn hI (v := .pointer (some ad)) (fun w₁ h => ?_) (by simp)
    have := run_ix4 (w := w₁) (d := 13) (ty := 0) (af := #[edD 2, edD 3]) (by rw [← hslJ]; exact h.s2 d2) (h.s3 d3) hk
    rw [had]
    exact ⟨this.1, none_ this.2⟩
  | 5, _ =>
    have d4 := ready_after hi o3_5 (e := edD 4) (by simp [oA]) rfl
    refine idleOp hR o3_5 rfl rfl (by omega) hsz hn hI (v := sv) (fun w₁ h => ?_) (by simp)
    have := run_ld (w := w₁) (d := 14) (af := #[edD 4]) (.inr (.inr rfl)) (h.s4 d4) (by rw [had]; exact (low_cell h.rs.1 hJ).trans (had ▸ hsv))
    exact ⟨this.1, one_ this.2 (by rw [had]; exact hJ)⟩
  | 6, _ =>
    have d5 := ready_after hi o3_6 (e := edD 5) (by simp [oA]) rfl
    refine Wk.make rfl fun w₁ h1 h2 => ?_
    have hI1 := hI.rely hR h1 h2
    obtain ⟨r1, e1⟩ := run_call (w := w₁) (d := 15) (ty := 33) (af := #[edD 5]) (hI1.s5 d5)
    have hst := stepG_enter (main := false) (b := b9) (a := ⟨T, []⟩) (k := kk) (cs := [bot]) (rest := rest) o3_6 rfl (by k_ne) r1
    obtain ⟨r, hp⟩ := hdo (b9.at ⟨T, []⟩ (.inRegion ops3 (6 :: rest) :: kk)) [bot] F w₁ hI1.rs.1
    have hcont : ∀ (F' : Foot) (g' : Goroutine) (w' : World), ((∃ v0 v1, g' = G ((b9.at ⟨T, []⟩ (.inRegion ops3 (6 :: rest) :: kk)).finish (.agg #[v0, v1])) [bot] ∧ q.Res k v0 v1 F' w') ∧ RS q wB w' ∧ ∀ b, F' b → q.Low ≤ b) → ∃ r, Wk Try.prog q r (holdOf k listed) F' g' w' := by
      intro F' g' w' hs
      obtain ⟨⟨v0, v1, rfl, hres⟩, hrs, hlow⟩ := hs
      have hlive : WgLive q.ty q.Wg w' := hrs.live hlB
      have n6 := ready_not hi
      have n8 : ¬ listed.getD 8 false = true := fun e => by rw [hI.ord e 6 (by omega)] at n6; cases n6
      have hI2 : RI q wB bc bj bo k slJ sv ad (listed.setIfInBounds 6 true) F' (T.setIfInBounds (9 + 6) (.agg #[v0, v1])) w' := by
        have hIa : RI q wB bc bj bo k slJ sv ad listed F' T w' := ⟨⟨hrs, hlive⟩, hI.size, hI.t0, hI.t1, hI.t2, hI.t3, hI.t4, hI.t5, hI.s0, hI.s1, hI.s2, hI.s3, hI.s4, hI.s5, fun e => (by rw [n6] at e; cases e), hI.s7, hlow, fun e => absurd e n8, hI.ord⟩
        exact hIa.put hsz (by omega) (by simp; exact ⟨v0, v1, ⟨rfl, rfl⟩, hres⟩)
      have := hn F' _ w' hI2
      rw [holdOf_set hsz (by omega)] at this
      rw [Frame.finish_at, o3_6]
      exact this
    obtain ⟨rk, hwk⟩ := Wk.of_priv hcont r F _ w₁ (Priv.with hG r F _ w₁ hp hI1.rs.1 hI1.low hlo)
    exact ⟨rk, .inl ⟨_, _, _, F, hst, DKs.dp ⟨⟨w₁.drawn, rfl⟩, fun e he => by have := mem_listed he; rw [e1] at this; simp at this⟩ F, hwk⟩⟩
  | 7, _ =>
    have d0 := ready_after hi o3_7 (e := edD 0) (by simp [oA]) rfl
    have d1 := ready_after hi o3_7 (e := edD 1) (by simp [oA]) rfl
    refine idleOp hR o3_7 rfl rfl (by omega) hsz hn hI (v := .pointer (some ⟨q.C, 2 * k, none⟩)) (fun w₁ h => ?_) (by simp)
    have := run_ix7 (w := w₁) (d := 16) (ty := 0) (af := #[edD 0, edD 1, edP 0, edP 1, edP 2, edP 3, edP 4, edP 5, edP 6]) (h.s0 d0) (h.s1 d1) hk
    exact ⟨this.1, none_ this.2⟩
  | 8, _ =>
    have d6 := ready_after hi o3_8 (e := edD 6) (by simp) rfl
    have d7 := ready_after hi o3_8 (e := edD 7) (by simp) rfl
    have n8 := ready_not hi
    have hold8 : holdOf k listed = some k := by unfold holdOf; rw [n8]; simp
    refine Wk.make rfl fun w₁ h1 h2 => ?_
    have hI1 := hI.rely hR h1 h2
    obtain ⟨v0, v1, hv, hres⟩ := hI1.s6 d6 n8
    obtain ⟨⟨a0, l0, c0, rfl⟩, a1, l1, c1, rfl⟩ := hsl v0 v1 F w₁ hres
    obtain ⟨cs, hc, hcs⟩ := hI1.rs.1.pay hpay
    obtain ⟨r1, e1⟩ := run_st (hI1.s7 d7) hv hc hcs hk (o := { dst := none, op := .store 33 (.tmp 16) (.tmp 15), type := 0, pos := "many.go:27", after := #[edD 7, edD 6, { on := 6, ground := .chain }, edP 0, edP 1, edP 2, edP 3, edP 4, edP 5, edP 6], guard := none }) rfl
    have hst := stepG_none (main := false) (b := b9) (a := ⟨T, []⟩) (k := kk) (cs := [bot]) (rest := rest) o3_8 rfl (by k_ne) r1
    have hrs2 : RS q w₁ (put2 q w₁ k (.slice a0 l0 c0) (.slice a1 l1 c1)) := RS.put2 hG
    have hall : ∀ j, j < 8 → listed.getD j false = true := fun j hj => by
      match j, hj with
      | 0, _ => exact ready_after hi o3_8 (e := edP 0) (by simp) rfl
      | 1, _ => exact ready_after hi o3_8 (e := edP 1) (by simp) rfl
      | 2, _ => exact ready_after hi o3_8 (e := edP 2) (by simp) rfl
      | 3, _ => exact ready_after hi o3_8 (e := edP 3) (by simp) rfl
      | 4, _ => exact ready_after hi o3_8 (e := edP 4) (by simp) rfl
      | 5, _ => exact ready_after hi o3_8 (e := edP 5) (by simp) rfl
      | 6, _ => exact d6
      | 7, _ => exact d7
    have hl : ∀ j, (listed.setIfInBounds 8 true).getD j false = true ↔ (j = 8 ∨ listed.getD j false = true) := fun j => getD_set (by omega)
    have t8 : (listed.setIfInBounds 8 true).getD 8 false = true := (hl 8).2 (.inl rfl)
    obtain ⟨rk, hwk⟩ := hn (fun _ => False) T (put2 q w₁ k (.slice a0 l0 c0) (.slice a1 l1 c1))
      ⟨rs_rely hI1.rs hrs2, hI.size, hI.t0, hI.t1, hI.t2, hI.t3, hI.t4, hI.t5, fun _ => hI.s0 (hall 0 (by omega)), fun _ => hI.s1 (hall 1 (by omega)), fun _ => hI.s2 (hall 2 (by omega)), fun _ => hI.s3 (hall 3 (by omega)), fun _ => hI.s4 (hall 4 (by omega)), fun _ => hI.s5 (hall 5 (by omega)), fun _ e => (by rw [t8] at e; cases e), fun _ => hI.s7 d7, fun b hb => hb.elim, fun _ b hb => hb, fun _ j hj => (hl j).2 (.inr (hall j hj))⟩
    rw [show holdOf k (listed.setIfInBounds 8 true) = none by unfold holdOf; rw [if_pos t8]] at hwk
    rw [hold8]
    refine ⟨rk, .inr (.inr (.inl ⟨k, _, _, _, rfl, hst.trans ?_, hres, hwk⟩))⟩
    unfold Go.Conc.listed
    rw [e1, seen_eq loud9 (by simp)]
    rfl
end
end Go.Proofs.Ytjplnkkcmkpkbaa
