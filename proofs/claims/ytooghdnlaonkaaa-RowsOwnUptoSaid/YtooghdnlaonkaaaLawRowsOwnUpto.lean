/- The law RowsOwn holds: for every input the call returns true and leaves its arguments as they were; the condition: what comes in is of bulk at most 1048576. -/
import Derived.Test.YtooghdnlaonkaaaRows
import Derived.Test.YtooghdnlaonkaaaRw53
import Derived.WalkKit
import Derived.ProofKit
import Derived.OpenShut
import Derived.ShutString
import Derived.ChangeOld
import Derived.Below
import Derived.Lib.SmallJoins
import Derived.JoinedCond
import Derived.Test.YtooghdnlaonkaaaRw46
import Derived.Deep.Matrix
namespace Go.Proofs.Ytooghdnlaonkaaa.rowsOwnUpto
open Go.ChangeShapes Go.WideShapes Go.ChangeAt Go.RowKit Go.Joins
open Go.ChangeMaps (open_string shut_string)
open Go.Deep
set_option linter.unusedVariables false

theorem own : ownKnob Try.prog.godebug = none := by kernel_rfl
theorem laidOut : laidOutB Try.prog = true := by kernel_rfl

theorem walk (a0 : Option Addr) (len0 cap0 : Nat) (z0 : List Int) (a1_0 : Option Addr) (l1_0 k1_0 : Nat) (a1_1 : Option Addr) (l1_1 k1_1 : Nat) (a2 : Int) (a3 : Option Addr) (len3 cap3 : Nat) (w : World) (w0 : IsRow .i64 w a0 len0 cap0 z0) (w1_0 : IsMatU w a1_0 l1_0 k1_0) (w1_1 : IsMatU w a1_1 l1_1 k1_1) (w2 : (Lit.int .i64 a2).wf = true) (w3 : IsMatU w a3 len3 cap3) (sz0 : len0 ≤ 1048576) :
    Calls Try.prog 4 #[.slice a0 len0 cap0, .agg #[.slice a1_0 l1_0 k1_0, .slice a1_1 l1_1 k1_1], .int .i64 a2, .slice a3 len3 cap3] w fun e w' => e = .returned (.bool true) ∧ Below w.heap.size w w' := rows_all a0 len0 cap0 z0 a1_0 l1_0 k1_0 a1_1 l1_1 k1_1 a2 a3 len3 cap3 w w0 w1_0 w1_1 w3 sz0

set_option maxRecDepth 100000 in
theorem contract (H : Type) (enc : TypeId × Value → H) (W : World) (base : Nat) (args : Array Value) (ds gs : List (DataW H)) (before : List MemPlace)
    (hval0 : ∀ (j : Nat) t v, Try.f4.params[j]? = some t → args[j]? = some v → Value.okWide Try.prog W .any base t v)
    (hW : DataW.Whole enc Try.prog Try.f4.params.toList Rows.rowsOwnSpec.vars false W args.toList ds gs before) (hk : Rows.uptoSmall H (ds ++ gs) = true) :
    Calls Try.prog 4 args W fun e W' => ∃ v, e = .returned v ∧ Rows.rowsOwnSpec.post enc Try.prog Try.f4 false true false false W args v W' := by
  have hval : ∀ (j : Nat) t v, Try.f4.params[j]? = some t → args[j]? = some v → Value.okWide Try.prog W .any base t v := hval0
  have hW' := hW
  obtain ⟨p, q, hA0, hV, rfl, hfz, hnd⟩ := hW
  have hA : DataW.TrodAll enc Try.prog W 0 (fun _ => true) true Try.f4.params.toList args.toList ds p := hA0
  rw [Try.params4] at hA hval
  obtain ⟨v0, vs0, d0, ds0, p0, q0, hargs, rfl, rfl, h0, r0⟩ := trodAll_cons hA
  obtain ⟨v1, vs1, d1, ds1, p1, q1, rfl, rfl, rfl, h1, r1⟩ := trodAll_cons r0
  obtain ⟨v2, vs2, d2, ds2, p2, q2, rfl, rfl, rfl, h2, r2⟩ := trodAll_cons r1
  obtain ⟨v3, vs3, d3, ds3, p3, q3, rfl, rfl, rfl, h3, r3⟩ := trodAll_cons r2
  obtain ⟨rfl, rfl, rfl⟩ := trodAll_nil r3
  obtain rfl : args = #[v0, v1, v2, v3] := by cases args; simp_all
  obtain ⟨rfl, rfl⟩ := trodVars_none hV
  simp only [List.append_nil] at hk
  obtain ⟨a0, len0, cap0, rfl⟩ := okWide_slice Try.underlying32 (hval 0 32 v0 rfl rfl)
  have k0 := h0
  have lt0 : ∀ x ∈ p0, x.block < W.heap.size := by obtain ⟨m, hm⟩ := k0; exact DataW.trod_lt m _ _ _ hm
  have sz0 : len0 ≤ 1048576 := upto_len hk (List.mem_of_getElem? (i := 0) rfl) Try.underlying32 h0
  obtain ⟨z0, w0⟩ : ∃ zs, IsRow .i64 W a0 len0 cap0 zs := by
    obtain ⟨fuel, hf⟩ := h0
    rcases open_ints Try.underlying32 Try.underlying3 (by kernel_rfl) hf with ⟨hcs, _⟩ | ⟨x, l, c, zs, hcs, _, hl, hm, hz, _, hcell, hwz⟩
    · simp [Value.cells] at hcs
      obtain ⟨rfl, rfl, rfl⟩ := hcs
      exact ⟨[], .inl ⟨rfl, rfl, rfl, rfl⟩⟩
    · simp [Value.cells] at hcs
      obtain ⟨rfl, rfl, rfl⟩ := hcs
      exact ⟨zs, .inr ⟨_, rfl, hl, hm, by simpa using hz, hcell, hwz⟩⟩
  have k1 := h1
  have lt1 : ∀ x ∈ p1, x.block < W.heap.size := by obtain ⟨m, hm⟩ := k1; exact DataW.trod_lt m _ _ _ hm
  have bk1 := upto_bulk hk (List.mem_of_getElem? (i := 1) rfl)
  obtain ⟨c1_0, c1_1, y1_0, y1_1, m1, hv1, hd1, -, hy1_0, hy1_1⟩ := open_agg2 Try.underlying50 (by kernel_rfl) (by kernel_rfl) (hval 1 50 v1 rfl rfl) h1
  rw [hd1] at bk1
  obtain ⟨bk1_0, bk1_1⟩ := bulk_two bk1
  obtain ⟨a1_0, l1_0, k1_0, rfl, w1_0⟩ : ∃ a l k, c1_0 = .slice a l k ∧ IsMatU W a l k := by
    rcases open_int_rows Try.underlying48 Try.underlying32 Try.underlying3 (by kernel_rfl) (by kernel_rfl) hy1_0 with ⟨hcs, _⟩ | ⟨x, l, c, A', L', C', Z', hcs, _, hl, hm, hxe, hcell⟩
    · simp only [List.cons.injEq, and_true] at hcs
      exact ⟨none, 0, 0, hcs, IsMatU.nil W⟩
    · simp only [List.cons.injEq, and_true] at hcs
      exact ⟨some x, l, c, hcs, isMatU_of hl hcell (by rw [hxe]) bk1_0⟩
  obtain ⟨a1_1, l1_1, k1_1, rfl, w1_1⟩ : ∃ a l k, c1_1 = .slice a l k ∧ IsMatU W a l k := by
    rcases open_int_rows Try.underlying48 Try.underlying32 Try.underlying3 (by kernel_rfl) (by kernel_rfl) hy1_1 with ⟨hcs, _⟩ | ⟨x, l, c, A', L', C', Z', hcs, _, hl, hm, hxe, hcell⟩
    · simp only [List.cons.injEq, and_true] at hcs
      exact ⟨none, 0, 0, hcs, IsMatU.nil W⟩
    · simp only [List.cons.injEq, and_true] at hcs
      exact ⟨some x, l, c, hcs, isMatU_of hl hcell (by rw [hxe]) bk1_1⟩
  subst hv1
  obtain ⟨a2, rfl, rfl, rfl, w2⟩ := open_int Try.underlying3 (hval 2 3 v2 rfl rfl) h2
  obtain ⟨a3, len3, cap3, rfl⟩ := okWide_slice Try.underlying48 (hval 3 48 v3 rfl rfl)
  have k3 := h3
  have lt3 : ∀ x ∈ p3, x.block < W.heap.size := by obtain ⟨m, hm⟩ := k3; exact DataW.trod_lt m _ _ _ hm
  have bk3 := upto_bulk hk (List.mem_of_getElem? (i := 3) rfl)
  have w3 : IsMatU W a3 len3 cap3 := by
    obtain ⟨fuel, hf⟩ := h3
    rcases open_int_rows Try.underlying48 Try.underlying32 Try.underlying3 (by kernel_rfl) (by kernel_rfl) hf with ⟨hcs, _⟩ | ⟨x, l, c, A', L', C', Z', hcs, _, hl, hm, hxe, hcell⟩
    · simp [Value.cells] at hcs
      obtain ⟨rfl, rfl, rfl⟩ := hcs
      exact IsMatU.nil W
    · simp [Value.cells] at hcs
      obtain ⟨rfl, rfl, rfl⟩ := hcs
      simp only [Prod.mk.injEq] at hxe
      exact isMatU_of hl hcell hxe.1 bk3
  clear hA0 hval0
  refine (walk a0 len0 cap0 z0 a1_0 l1_0 k1_0 a1_1 l1_1 k1_1 a2 a3 len3 cap3 W w0 w1_0 w1_1 w2 w3 sz0).mono fun e W' ⟨he, bel⟩ => ?_
  subst he
  exact ⟨_, rfl, _, _, _, [], _, [], hW', trodAll_mk1 (shut_bool Try.underlying4 _), (trodAll_cons_mk (Below.trod laidOut (by kernel_rfl) (of_decide_eq_true (by kernel_rfl)) k0 bel lt0) (trodAll_cons_mk (Below.trod laidOut (by kernel_rfl) (of_decide_eq_true (by kernel_rfl)) k1 bel lt1) (trodAll_cons_mk (shut_int Try.underlying3 w2) (trodAll_cons_mk (Below.trod laidOut (by kernel_rfl) (of_decide_eq_true (by kernel_rfl)) k3 bel lt3) trodAll_mk0)))), rfl, bel.frame _, fun h => by cases h⟩

set_option maxRecDepth 100000 in
theorem lifted (os : Os) (started : os.Started) (H : Type) (enc : TypeId × Value → H) (F : Stop.Interp) :
    ReturnsInHanded {} Try.checked os 4 .any ((Rows.OpenSpec.upto Rows.rowsOwnSpec).pre6 enc Try.prog Try.f4 Rows.rowsOwnUptoRow.domain false) (((Rows.OpenSpec.upto Rows.rowsOwnSpec).at F).post enc Try.prog Try.f4 false true false false) := by
  refine returnsInHanded_of_cond (C := Try.checked) (s := Rows.OpenSpec.upto Rows.rowsOwnSpec) (k := Rows.uptoSmall) rfl own started (by kernel_rfl) Try.func4
    (OpenSpec.witness (enc := enc) (C := Try.checked) (s := Rows.OpenSpec.upto Rows.rowsOwnSpec) (k := Rows.uptoSmall) rfl false ⟨#[], #[.slice none 0 0, .agg #[.slice none 0 0, .slice none 0 0], .int .i64 0, .slice none 0 0], []⟩ 8 (by kernel_rfl) (by kernel_rfl) (by kernel_rfl)
      (x := ([.nil, .agg [.nil, .nil], .lit (.int .i64 0), .nil], [], [])) (by kernel_rfl) rfl (by kernel_rfl)) ?_
  intro W base args ds gs before hval hW _ hk _
  exact contract H enc W base args ds gs before hval hW hk

theorem proved : Rows.RowsOwnUptoSaid :=
  OpenClaim.holds_of_cond 4 Try.f4 rfl rfl rfl rfl rfl rfl rfl ⟨rfl, rfl, rfl, rfl, rfl⟩ rfl rfl rfl rfl rfl (by kernel_rfl) Try.func4 (by kernel_rfl)
    (of_decide_eq_true (by kernel_rfl)) (by unfold Func.isWrapper; first | (rw [if_pos (by decide +kernel)]; kernel_rfl) | (rw [if_neg (by decide +kernel)]; exact ⟨rfl, rfl⟩))
    (fun os started H enc _ F => lifted os started H enc F)
#print axioms proved
end Go.Proofs.Ytooghdnlaonkaaa.rowsOwnUpto
