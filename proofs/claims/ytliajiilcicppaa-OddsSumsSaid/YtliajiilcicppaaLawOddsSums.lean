/- The law OddsSums holds: for every input the call returns true and leaves its arguments as they were; no condition. -/
import Derived.Test.YtliajiilcicppaaRows
import Derived.Test.YtliajiilcicppaaWOdd4
import Derived.WalkKit
import Derived.ProofKit
import Derived.OpenShut
import Derived.ShutString
import Derived.ChangeOld
import Derived.Below
import Derived.Lib.SmallJoins
namespace Go.Proofs.Ytliajiilcicppaa.oddsSums
open Go.ChangeShapes Go.WideShapes Go.ChangeAt Go.RowKit Go.Joins
open Go.ChangeMaps (open_string shut_string)
set_option linter.unusedVariables false

theorem own : ownKnob Try.prog.godebug = none := by kernel_rfl
theorem laidOut : laidOutB Try.prog = true := by kernel_rfl

theorem walk (a0_0 : Option Addr) (l0_0 k0_0 : Nat) (z0_0 : List Int) (a0_1 : Option Addr) (l0_1 k0_1 : Nat) (z0_1 : List Int) (a1_0 : Option Addr) (l1_0 k1_0 : Nat) (z1_0 : List Int) (a1_1 : Option Addr) (l1_1 k1_1 : Nat) (z1_1 : List Int) (w : World) (w0_0 : IsRow .i64 w a0_0 l0_0 k0_0 z0_0) (w0_1 : IsRow .i64 w a0_1 l0_1 k0_1 z0_1) (w1_0 : IsRow .i64 w a1_0 l1_0 k1_0 z1_0) (w1_1 : IsRow .i64 w a1_1 l1_1 k1_1 z1_1) :
    Calls Try.prog 11 #[.agg #[.slice a0_0 l0_0 k0_0, .slice a0_1 l0_1 k0_1], .agg #[.slice a1_0 l1_0 k1_0, .slice a1_1 l1_1 k1_1]] w fun e w' => e = .returned (.bool true) ∧ Below w.heap.size w w' := oddsSums_any (z0_0.take l0_0) (z0_1.take l0_1) (z1_0.take l1_0) (z1_1.take l1_1) l0_0 l0_1 l1_0 l1_1 a0_0 a0_1 a1_0 a1_1 k0_0 k0_1 k1_0 k1_1 w w0_0.sa.1 w0_1.sa.1 w1_0.sa.1 w1_1.sa.1 w0_0.sa.2.1 w0_1.sa.2.1 w1_0.sa.2.1 w1_1.sa.2.1

set_option maxRecDepth 100000 in
theorem lifted (os : Os) (started : os.Started) (H : Type) (enc : TypeId × Value → H) :
    ReturnsInHanded {} Try.checked os 11 .any (Rows.oddsSumsSpec.pre6 enc Try.prog Try.f11 Rows.oddsSumsRow.domain false) (Rows.oddsSumsSpec.post enc Try.prog Try.f11 false true false false) := by
  refine returnsInHanded_of_change (C := Try.checked) own started (by kernel_rfl) Try.func11
    (ChangeSpec.witness6 (enc := enc) (C := Try.checked) false ⟨#[], #[.agg #[.slice none 0 0, .slice none 0 0], .agg #[.slice none 0 0, .slice none 0 0]], []⟩ 8 (by kernel_rfl) (by kernel_rfl) (by kernel_rfl) (by kernel_rfl)) ?_
  intro W base args ds gs before hval0 hW hcnd _
  have hval : ∀ (j : Nat) t v, Try.f11.params[j]? = some t → args[j]? = some v → Value.okWide Try.prog W .any base t v := hval0
  have hW' := hW
  obtain ⟨p, q, hA0, hV, rfl, hfz, hnd⟩ := hW
  have hA : DataW.TrodAll enc Try.prog W 0 (fun _ => true) true Try.f11.params.toList args.toList ds p := hA0
  rw [Try.params11] at hA hval
  obtain ⟨v0, vs0, d0, ds0, p0, q0, hargs, rfl, rfl, h0, r0⟩ := trodAll_cons hA
  obtain ⟨v1, vs1, d1, ds1, p1, q1, rfl, rfl, rfl, h1, r1⟩ := trodAll_cons r0
  obtain ⟨rfl, rfl, rfl⟩ := trodAll_nil r1
  obtain rfl : args = #[v0, v1] := by cases args; simp_all
  obtain ⟨rfl, rfl⟩ := trodVars_none hV
  have k0 := h0
  have lt0 : ∀ x ∈ p0, x.block < W.heap.size := by obtain ⟨m, hm⟩ := k0; exact DataW.trod_lt m _ _ _ hm
  obtain ⟨c0_0, c0_1, y0_0, y0_1, m0, hv0, -, -, hy0_0, hy0_1⟩ := open_agg2 Try.underlying47 (by kernel_rfl) (by kernel_rfl) (hval 0 47 v0 rfl rfl) h0
  obtain ⟨a0_0, l0_0, k0_0, z0_0, rfl, w0_0⟩ : ∃ a l k zs, c0_0 = .slice a l k ∧ IsRow .i64 W a l k zs := by
    rcases open_ints Try.underlying36 Try.underlying3 (by kernel_rfl) hy0_0 with ⟨hcs, _⟩ | ⟨x, l, c, zs, hcs, _, hl, hm, hz, _, hcell, hwz⟩
    · simp only [List.cons.injEq, and_true] at hcs
      exact ⟨none, 0, 0, [], hcs, .inl ⟨rfl, rfl, rfl, rfl⟩⟩
    · simp only [List.cons.injEq, and_true] at hcs
      exact ⟨some x, l, c, zs, hcs, .inr ⟨_, rfl, hl, hm, by simpa using hz, hcell, hwz⟩⟩
  obtain ⟨a0_1, l0_1, k0_1, z0_1, rfl, w0_1⟩ : ∃ a l k zs, c0_1 = .slice a l k ∧ IsRow .i64 W a l k zs := by
    rcases open_ints Try.underlying36 Try.underlying3 (by kernel_rfl) hy0_1 with ⟨hcs, _⟩ | ⟨x, l, c, zs, hcs, _, hl, hm, hz, _, hcell, hwz⟩
    · simp only [List.cons.injEq, and_true] at hcs
      exact ⟨none, 0, 0, [], hcs, .inl ⟨rfl, rfl, rfl, rfl⟩⟩
    · simp only [List.cons.injEq, and_true] at hcs
      exact ⟨some x, l, c, zs, hcs, .inr ⟨_, rfl, hl, hm, by simpa using hz, hcell, hwz⟩⟩
  subst hv0
  have k1 := h1
  have lt1 : ∀ x ∈ p1, x.block < W.heap.size := by obtain ⟨m, hm⟩ := k1; exact DataW.trod_lt m _ _ _ hm
  obtain ⟨c1_0, c1_1, y1_0, y1_1, m1, hv1, -, -, hy1_0, hy1_1⟩ := open_agg2 Try.underlying47 (by kernel_rfl) (by kernel_rfl) (hval 1 47 v1 rfl rfl) h1
  obtain ⟨a1_0, l1_0, k1_0, z1_0, rfl, w1_0⟩ : ∃ a l k zs, c1_0 = .slice a l k ∧ IsRow .i64 W a l k zs := by
    rcases open_ints Try.underlying36 Try.underlying3 (by kernel_rfl) hy1_0 with ⟨hcs, _⟩ | ⟨x, l, c, zs, hcs, _, hl, hm, hz, _, hcell, hwz⟩
    · simp only [List.cons.injEq, and_true] at hcs
      exact ⟨none, 0, 0, [], hcs, .inl ⟨rfl, rfl, rfl, rfl⟩⟩
    · simp only [List.cons.injEq, and_true] at hcs
      exact ⟨some x, l, c, zs, hcs, .inr ⟨_, rfl, hl, hm, by simpa using hz, hcell, hwz⟩⟩
  obtain ⟨a1_1, l1_1, k1_1, z1_1, rfl, w1_1⟩ : ∃ a l k zs, c1_1 = .slice a l k ∧ IsRow .i64 W a l k zs := by
    rcases open_ints Try.underlying36 Try.underlying3 (by kernel_rfl) hy1_1 with ⟨hcs, _⟩ | ⟨x, l, c, zs, hcs, _, hl, hm, hz, _, hcell, hwz⟩
    · simp only [List.cons.injEq, and_true] at hcs
      exact ⟨none, 0, 0, [], hcs, .inl ⟨rfl, rfl, rfl, rfl⟩⟩
    · simp only [List.cons.injEq, and_true] at hcs
      exact ⟨some x, l, c, zs, hcs, .inr ⟨_, rfl, hl, hm, by simpa using hz, hcell, hwz⟩⟩
  subst hv1
  clear hA0 hval0
  refine (walk a0_0 l0_0 k0_0 z0_0 a0_1 l0_1 k0_1 z0_1 a1_0 l1_0 k1_0 z1_0 a1_1 l1_1 k1_1 z1_1 W w0_0 w0_1 w1_0 w1_1).mono fun e W' ⟨he, bel⟩ => ?_
  subst he
  exact ⟨_, rfl, _, _, _, [], _, [], hW', trodAll_mk1 (shut_bool Try.underlying4 _), (trodAll_cons_mk (Below.trod laidOut (by kernel_rfl) (of_decide_eq_true (by kernel_rfl)) k0 bel lt0) (trodAll_cons_mk (Below.trod laidOut (by kernel_rfl) (of_decide_eq_true (by kernel_rfl)) k1 bel lt1) trodAll_mk0)), rfl, bel.frame _, fun h => by cases h⟩

theorem over : Rows.oddsSumsRow.holds Try.pinned (OpenSpec.ofChange Rows.oddsSumsSpec) :=
  OpenClaim.holds_of_wide 11 Try.f11 rfl rfl rfl rfl rfl rfl rfl ⟨rfl, rfl, rfl, rfl, rfl⟩ rfl rfl rfl rfl rfl (by kernel_rfl) Try.func11 (by kernel_rfl)
    (of_decide_eq_true (by kernel_rfl)) (by unfold Func.isWrapper; first | (rw [if_pos (by decide +kernel)]; kernel_rfl) | (rw [if_neg (by decide +kernel)]; exact ⟨rfl, rfl⟩))
    (fun os started H enc _ => lifted os started H enc)

theorem proved : Rows.OddsSumsSaid := over
#print axioms proved
end Go.Proofs.Ytliajiilcicppaa.oddsSums
