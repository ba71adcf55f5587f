/- The law HallRefuses holds: for every input the call returns true and leaves its arguments as they were; the condition: what comes in is of bulk at most 1048576. -/
import Derived.Test.YtfompfaepabpgaaRows
import Derived.Test.YtfompfaepabpgaaWHal3
import Derived.WalkKit
import Derived.ProofKit
import Derived.OpenShut
import Derived.ShutString
import Derived.ChangeOld
import Derived.Below
import Derived.Lib.SmallJoins
import Derived.JoinedCond
import Derived.Test.YtfompfaepabpgaaUptoB
namespace Go.Proofs.Ytfompfaepabpgaa.hallRefusesUpto
open Go.ChangeShapes Go.WideShapes Go.ChangeAt Go.RowKit Go.Joins
open Go.ChangeMaps (open_string shut_string)
set_option linter.unusedVariables false

theorem own : ownKnob Try.prog.godebug = none := by kernel_rfl
theorem laidOut : laidOutB Try.prog = true := by kernel_rfl

theorem walk (a0 : Option Addr) (len0 cap0 : Nat) (a1_0 : Int) (a1_1 : Int) (a1_2 : ByteArray) (a1_3 : ByteArray) (a2 : Option Addr) (len2 cap2 : Nat) (w : World) (w0 : IsStr [.int, .int, .str, .str] w a0 len0 cap0) (w1_0 : (Lit.int .i64 a1_0).wf = true) (w1_1 : (Lit.int .i64 a1_1).wf = true) (w1_2 : a1_2.size ≤ maxLen) (w1_3 : a1_3.size ≤ maxLen) (w2 : IsStr [.int, .int, .str, .str] w a2 len2 cap2) (sz0 : len0 ≤ 1048576) (sz2 : len2 ≤ 1048576) :
    Calls Try.prog 5 #[.slice a0 len0 cap0, .agg #[.int .i64 a1_0, .int .i64 a1_1, .string a1_2, .string a1_3], .slice a2 len2 cap2] w fun e w' => e = .returned (.bool true) ∧ Below w.heap.size w w' := refuses_row a0 len0 cap0 a1_0 a1_1 a1_2 a1_3 a2 len2 cap2 w w0 w1_2 w2 sz0 sz2

set_option maxRecDepth 100000 in
theorem contract (H : Type) (enc : TypeId × Value → H) (W : World) (base : Nat) (args : Array Value) (ds gs : List (DataW H)) (before : List MemPlace)
    (hval0 : ∀ (j : Nat) t v, Try.f5.params[j]? = some t → args[j]? = some v → Value.okWide Try.prog W .any base t v)
    (hW : DataW.Whole enc Try.prog Try.f5.params.toList Rows.hallRefusesSpec.vars false W args.toList ds gs before) (hk : Rows.uptoSmall H (ds ++ gs) = true) :
    Calls Try.prog 5 args W fun e W' => ∃ v, e = .returned v ∧ Rows.hallRefusesSpec.post enc Try.prog Try.f5 false true false false W args v W' := by
  have hval : ∀ (j : Nat) t v, Try.f5.params[j]? = some t → args[j]? = some v → Value.okWide Try.prog W .any base t v := hval0
  have hW' := hW
  obtain ⟨p, q, hA0, hV, rfl, hfz, hnd⟩ := hW
  have hA : DataW.TrodAll enc Try.prog W 0 (fun _ => true) true Try.f5.params.toList args.toList ds p := hA0
  rw [Try.params5] at hA hval
  obtain ⟨v0, vs0, d0, ds0, p0, q0, hargs, rfl, rfl, h0, r0⟩ := trodAll_cons hA
  obtain ⟨v1, vs1, d1, ds1, p1, q1, rfl, rfl, rfl, h1, r1⟩ := trodAll_cons r0
  obtain ⟨v2, vs2, d2, ds2, p2, q2, rfl, rfl, rfl, h2, r2⟩ := trodAll_cons r1
  obtain ⟨rfl, rfl, rfl⟩ := trodAll_nil r2
  obtain rfl : args = #[v0, v1, v2] := by cases args; simp_all
  obtain ⟨rfl, rfl⟩ := trodVars_none hV
  simp only [List.append_nil] at hk
  obtain ⟨a0, len0, cap0, rfl⟩ := okWide_slice Try.underlying22 (hval 0 22 v0 rfl rfl)
  have k0 := h0
  have lt0 : ∀ x ∈ p0, x.block < W.heap.size := by obtain ⟨m, hm⟩ := k0; exact DataW.trod_lt m _ _ _ hm
  have sz0 : len0 ≤ 1048576 := upto_len hk (List.mem_of_getElem? (i := 0) rfl) Try.underlying22 h0
  have w0 : IsStr [.int, .int, .str, .str] W a0 len0 cap0 := by
    obtain ⟨fuel, hf⟩ := h0
    rcases open_structs [.int, .int, .str, .str] Try.underlying22 Try.underlying27 (by kernel_rfl) (by kernel_rfl) (fun j k hk => match j, k, hk with | 0, _, rfl => ⟨_, rfl, Try.underlying3⟩ | 1, _, rfl => ⟨_, rfl, Try.underlying3⟩ | 2, _, rfl => ⟨_, rfl, Try.underlying9⟩ | 3, _, rfl => ⟨_, rfl, Try.underlying9⟩ | _ + 4, _, hk => by simp at hk) hf with hcs | ⟨x, l, c, hcs, hl, hm, hcell⟩
    · simp [Value.cells] at hcs
      obtain ⟨rfl, rfl, rfl⟩ := hcs
      exact ⟨Nat.le_refl _, Nat.zero_le _, .inl ⟨rfl, rfl, rfl⟩⟩
    · simp [Value.cells] at hcs
      obtain ⟨rfl, rfl, rfl⟩ := hcs
      exact ⟨hl, Nat.le_trans hl hm, .inr ⟨_, rfl, hcell⟩⟩
  have k1 := h1
  have lt1 : ∀ x ∈ p1, x.block < W.heap.size := by obtain ⟨m, hm⟩ := k1; exact DataW.trod_lt m _ _ _ hm
  obtain ⟨c1_0, c1_1, c1_2, c1_3, y1_0, y1_1, y1_2, y1_3, m1, hv1, -, -, hy1_0, hy1_1, hy1_2, hy1_3⟩ := open_agg4 Try.underlying27 (by kernel_rfl) (by kernel_rfl) (hval 1 27 v1 rfl rfl) h1
  obtain ⟨a1_0, e1_0, -, w1_0⟩ := DataW.trod_int Try.underlying3 hy1_0
  simp only [List.cons.injEq, and_true] at e1_0
  rw [e1_0] at hv1
  obtain ⟨a1_1, e1_1, -, w1_1⟩ := DataW.trod_int Try.underlying3 hy1_1
  simp only [List.cons.injEq, and_true] at e1_1
  rw [e1_1] at hv1
  obtain ⟨a1_2, e1_2, -, w1_2⟩ := DataW.trod_string Try.underlying9 hy1_2
  simp only [List.cons.injEq, and_true] at e1_2
  rw [e1_2] at hv1
  obtain ⟨a1_3, e1_3, -, w1_3⟩ := DataW.trod_string Try.underlying9 hy1_3
  simp only [List.cons.injEq, and_true] at e1_3
  rw [e1_3] at hv1
  subst hv1
  obtain ⟨a2, len2, cap2, rfl⟩ := okWide_slice Try.underlying22 (hval 2 22 v2 rfl rfl)
  have k2 := h2
  have lt2 : ∀ x ∈ p2, x.block < W.heap.size := by obtain ⟨m, hm⟩ := k2; exact DataW.trod_lt m _ _ _ hm
  have sz2 : len2 ≤ 1048576 := upto_len hk (List.mem_of_getElem? (i := 2) rfl) Try.underlying22 h2
  have w2 : IsStr [.int, .int, .str, .str] W a2 len2 cap2 := by
    obtain ⟨fuel, hf⟩ := h2
    rcases open_structs [.int, .int, .str, .str] Try.underlying22 Try.underlying27 (by kernel_rfl) (by kernel_rfl) (fun j k hk => match j, k, hk with | 0, _, rfl => ⟨_, rfl, Try.underlying3⟩ | 1, _, rfl => ⟨_, rfl, Try.underlying3⟩ | 2, _, rfl => ⟨_, rfl, Try.underlying9⟩ | 3, _, rfl => ⟨_, rfl, Try.underlying9⟩ | _ + 4, _, hk => by simp at hk) hf with hcs | ⟨x, l, c, hcs, hl, hm, hcell⟩
    · simp [Value.cells] at hcs
      obtain ⟨rfl, rfl, rfl⟩ := hcs
      exact ⟨Nat.le_refl _, Nat.zero_le _, .inl ⟨rfl, rfl, rfl⟩⟩
    · simp [Value.cells] at hcs
      obtain ⟨rfl, rfl, rfl⟩ := hcs
      exact ⟨hl, Nat.le_trans hl hm, .inr ⟨_, rfl, hcell⟩⟩
  clear hA0 hval0
  refine (walk a0 len0 cap0 a1_0 a1_1 a1_2 a1_3 a2 len2 cap2 W w0 w1_0 w1_1 w1_2 w1_3 w2 sz0 sz2).mono fun e W' ⟨he, bel⟩ => ?_
  subst he
  exact ⟨_, rfl, _, _, _, [], _, [], hW', trodAll_mk1 (shut_bool Try.underlying4 _), (trodAll_cons_mk (Below.trod laidOut (by kernel_rfl) (of_decide_eq_true (by kernel_rfl)) k0 bel lt0) (trodAll_cons_mk (Below.trod laidOut (by kernel_rfl) (of_decide_eq_true (by kernel_rfl)) k1 bel lt1) (trodAll_cons_mk (Below.trod laidOut (by kernel_rfl) (of_decide_eq_true (by kernel_rfl)) k2 bel lt2) trodAll_mk0))), rfl, bel.frame _, fun h => by cases h⟩

set_option maxRecDepth 100000 in
theorem lifted (os : Os) (started : os.Started) (H : Type) (enc : TypeId × Value → H) (F : Stop.Interp) :
    ReturnsInHanded {} Try.checked os 5 .any ((Rows.OpenSpec.upto Rows.hallRefusesSpec).pre6 enc Try.prog Try.f5 Rows.hallRefusesUptoRow.domain false) (((Rows.OpenSpec.upto Rows.hallRefusesSpec).at F).post enc Try.prog Try.f5 false true false false) := by
  refine returnsInHanded_of_cond (C := Try.checked) (s := Rows.OpenSpec.upto Rows.hallRefusesSpec) (k := Rows.uptoSmall) rfl own started (by kernel_rfl) Try.func5
    (OpenSpec.witness (enc := enc) (C := Try.checked) (s := Rows.OpenSpec.upto Rows.hallRefusesSpec) (k := Rows.uptoSmall) rfl false ⟨#[], #[.slice none 0 0, .agg #[.int .i64 0, .int .i64 0, .string ByteArray.empty, .string ByteArray.empty], .slice none 0 0], []⟩ 8 (by kernel_rfl) (by kernel_rfl) (by kernel_rfl)
      (x := ([.nil, .agg [.lit (.int .i64 0), .lit (.int .i64 0), .lit (.string []), .lit (.string [])], .nil], [], [])) (by kernel_rfl) rfl (by kernel_rfl)) ?_
  intro W base args ds gs before hval hW _ hk _
  exact contract H enc W base args ds gs before hval hW hk

theorem proved : Rows.HallRefusesUptoSaid :=
  OpenClaim.holds_of_cond 5 Try.f5 rfl rfl rfl rfl rfl rfl rfl ⟨rfl, rfl, rfl, rfl, rfl⟩ rfl rfl rfl rfl rfl (by kernel_rfl) Try.func5 (by kernel_rfl)
    (of_decide_eq_true (by kernel_rfl)) (by unfold Func.isWrapper; first | (rw [if_pos (by decide +kernel)]; kernel_rfl) | (rw [if_neg (by decide +kernel)]; exact ⟨rfl, rfl⟩))
    (fun os started H enc _ F => lifted os started H enc F)
#print axioms proved
end Go.Proofs.Ytfompfaepabpgaa.hallRefusesUpto
