/- The law TurnsOwn holds: for every input the call returns true and leaves its arguments as they were; no condition. -/
import Derived.Test.YtfompfaepabpgaaRows
import Derived.Test.YtfompfaepabpgaaWTurn
import Derived.WalkKit
import Derived.ProofKit
import Derived.OpenShut
import Derived.ShutString
import Derived.ChangeOld
import Derived.Below
import Derived.Lib.SmallJoins
import Derived.SizedLaws
import Derived.Test.YtfompfaepabpgaaSized
namespace Go.Proofs.Ytfompfaepabpgaa.turnsOwn
open Go.ChangeShapes Go.WideShapes Go.ChangeAt Go.RowKit Go.Joins
open Go.ChangeMaps (open_string shut_string)
set_option linter.unusedVariables false

theorem own : ownKnob Try.prog.godebug = none := by kernel_rfl
theorem laidOut : laidOutB Try.prog = true := by kernel_rfl

theorem walk (a0 : Option Addr) (len0 cap0 : Nat) (a1 : Option Addr) (len1 cap1 : Nat) (a2 : Int) (a3 : Option Addr) (len3 cap3 : Nat) (w : World) (w0 : IsStr [.int, .int, .bool, .bool] w a0 len0 cap0) (w1 : IsStr [.int, .int, .int] w a1 len1 cap1) (w2 : (Lit.int .i64 a2).wf = true) (w3 : IsStr [.int, .int, .str, .str] w a3 len3 cap3) (sz0 : len0 * 24 ≤ 140737488351232) (sz1 : len1 * 24 ≤ 140737488351232) (sz3 : len3 * 48 ≤ 140737488351232) :
    Calls Try.prog 11 #[.slice a0 len0 cap0, .slice a1 len1 cap1, .int .i64 a2, .slice a3 len3 cap3] w fun e w' => e = .returned (.bool true) ∧ Below w.heap.size w w' := turns_row a0 len0 cap0 a1 len1 cap1 a2 a3 len3 cap3 w w0 w1 w3 sz0 sz1 sz3

set_option maxRecDepth 100000 in
theorem lifted (os : Os) (started : os.Started) (H : Type) (enc : TypeId × Value → H) :
    ReturnsInHanded {} Try.checked os 11 .any (Rows.turnsOwnSpec.pre6 enc Try.prog Try.f11 Rows.turnsOwnRow.domain false) (Rows.turnsOwnSpec.post enc Try.prog Try.f11 false true false false) := by
  refine returnsInHanded_of_change_sized (C := Try.checked) own started (by kernel_rfl) Try.func11
    (ChangeSpec.witness6 (enc := enc) (C := Try.checked) false ⟨#[], #[.slice none 0 0, .slice none 0 0, .int .i64 0, .slice none 0 0], []⟩ 8 (by kernel_rfl) (by kernel_rfl) (by kernel_rfl) (by kernel_rfl)) ?_
  intro W base args ds gs before hval0 hW hcnd hsz0 _
  have hsz : (DataW.weightsEach Try.prog (Try.f11.params.toList ++ Rows.turnsOwnSpec.plain.varTypes Try.prog) (ds ++ gs)).all (· ≤ reachBytes) = true := hsz0
  clear hsz0
  have hval : ∀ (j : Nat) t v, Try.f11.params[j]? = some t → args[j]? = some v → Value.okWide Try.prog W .any base t v := hval0
  have hW' := hW
  obtain ⟨p, q, hA0, hV, rfl, hfz, hnd⟩ := hW
  have hA : DataW.TrodAll enc Try.prog W 0 (fun _ => true) true Try.f11.params.toList args.toList ds p := hA0
  rw [Try.params11] at hA hval hsz
  obtain ⟨v0, vs0, d0, ds0, p0, q0, hargs, rfl, rfl, h0, r0⟩ := trodAll_cons hA
  obtain ⟨v1, vs1, d1, ds1, p1, q1, rfl, rfl, rfl, h1, r1⟩ := trodAll_cons r0
  obtain ⟨v2, vs2, d2, ds2, p2, q2, rfl, rfl, rfl, h2, r2⟩ := trodAll_cons r1
  obtain ⟨v3, vs3, d3, ds3, p3, q3, rfl, rfl, rfl, h3, r3⟩ := trodAll_cons r2
  obtain ⟨rfl, rfl, rfl⟩ := trodAll_nil r3
  obtain rfl : args = #[v0, v1, v2, v3] := by cases args; simp_all
  obtain ⟨rfl, rfl⟩ := trodVars_none hV
  obtain ⟨a0, len0, cap0, rfl⟩ := okWide_slice Try.underlying68 (hval 0 68 v0 rfl rfl)
  have k0 := h0
  have lt0 : ∀ x ∈ p0, x.block < W.heap.size := by obtain ⟨m, hm⟩ := k0; exact DataW.trod_lt m _ _ _ hm
  have sz0 : len0 * 24 ≤ 140737488351232 := by
    have hz := sized_sl hsz 0 rfl rfl Try.underlying68 h0
    have hb : Try.prog.bytesOf 72 = 24 := by kernel_rfl
    rwa [hb] at hz
  have w0 : IsStr [.int, .int, .bool, .bool] W a0 len0 cap0 := by
    obtain ⟨fuel, hf⟩ := h0
    rcases open_structs [.int, .int, .bool, .bool] Try.underlying68 Try.underlying72 (by kernel_rfl) (by kernel_rfl) (fun j k hk => match j, k, hk with | 0, _, rfl => ⟨_, rfl, Try.underlying3⟩ | 1, _, rfl => ⟨_, rfl, Try.underlying3⟩ | 2, _, rfl => ⟨_, rfl, Try.underlying4⟩ | 3, _, rfl => ⟨_, rfl, Try.underlying4⟩ | _ + 4, _, hk => by simp at hk) hf with hcs | ⟨x, l, c, hcs, hl, hm, hcell⟩
    · simp [Value.cells] at hcs
      obtain ⟨rfl, rfl, rfl⟩ := hcs
      exact ⟨Nat.le_refl _, Nat.zero_le _, .inl ⟨rfl, rfl, rfl⟩⟩
    · simp [Value.cells] at hcs
      obtain ⟨rfl, rfl, rfl⟩ := hcs
      exact ⟨hl, Nat.le_trans hl hm, .inr ⟨_, rfl, hcell⟩⟩
  obtain ⟨a1, len1, cap1, rfl⟩ := okWide_slice Try.underlying69 (hval 1 69 v1 rfl rfl)
  have k1 := h1
  have lt1 : ∀ x ∈ p1, x.block < W.heap.size := by obtain ⟨m, hm⟩ := k1; exact DataW.trod_lt m _ _ _ hm
  have sz1 : len1 * 24 ≤ 140737488351232 := by
    have hz := sized_sl hsz 1 rfl rfl Try.underlying69 h1
    have hb : Try.prog.bytesOf 75 = 24 := by kernel_rfl
    rwa [hb] at hz
  have w1 : IsStr [.int, .int, .int] W a1 len1 cap1 := by
    obtain ⟨fuel, hf⟩ := h1
    rcases open_structs [.int, .int, .int] Try.underlying69 Try.underlying75 (by kernel_rfl) (by kernel_rfl) (fun j k hk => match j, k, hk with | 0, _, rfl => ⟨_, rfl, Try.underlying3⟩ | 1, _, rfl => ⟨_, rfl, Try.underlying3⟩ | 2, _, rfl => ⟨_, rfl, Try.underlying3⟩ | _ + 3, _, hk => by simp at hk) hf with hcs | ⟨x, l, c, hcs, hl, hm, hcell⟩
    · simp [Value.cells] at hcs
      obtain ⟨rfl, rfl, rfl⟩ := hcs
      exact ⟨Nat.le_refl _, Nat.zero_le _, .inl ⟨rfl, rfl, rfl⟩⟩
    · simp [Value.cells] at hcs
      obtain ⟨rfl, rfl, rfl⟩ := hcs
      exact ⟨hl, Nat.le_trans hl hm, .inr ⟨_, rfl, hcell⟩⟩
  obtain ⟨a2, rfl, rfl, rfl, w2⟩ := open_int Try.underlying3 (hval 2 3 v2 rfl rfl) h2
  obtain ⟨a3, len3, cap3, rfl⟩ := okWide_slice Try.underlying22 (hval 3 22 v3 rfl rfl)
  have k3 := h3
  have lt3 : ∀ x ∈ p3, x.block < W.heap.size := by obtain ⟨m, hm⟩ := k3; exact DataW.trod_lt m _ _ _ hm
  have sz3 : len3 * 48 ≤ 140737488351232 := by
    have hz := sized_sl hsz 3 rfl rfl Try.underlying22 h3
    have hb : Try.prog.bytesOf 27 = 48 := by kernel_rfl
    rwa [hb] at hz
  have w3 : IsStr [.int, .int, .str, .str] W a3 len3 cap3 := by
    obtain ⟨fuel, hf⟩ := h3
    rcases open_structs [.int, .int, .str, .str] Try.underlying22 Try.underlying27 (by kernel_rfl) (by kernel_rfl) (fun j k hk => match j, k, hk with | 0, _, rfl => ⟨_, rfl, Try.underlying3⟩ | 1, _, rfl => ⟨_, rfl, Try.underlying3⟩ | 2, _, rfl => ⟨_, rfl, Try.underlying9⟩ | 3, _, rfl => ⟨_, rfl, Try.underlying9⟩ | _ + 4, _, hk => by simp at hk) hf with hcs | ⟨x, l, c, hcs, hl, hm, hcell⟩
    · simp [Value.cells] at hcs
      obtain ⟨rfl, rfl, rfl⟩ := hcs
      exact ⟨Nat.le_refl _, Nat.zero_le _, .inl ⟨rfl, rfl, rfl⟩⟩
    · simp [Value.cells] at hcs
      obtain ⟨rfl, rfl, rfl⟩ := hcs
      exact ⟨hl, Nat.le_trans hl hm, .inr ⟨_, rfl, hcell⟩⟩
  clear hA0 hval0
  refine (walk a0 len0 cap0 a1 len1 cap1 a2 a3 len3 cap3 W w0 w1 w2 w3 sz0 sz1 sz3).mono fun e W' ⟨he, bel⟩ => ?_
  subst he
  exact ⟨_, rfl, _, _, _, [], _, [], hW', trodAll_mk1 (shut_bool Try.underlying4 _), (trodAll_cons_mk (Below.trod laidOut (by kernel_rfl) (of_decide_eq_true (by kernel_rfl)) k0 bel lt0) (trodAll_cons_mk (Below.trod laidOut (by kernel_rfl) (of_decide_eq_true (by kernel_rfl)) k1 bel lt1) (trodAll_cons_mk (shut_int Try.underlying3 w2) (trodAll_cons_mk (Below.trod laidOut (by kernel_rfl) (of_decide_eq_true (by kernel_rfl)) k3 bel lt3) trodAll_mk0)))), rfl, bel.frame _, fun h => by cases h⟩

theorem over : Rows.turnsOwnRow.holds Try.pinned (OpenSpec.ofChange Rows.turnsOwnSpec) :=
  OpenClaim.holds_of_wide 11 Try.f11 rfl rfl rfl rfl rfl rfl rfl ⟨rfl, rfl, rfl, rfl, rfl⟩ rfl rfl rfl rfl rfl (by kernel_rfl) Try.func11 (by kernel_rfl)
    (of_decide_eq_true (by kernel_rfl)) (by unfold Func.isWrapper; first | (rw [if_pos (by decide +kernel)]; kernel_rfl) | (rw [if_neg (by decide +kernel)]; exact ⟨rfl, rfl⟩))
    (fun os started H enc _ => lifted os started H enc)

theorem proved : Rows.TurnsOwnSaid := over
#print axioms proved
end Go.Proofs.Ytfompfaepabpgaa.turnsOwn
