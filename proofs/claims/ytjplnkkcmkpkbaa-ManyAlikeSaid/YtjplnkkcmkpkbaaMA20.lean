/- Several of my texts in one: NegW. -/
import Derived.Test.YtjplnkkcmkpkbaaMA16
set_option linter.unusedSimpArgs false
set_option linter.unusedVariables false
/- The machine: a worker says that it is done: Add of minus one. -/
namespace Go.Proofs.Ytjplnkkcmkpkbaa
open Go.Conc Go.ConcN Go.RowKit Go.Conc.Lib Go.ConcR.Gen Go.ConcN.Gen
open Go.ConcR (KK wgBlock WgAt stA smA rd wr mk DC0)
variable {L : WgLink}
section
variable {q : Ph} {b₀ : Frame} {a₀ : Act} {ops₀ : Array Oper} {i₀ : Nat} {rest₀ : List Nat} {k₀ : List Item} {cs : List Frame} {qt mT : Nat}

set_option maxRecDepth 100000 in
set_option maxHeartbeats 8000000 in
theorem negW {P : Program} (H : WgLib P L) {w0 : World} (hT : QuitsD P qt 0 (G (b₀.at (a₀.put ((ops₀[i₀]?).bind (·.dst)) (.tuple #[])) (.inRegion ops₀ rest₀ :: k₀)) cs)) (w : World) (hF : RS q w0 w ∧ WgLive q.ty q.Wg w) :
    Goes P false (RS q) DC0 (KR0 P q) 40 (G ((base L.add).at ⟨#[.pointer (some ⟨q.Wg, 0, none⟩), .int .i64 (-1)] ++ Array.replicate 115 undef, []⟩ [.code ((addFn L).body.getD .skip)]) (b₀.at a₀ (.inRegion ops₀ (i₀ :: rest₀) :: k₀) :: cs)) w := by
  lib_facts
  walk_nrmf addFn
  u_c stepG_seq rs_rely hF
  u_cond true rs_rely hF
  u_c stepG_seq rs_rely hF
  u_c stepG_seq rs_rely hF
  u_reg rs_rely hF
  u_op rs_rely hF
  u_op rs_rely hF
  u_c stepG_region_end rs_rely hF
  u_cond true rs_rely hF
  u_reg rs_rely hF
  u_op rs_rely hF
  u_conv H.underlying_tWgP H.room_tWg (Go.ConcN.Gen.WgLive.cell0 hF.2).choose_spec rs_rely hF
  refine Goes.stop (fun w₁ h₁ => ?_)
  replace hF := rs_rely hF h₁
  clear h₁
  refine ⟨rfl, _, stepG_markAt .releaseMerge (by simp) rfl rfl (by k_ne) rfl H.f_relMerge (x_relMerge_n L) (x_relMerge_b L) (x_relMerge_x L) (x_relMerge_f L) (by simp [Act.eval, stA]), 10, ?_⟩
  walk_nrm
  u_c stepG_region_end rs_rely hF
  u_c stepG_seq rs_rely hF
  u_reg rs_rely hF
  refine Goes.stop (fun w₁ h₁ => ?_)
  replace hF := rs_rely hF h₁
  clear h₁
  refine ⟨rfl, _, stepG_mark0 .disable (by simp) rfl rfl (by k_ne) rfl H.f_disable (x_disable_n L) (x_disable_b L) (x_disable_x L) (x_disable_f L), 60, ?_⟩
  walk_nrm
  u_c stepG_region_end rs_rely hF
  u_reg rs_rely hF
  u_defer rs_rely hF
  u_c stepG_region_end rs_rely hF
  u_c stepG_seq rs_rely hF
  u_reg rs_rely hF
  u_op rs_rely hF
  u_c stepG_region_end rs_rely hF
  u_c stepG_seq rs_rely hF
  u_c stepG_seq rs_rely hF
  u_reg rs_rely hF
  u_bub rs_rely hF
  u_c stepG_region_end rs_rely hF
  u_cond false rs_rely hF
  u_c stepG_skip rs_rely hF
  u_c stepG_seq rs_rely hF
  u_reg rs_rely hF
  u_op rs_rely hF
  u_op rs_rely hF
  u_op rs_rely hF
  u_op rs_rely hF
  u_op rs_rely hF
  u_op rs_rely hF
  u_call H.f_uAdd (nm_uAdd L) uAddFn rs_rely hF
  u_c stepG_seq rs_rely hF
  u_reg rs_rely hF
  u_op rs_rely hF
  u_c stepG_region_end rs_rely hF
  u_c stepG_seq rs_rely hF
  u_reg rs_rely hF
  u_op rs_rely hF
  u_op rs_rely hF
  u_op rs_rely hF
  u_op rs_rely hF
  refine Goes.stop (fun w₁ h₁ => ?_)
  clear h₁ hF
  refine ⟨rfl, fun v wt hwt hv hw => ?_⟩
  have e0 : IntKind.u64.wrap (KK + 18446744069414584320) = 0 := by decide
  have e1 : IntKind.u64.wrap (KK + 1 + 18446744069414584320) = 1 := by decide
  rcases Nat.eq_zero_or_pos v with rfl | hvp
  · obtain rfl | rfl : wt = 0 ∨ wt = 1 := by omega
    · replace hw : WgAt q.ty q.Wg w₁ KK 0 := by simpa using hw
      have z : ((0 : Nat) : Int) * KK + ((0 : Nat) : Int) = 0 := by simp
      rw [z]
      refine ⟨_, (stepG_add_atomic rfl rfl (by k_ne) rfl H.f_addU64 (x_addU64_n L) (x_addU64_b L) (x_addU64_x L) .u64 (x_addU64_f L) rfl rfl hw.cellSt (hw.thaw 0)).trans (by rw [e0]; rfl), fun hl => absurd hl.2 (by decide), fun _ => ⟨qt + 89, ?_⟩⟩
      clear hw
      walk_nrm
      refine QuitsD.value _ rfl rfl (by k_ne) (fun _ => by go_simp; (try w_num); rfl) (fun _ => by simp [go_sem, *]) ?_
      walk_nrm
      q_c stepG_region_end
      q_c stepG_ret'
      q_leave1 H.f_uAdd
      refine QuitsD.value _ rfl rfl (by k_ne) (fun _ => by go_simp; (try w_num); rfl) (fun _ => by simp [go_sem, *]) ?_
      walk_nrm
      q_c stepG_region_end
      q_c stepG_seq
      q_c stepG_seq
      q_reg
      refine QuitsD.value _ rfl rfl (by k_ne) (fun _ => by go_simp; (try w_num); rfl) (fun _ => by simp [go_sem, *]) ?_
      walk_nrm
      refine QuitsD.value _ rfl rfl (by k_ne) (fun _ => by go_simp; (try w_num); rfl) (fun _ => by simp [go_sem, *]) ?_
      walk_nrm
      refine QuitsD.value _ rfl rfl (by k_ne) (fun _ => by go_simp; (try w_num); rfl) (fun _ => by simp [go_sem, *]) ?_
      walk_nrm
      refine QuitsD.value _ rfl rfl (by k_ne) (fun _ => by go_simp; (try w_num); rfl) (fun _ => by simp [go_sem, *]) ?_
      walk_nrm
      q_skip
      q_skip
      refine QuitsD.value _ rfl rfl (by k_ne) (fun _ => by go_simp; (try w_num); rfl) (fun _ => by simp [go_sem, *]) ?_
      walk_nrm
      q_c stepG_region_end
      q_cond false
      q_c stepG_skip
      q_c stepG_seq
      q_reg
      refine QuitsD.value _ rfl rfl (by k_ne) (fun _ => by go_simp; (try w_num); rfl) (fun _ => by simp [go_sem, *]) ?_
      walk_nrm
      refine QuitsD.value _ rfl rfl (by k_ne) (fun _ => by go_simp; (try w_num); rfl) (fun _ => by simp [go_sem, *]) ?_
      walk_nrm
      refine QuitsD.value _ rfl rfl (by k_ne) (fun _ => by go_simp; (try w_num); rfl) (fun _ => by simp [go_sem, *]) ?_
      walk_nrm
      refine QuitsD.value _ rfl rfl (by k_ne) (fun _ => by go_simp; (try w_num); rfl) (fun _ => by simp [go_sem, *]) ?_
      walk_nrm
      q_c stepG_region_end
      q_c stepG_seq
      q_reg
      refine QuitsD.value _ rfl rfl (by k_ne) (fun _ => by go_simp; (try w_num); rfl) (fun _ => by simp [go_sem, *]) ?_
      walk_nrm
      refine QuitsD.value _ rfl rfl (by k_ne) (fun _ => by go_simp; (try w_num); rfl) (fun _ => by simp [go_sem, *]) ?_
      walk_nrm
      refine QuitsD.value _ rfl rfl (by k_ne) (fun _ => by go_simp; (try w_num); rfl) (fun _ => by simp [go_sem, *]) ?_
      walk_nrm
      refine QuitsD.value _ rfl rfl (by k_ne) (fun _ => by go_simp; (try w_num); rfl) (fun _ => by simp [go_sem, *]) ?_
      walk_nrm
      q_c stepG_region_end
      q_c stepG_seq
      q_c stepG_seq
      q_reg
      refine QuitsD.value _ rfl rfl (by k_ne) (fun _ => by go_simp; (try w_num); rfl) (fun _ => by simp [go_sem, *]) ?_
      walk_nrm
      refine QuitsD.value _ rfl rfl (by k_ne) (fun _ => by go_simp; (try w_num); rfl) (fun _ => by simp [go_sem, *]) ?_
      walk_nrm
      refine QuitsD.value _ rfl rfl (by k_ne) (fun _ => by go_simp; (try w_num); rfl) (fun _ => by simp [go_sem, *]) ?_
      walk_nrm
      refine QuitsD.value _ rfl rfl (by k_ne) (fun _ => by go_simp; (try w_num); rfl) (fun _ => by simp [go_sem, *]) ?_
      walk_nrm
      refine QuitsD.value _ rfl rfl (by k_ne) (fun _ => by go_simp; (try w_num); rfl) (fun _ => by simp [go_sem, *]) ?_
      walk_nrm
      q_skip
      q_skip
      q_skip
      q_skip
      refine QuitsD.value _ rfl rfl (by k_ne) (fun _ => by go_simp; (try w_num); rfl) (fun _ => by simp [go_sem, *]) ?_
      walk_nrm
      q_c stepG_region_end
      q_cond false
      q_c stepG_skip
      q_c stepG_seq
      q_c stepG_seq
      q_reg
      refine QuitsD.value _ rfl rfl (by k_ne) (fun _ => by go_simp; (try w_num); rfl) (fun _ => by simp [go_sem, *]) ?_
      walk_nrm
      refine QuitsD.value _ rfl rfl (by k_ne) (fun _ => by go_simp; (try w_num); rfl) (fun _ => by simp [go_sem, *]) ?_
      walk_nrm
      q_c stepG_region_end
      q_cond false
      q_c stepG_skip
      q_c stepG_seq
      q_c stepG_seq
      q_reg
      refine QuitsD.value _ rfl rfl (by k_ne) (fun _ => by go_simp; (try w_num); rfl) (fun _ => by simp [go_sem, *]) ?_
      walk_nrm
      refine QuitsD.value _ rfl rfl (by k_ne) (fun _ => by go_simp; (try w_num); rfl) (fun _ => by simp [go_sem, *]) ?_
      walk_nrm
      refine QuitsD.value _ rfl rfl (by k_ne) (fun _ => by go_simp; (try w_num); rfl) (fun _ => by simp [go_sem, *]) ?_
      walk_nrm
      q_skip
      q_skip
      refine QuitsD.value _ rfl rfl (by k_ne) (fun _ => by go_simp; (try w_num); rfl) (fun _ => by simp [go_sem, *]) ?_
      walk_nrm
      refine QuitsD.value _ rfl rfl (by k_ne) (fun _ => by go_simp; (try w_num); rfl) (fun _ => by simp [go_sem, *]) ?_
      walk_nrm
      q_skip
      q_skip
      q_skip
      q_skip
      refine QuitsD.value _ rfl rfl (by k_ne) (fun _ => by go_simp; (try w_num); rfl) (fun _ => by simp [go_sem, *]) ?_
      walk_nrm
      q_c stepG_region_end
      q_cond false
      q_c stepG_skip
      q_c stepG_seq
      q_c stepG_seq
      q_reg
      refine QuitsD.value _ rfl rfl (by k_ne) (fun _ => by go_simp; (try w_num); rfl) (fun _ => by simp [go_sem, *]) ?_
      walk_nrm
      refine QuitsD.value _ rfl rfl (by k_ne) (fun _ => by go_simp; (try w_num); rfl) (fun _ => by simp [go_sem, *]) ?_
      walk_nrm
      refine QuitsD.value _ rfl rfl (by k_ne) (fun _ => by go_simp; (try w_num); rfl) (fun _ => by simp [go_sem, *]) ?_
      walk_nrm
      refine QuitsD.value _ rfl rfl (by k_ne) (fun _ => by go_simp; (try w_num); rfl) (fun _ => by simp [go_sem, *]) ?_
      walk_nrm
      refine QuitsD.value _ rfl rfl (by k_ne) (fun _ => by go_simp; (try w_num); rfl) (fun _ => by simp [go_sem, *]) ?_
      walk_nrm
      refine QuitsD.value _ rfl rfl (by k_ne) (fun _ => by go_simp; (try w_num); rfl) (fun _ => by simp [go_sem, *]) ?_
      walk_nrm
      q_c stepG_region_end
      q_cond true
      q_c stepG_ret'
      q_enable
      q_leave0 H.f_add
      exact quits_more hT (by omega)
    · replace hw : WgAt q.ty q.Wg w₁ (KK + 1) 0 := by simpa using hw
      have z : ((0 : Nat) : Int) * KK + ((1 : Nat) : Int) = 1 := by simp
      rw [z]
      refine ⟨_, (stepG_add_atomic rfl rfl (by k_ne) rfl H.f_addU64 (x_addU64_n L) (x_addU64_b L) (x_addU64_x L) .u64 (x_addU64_f L) rfl rfl hw.cellSt (hw.thaw 0)).trans (by rw [e1]; rfl), fun _ => ⟨120, ?_⟩, fun hl => absurd ⟨rfl, rfl⟩ hl⟩
      have hF : RS q (w₁.setCell (stA q.Wg) (.int .u64 1)) (w₁.setCell (stA q.Wg) (.int .u64 1)) ∧ WgLive q.ty q.Wg (w₁.setCell (stA q.Wg) (.int .u64 1)) := ⟨.refl _, _, _, hw.setSt 1⟩
      clear hw
      walk_nrm
      u_op rs_rely hF
      u_c stepG_region_end rs_rely hF
      u_c stepG_ret' rs_rely hF
      u_leave1 H.f_uAdd rs_rely hF
      u_op rs_rely hF
      u_c stepG_region_end rs_rely hF
      u_c stepG_seq rs_rely hF
      u_c stepG_seq rs_rely hF
      u_reg rs_rely hF
      u_op rs_rely hF
      u_op rs_rely hF
      u_op rs_rely hF
      u_op rs_rely hF
      u_skip rs_rely hF
      u_skip rs_rely hF
      u_op rs_rely hF
      u_c stepG_region_end rs_rely hF
      u_cond false rs_rely hF
      u_c stepG_skip rs_rely hF
      u_c stepG_seq rs_rely hF
      u_reg rs_rely hF
      u_op rs_rely hF
      u_op rs_rely hF
      u_op rs_rely hF
      u_op rs_rely hF
      u_c stepG_region_end rs_rely hF
      u_c stepG_seq rs_rely hF
      u_reg rs_rely hF
      u_op rs_rely hF
      u_op rs_rely hF
      u_op rs_rely hF
      u_op rs_rely hF
      u_c stepG_region_end rs_rely hF
      u_c stepG_seq rs_rely hF
      u_c stepG_seq rs_rely hF
      u_reg rs_rely hF
      u_op rs_rely hF
      u_op rs_rely hF
      u_op rs_rely hF
      u_op rs_rely hF
      u_op rs_rely hF
      u_skip rs_rely hF
      u_skip rs_rely hF
      u_skip rs_rely hF
      u_skip rs_rely hF
      u_op rs_rely hF
      u_c stepG_region_end rs_rely hF
      u_cond false rs_rely hF
      u_c stepG_skip rs_rely hF
      u_c stepG_seq rs_rely hF
      u_c stepG_seq rs_rely hF
      u_reg rs_rely hF
      u_op rs_rely hF
      u_op rs_rely hF
      u_c stepG_region_end rs_rely hF
      u_cond false rs_rely hF
      u_c stepG_skip rs_rely hF
      u_c stepG_seq rs_rely hF
      u_c stepG_seq rs_rely hF
      u_reg rs_rely hF
      u_op rs_rely hF
      u_op rs_rely hF
      u_op rs_rely hF
      u_op rs_rely hF
      u_op rs_rely hF
      u_op rs_rely hF
      u_op rs_rely hF
      u_skip rs_rely hF
      u_skip rs_rely hF
      u_skip rs_rely hF
      u_skip rs_rely hF
      u_op rs_rely hF
      u_c stepG_region_end rs_rely hF
      u_cond false rs_rely hF
      u_c stepG_skip rs_rely hF
      u_c stepG_seq rs_rely hF
      u_c stepG_seq rs_rely hF
      u_reg rs_rely hF
      u_op rs_rely hF
      u_op rs_rely hF
      u_op rs_rely hF
      u_op rs_rely hF
      u_op rs_rely hF
      u_op rs_rely hF
      u_c stepG_region_end rs_rely hF
      u_cond false rs_rely hF
      u_c stepG_skip rs_rely hF
      u_c stepG_seq rs_rely hF
      u_c stepG_seq rs_rely hF
      u_reg rs_rely hF
      u_op rs_rely hF
      u_op rs_rely hF
      u_op rs_rely hF
      u_call H.f_uLoad (nm_uLoad L) uLoadFn rs_rely hF
      u_c stepG_seq rs_rely hF
      u_reg rs_rely hF
      u_op rs_rely hF
      u_c stepG_region_end rs_rely hF
      u_c stepG_seq rs_rely hF
      u_reg rs_rely hF
      u_op rs_rely hF
      u_op rs_rely hF
      u_op rs_rely hF
      refine Goes.stop (fun w₂ h₂ => ?_)
      clear h₂ hF
      refine ⟨rfl, fun hw => ⟨_, stepG_load_atomic rfl rfl (by k_ne) rfl H.f_loadU64 (x_loadU64_n L) (x_loadU64_b L) (x_loadU64_x L) .u64 (x_loadU64_f L) rfl hw.cellSt, 60, ?_⟩⟩
      have hF : RS q w₂ w₂ ∧ WgLive q.ty q.Wg w₂ := ⟨.refl _, _, _, hw⟩
      clear hw
      walk_nrm
      u_op rs_rely hF
      u_c stepG_region_end rs_rely hF
      u_c stepG_ret' rs_rely hF
      u_leave1 H.f_uLoad rs_rely hF
      u_op rs_rely hF
      u_op rs_rely hF
      u_c stepG_region_end rs_rely hF
      u_cond false rs_rely hF
      u_c stepG_skip rs_rely hF
      u_c stepG_seq rs_rely hF
      u_reg rs_rely hF
      u_op rs_rely hF
      u_op rs_rely hF
      u_op rs_rely hF
      u_call H.f_uStore (nm_uStore L) uStoreFn rs_rely hF
      u_reg rs_rely hF
      u_op rs_rely hF
      u_op rs_rely hF
      u_op rs_rely hF
      u_op rs_rely hF
      refine Goes.stop (fun w₃ h₃ => ?_)
      clear h₃ hF
      refine ⟨rfl, fun hw => ⟨_, stepG_store_atomic rfl rfl (by k_ne) rfl H.f_storeU64 (x_storeU64_n L) (x_storeU64_b L) (x_storeU64_x L) (x_storeU64_f L) rfl rfl hw.cellSt (hw.thaw 0), 60, ?_⟩⟩
      have hF : RS q (w₃.setCell (stA q.Wg) (.int .u64 0)) (w₃.setCell (stA q.Wg) (.int .u64 0)) ∧ WgLive q.ty q.Wg (w₃.setCell (stA q.Wg) (.int .u64 0)) := ⟨.refl _, _, _, hw.setSt 0⟩
      clear hw
      walk_nrm
      u_c stepG_region_end rs_rely hF
      u_c stepG_end rs_rely hF
      u_leave0 H.f_uStore rs_rely hF
      u_c stepG_region_end rs_rely hF
      u_c stepG_seq rs_rely hF
      u_c stepG_seq rs_rely hF
      u_reg rs_rely hF
      u_op rs_rely hF
      u_c stepG_region_end rs_rely hF
      u_cond false rs_rely hF
      u_c stepG_skip rs_rely hF
      u_c stepG_block rs_rely hF
      u_c stepG_loop rs_rely hF
      u_c stepG_seq rs_rely hF
      u_c stepG_seq rs_rely hF
      u_reg rs_rely hF
      u_op rs_rely hF
      u_op rs_rely hF
      u_c stepG_region_end rs_rely hF
      u_cond true rs_rely hF
      u_c stepG_skip rs_rely hF
      u_c stepG_seq rs_rely hF
      u_c stepG_block rs_rely hF
      u_reg rs_rely hF
      u_op rs_rely hF
      u_op rs_rely hF
      u_op rs_rely hF
      refine Goes.stop (fun w₄ h₄ => ?_)
      clear h₄ hF
      refine ⟨rfl, mayWake_entry rfl rfl H.f_semrelease (x_semrelease_b L), fun hw => ⟨_, (stepG_semrelease rfl rfl (by k_ne) rfl H.f_semrelease (x_semrelease_n L) (x_semrelease_b L) (x_semrelease_x L) (x_semrelease_f L) (by simp [Act.eval, smA]) hw.cellSm (hw.thaw 1)).trans (by rfl), qt + 60, ?_⟩⟩
      clear hw
      walk_nrm
      q_c stepG_region_end
      q_c stepG_inBlock
      q_reg
      refine QuitsD.value _ rfl rfl (by k_ne) (fun _ => by go_simp; (try w_num); rfl) (fun _ => by simp [go_sem, *]) ?_
      walk_nrm
      refine QuitsD.value _ rfl rfl (by k_ne) (fun _ => by go_simp; (try w_num); rfl) (fun _ => by simp [go_sem, *]) ?_
      walk_nrm
      refine QuitsD.value _ rfl rfl (by k_ne) (fun _ => by go_simp; (try w_num); rfl) (fun _ => by simp [go_sem, *]) ?_
      walk_nrm
      q_c stepG_region_end
      q_c stepG_inLoop
      q_c stepG_seq
      q_c stepG_seq
      q_reg
      refine QuitsD.value _ rfl rfl (by k_ne) (fun _ => by go_simp; (try w_num); rfl) (fun _ => by simp [go_sem, *]) ?_
      walk_nrm
      refine QuitsD.value _ rfl rfl (by k_ne) (fun _ => by go_simp; (try w_num); rfl) (fun _ => by simp [go_sem, *]) ?_
      walk_nrm
      q_c stepG_region_end
      q_cond false
      q_exit
      q_c stepG_end
      q_enable
      q_leave0 H.f_add
      exact quits_more hT (by omega)
  · obtain rfl | rfl : wt = 0 ∨ wt = 1 := by omega
    · obtain ⟨S, hS⟩ : ∃ S : Int, S = (v : Int) * KK + ((0 : Nat) : Int) := ⟨_, rfl⟩
      have eS : IntKind.u64.wrap (((v : Int) + 1) * KK + ((0 : Nat) : Int) + 18446744069414584320) = S := by rw [IntKind.wrap_u64, hS]; simp only [KK]; omega
      rw [← hS]
      have a1 : S / 4294967296 = (v : Int) := by rw [hS]; simp only [KK]; omega
      have b1 : bits .and .u64 S 2147483648 = 0 := by rw [hS]; have := st_flag v 0 (by omega) hwt; simpa [KK] using this
      have b2 : bits .and .u64 S 2147483647 = 0 := by rw [hS]; have := st_waiters v 0 (by omega) hwt; simpa [KK] using this
      have c1 : IntKind.i32.wrap (v : Int) = (v : Int) := by rw [IntKind.wrap_i32]; omega
      have q3 : decide ((v : Int) < 0) = false := decide_eq_false (by omega)
      have q4 : decide (0 < (v : Int)) = true := decide_eq_true (by omega)
      have q5 : ((v : Int) == 0) = false := by simp; omega
      have q6 : decide ((v : Int) = 0) = false := decide_eq_false (by omega)
      refine ⟨_, (stepG_add_atomic rfl rfl (by k_ne) rfl H.f_addU64 (x_addU64_n L) (x_addU64_b L) (x_addU64_x L) .u64 (x_addU64_f L) rfl rfl hw.cellSt (hw.thaw 0)).trans (by rw [eS]; rfl), fun hl => absurd hl.1 (by omega), fun _ => ⟨qt + 89, ?_⟩⟩
      clear hw hS eS
      walk_nrm
      refine QuitsD.value _ rfl rfl (by k_ne) (fun _ => by go_simp; (try w_num); rfl) (fun _ => by simp [go_sem, *]) ?_
      walk_nrm
      q_c stepG_region_end
      q_c stepG_ret'
      q_leave1 H.f_uAdd
      refine QuitsD.value _ rfl rfl (by k_ne) (fun _ => by go_simp; (try w_num); rfl) (fun _ => by simp [go_sem, *]) ?_
      walk_nrm
      q_c stepG_region_end
      q_c stepG_seq
      q_c stepG_seq
      q_reg
      refine QuitsD.value _ rfl rfl (by k_ne) (fun _ => by go_simp; (try w_num); rfl) (fun _ => by simp [go_sem, *]) ?_
      walk_nrm
      refine QuitsD.value _ rfl rfl (by k_ne) (fun _ => by go_simp; (try w_num); rfl) (fun _ => by simp [go_sem, *]) ?_
      walk_nrm
      refine QuitsD.value _ rfl rfl (by k_ne) (fun _ => by go_simp; (try w_num); rfl) (fun _ => by simp [go_sem, *]) ?_
      walk_nrm
      refine QuitsD.value _ rfl rfl (by k_ne) (fun _ => by go_simp; (try w_num); rfl) (fun _ => by simp [go_sem, *]) ?_
      walk_nrm
      q_skip
      q_skip
      refine QuitsD.value _ rfl rfl (by k_ne) (fun _ => by go_simp; (try w_num); rfl) (fun _ => by simp [go_sem, *]) ?_
      walk_nrm
      q_c stepG_region_end
      q_cond false
      q_c stepG_skip
      q_c stepG_seq
      q_reg
      refine QuitsD.value _ rfl rfl (by k_ne) (fun _ => by go_simp; (try w_num); rfl) (fun _ => by simp [go_sem, *]) ?_
      walk_nrm
      refine QuitsD.value _ rfl rfl (by k_ne) (fun _ => by go_simp; (try w_num); rfl) (fun _ => by simp [go_sem, *]) ?_
      walk_nrm
      refine QuitsD.value _ rfl rfl (by k_ne) (fun _ => by go_simp; (try w_num); rfl) (fun _ => by simp [go_sem, *]) ?_
      walk_nrm
      refine QuitsD.value _ rfl rfl (by k_ne) (fun _ => by go_simp; (try w_num); rfl) (fun _ => by simp [go_sem, *]) ?_
      walk_nrm
      q_c stepG_region_end
      q_c stepG_seq
      q_reg
      refine QuitsD.value _ rfl rfl (by k_ne) (fun _ => by go_simp; (try w_num); rfl) (fun _ => by simp [go_sem, *]) ?_
      walk_nrm
      refine QuitsD.value _ rfl rfl (by k_ne) (fun _ => by go_simp; (try w_num); rfl) (fun _ => by simp [go_sem, *]) ?_
      walk_nrm
      refine QuitsD.value _ rfl rfl (by k_ne) (fun _ => by go_simp; (try w_num); rfl) (fun _ => by simp [go_sem, *]) ?_
      walk_nrm
      refine QuitsD.value _ rfl rfl (by k_ne) (fun _ => by go_simp; (try w_num); rfl) (fun _ => by simp [go_sem, *]) ?_
      walk_nrm
      q_c stepG_region_end
      q_c stepG_seq
      q_c stepG_seq
      q_reg
      refine QuitsD.value _ rfl rfl (by k_ne) (fun _ => by go_simp; (try w_num); rfl) (fun _ => by simp [go_sem, *]) ?_
      walk_nrm
      refine QuitsD.value _ rfl rfl (by k_ne) (fun _ => by go_simp; (try w_num); rfl) (fun _ => by simp [go_sem, *]) ?_
      walk_nrm
      refine QuitsD.value _ rfl rfl (by k_ne) (fun _ => by go_simp; (try w_num); rfl) (fun _ => by simp [go_sem, *]) ?_
      walk_nrm
      refine QuitsD.value _ rfl rfl (by k_ne) (fun _ => by go_simp; (try w_num); rfl) (fun _ => by simp [go_sem, *]) ?_
      walk_nrm
      refine QuitsD.value _ rfl rfl (by k_ne) (fun _ => by go_simp; (try w_num); rfl) (fun _ => by simp [go_sem, *]) ?_
      walk_nrm
      q_skip
      q_skip
      q_skip
      q_skip
      refine QuitsD.value _ rfl rfl (by k_ne) (fun _ => by go_simp; (try w_num); rfl) (fun _ => by simp [go_sem, *]) ?_
      walk_nrm
      q_c stepG_region_end
      q_cond false
      q_c stepG_skip
      q_c stepG_seq
      q_c stepG_seq
      q_reg
      refine QuitsD.value _ rfl rfl (by k_ne) (fun _ => by go_simp; (try w_num); rfl) (fun _ => by simp [go_sem, *]) ?_
      walk_nrm
      refine QuitsD.value _ rfl rfl (by k_ne) (fun _ => by go_simp; (try w_num); rfl) (fun _ => by simp [go_sem, *]) ?_
      walk_nrm
      q_c stepG_region_end
      q_cond false
      q_c stepG_skip
      q_c stepG_seq
      q_c stepG_seq
      q_reg
      refine QuitsD.value _ rfl rfl (by k_ne) (fun _ => by go_simp; (try w_num); rfl) (fun _ => by simp [go_sem, *]) ?_
      walk_nrm
      refine QuitsD.value _ rfl rfl (by k_ne) (fun _ => by go_simp; (try w_num); rfl) (fun _ => by simp [go_sem, *]) ?_
      walk_nrm
      refine QuitsD.value _ rfl rfl (by k_ne) (fun _ => by go_simp; (try w_num); rfl) (fun _ => by simp [go_sem, *]) ?_
      walk_nrm
      q_skip
      q_skip
      refine QuitsD.value _ rfl rfl (by k_ne) (fun _ => by go_simp; (try w_num); rfl) (fun _ => by simp [go_sem, *]) ?_
      walk_nrm
      refine QuitsD.value _ rfl rfl (by k_ne) (fun _ => by go_simp; (try w_num); rfl) (fun _ => by simp [go_sem, *]) ?_
      walk_nrm
      q_skip
      q_skip
      q_skip
      q_skip
      refine QuitsD.value _ rfl rfl (by k_ne) (fun _ => by go_simp; (try w_num); rfl) (fun _ => by simp [go_sem, *]) ?_
      walk_nrm
      q_c stepG_region_end
      q_cond false
      q_c stepG_skip
      q_c stepG_seq
      q_c stepG_seq
      q_reg
      refine QuitsD.value _ rfl rfl (by k_ne) (fun _ => by go_simp; (try w_num); rfl) (fun _ => by simp [go_sem, *]) ?_
      walk_nrm
      refine QuitsD.value _ rfl rfl (by k_ne) (fun _ => by go_simp; (try w_num); rfl) (fun _ => by simp [go_sem, *]) ?_
      walk_nrm
      refine QuitsD.value _ rfl rfl (by k_ne) (fun _ => by go_simp; (try w_num); rfl) (fun _ => by simp [go_sem, *]) ?_
      walk_nrm
      q_skip
      q_skip
      refine QuitsD.value _ rfl rfl (by k_ne) (fun _ => by go_simp; (try w_num); rfl) (fun _ => by simp [go_sem, *]) ?_
      walk_nrm
      q_c stepG_region_end
      q_cond true
      q_c stepG_ret'
      q_enable
      q_leave0 H.f_add
      exact quits_more hT (by omega)
    · obtain ⟨S, hS⟩ : ∃ S : Int, S = (v : Int) * KK + ((1 : Nat) : Int) := ⟨_, rfl⟩
      have eS : IntKind.u64.wrap (((v : Int) + 1) * KK + ((1 : Nat) : Int) + 18446744069414584320) = S := by rw [IntKind.wrap_u64, hS]; simp only [KK]; omega
      rw [← hS]
      have a1 : S / 4294967296 = (v : Int) := by rw [hS]; simp only [KK]; omega
      have b1 : bits .and .u64 S 2147483648 = 0 := by rw [hS]; have := st_flag v 1 (by omega) hwt; simpa [KK] using this
      have b2 : bits .and .u64 S 2147483647 = 1 := by rw [hS]; have := st_waiters v 1 (by omega) hwt; simpa [KK] using this
      have c1 : IntKind.i32.wrap (v : Int) = (v : Int) := by rw [IntKind.wrap_i32]; omega
      have q3 : decide ((v : Int) < 0) = false := decide_eq_false (by omega)
      have q4 : decide (0 < (v : Int)) = true := decide_eq_true (by omega)
      have q5 : ((v : Int) == 0) = false := by simp; omega
      have q6 : decide ((v : Int) = 0) = false := decide_eq_false (by omega)
      refine ⟨_, (stepG_add_atomic rfl rfl (by k_ne) rfl H.f_addU64 (x_addU64_n L) (x_addU64_b L) (x_addU64_x L) .u64 (x_addU64_f L) rfl rfl hw.cellSt (hw.thaw 0)).trans (by rw [eS]; rfl), fun hl => absurd hl.1 (by omega), fun _ => ⟨qt + 89, ?_⟩⟩
      clear hw hS eS
      walk_nrm
      refine QuitsD.value _ rfl rfl (by k_ne) (fun _ => by go_simp; (try w_num); rfl) (fun _ => by simp [go_sem, *]) ?_
      walk_nrm
      q_c stepG_region_end
      q_c stepG_ret'
      q_leave1 H.f_uAdd
      refine QuitsD.value _ rfl rfl (by k_ne) (fun _ => by go_simp; (try w_num); rfl) (fun _ => by simp [go_sem, *]) ?_
      walk_nrm
      q_c stepG_region_end
      q_c stepG_seq
      q_c stepG_seq
      q_reg
      refine QuitsD.value _ rfl rfl (by k_ne) (fun _ => by go_simp; (try w_num); rfl) (fun _ => by simp [go_sem, *]) ?_
      walk_nrm
      refine QuitsD.value _ rfl rfl (by k_ne) (fun _ => by go_simp; (try w_num); rfl) (fun _ => by simp [go_sem, *]) ?_
      walk_nrm
      refine QuitsD.value _ rfl rfl (by k_ne) (fun _ => by go_simp; (try w_num); rfl) (fun _ => by simp [go_sem, *]) ?_
      walk_nrm
      refine QuitsD.value _ rfl rfl (by k_ne) (fun _ => by go_simp; (try w_num); rfl) (fun _ => by simp [go_sem, *]) ?_
      walk_nrm
      q_skip
      q_skip
      refine QuitsD.value _ rfl rfl (by k_ne) (fun _ => by go_simp; (try w_num); rfl) (fun _ => by simp [go_sem, *]) ?_
      walk_nrm
      q_c stepG_region_end
      q_cond false
      q_c stepG_skip
      q_c stepG_seq
      q_reg
      refine QuitsD.value _ rfl rfl (by k_ne) (fun _ => by go_simp; (try w_num); rfl) (fun _ => by simp [go_sem, *]) ?_
      walk_nrm
      refine QuitsD.value _ rfl rfl (by k_ne) (fun _ => by go_simp; (try w_num); rfl) (fun _ => by simp [go_sem, *]) ?_
      walk_nrm
      refine QuitsD.value _ rfl rfl (by k_ne) (fun _ => by go_simp; (try w_num); rfl) (fun _ => by simp [go_sem, *]) ?_
      walk_nrm
      refine QuitsD.value _ rfl rfl (by k_ne) (fun _ => by go_simp; (try w_num); rfl) (fun _ => by simp [go_sem, *]) ?_
      walk_nrm
      q_c stepG_region_end
      q_c stepG_seq
      q_reg
      refine QuitsD.value _ rfl rfl (by k_ne) (fun _ => by go_simp; (try w_num); rfl) (fun _ => by simp [go_sem, *]) ?_
      walk_nrm
      refine QuitsD.value _ rfl rfl (by k_ne) (fun _ => by go_simp; (try w_num); rfl) (fun _ => by simp [go_sem, *]) ?_
      walk_nrm
      refine QuitsD.value _ rfl rfl (by k_ne) (fun _ => by go_simp; (try w_num); rfl) (fun _ => by simp [go_sem, *]) ?_
      walk_nrm
      refine QuitsD.value _ rfl rfl (by k_ne) (fun _ => by go_simp; (try w_num); rfl) (fun _ => by simp [go_sem, *]) ?_
      walk_nrm
      q_c stepG_region_end
      q_c stepG_seq
      q_c stepG_seq
      q_reg
      refine QuitsD.value _ rfl rfl (by k_ne) (fun _ => by go_simp; (try w_num); rfl) (fun _ => by simp [go_sem, *]) ?_
      walk_nrm
      refine QuitsD.value _ rfl rfl (by k_ne) (fun _ => by go_simp; (try w_num); rfl) (fun _ => by simp [go_sem, *]) ?_
      walk_nrm
      refine QuitsD.value _ rfl rfl (by k_ne) (fun _ => by go_simp; (try w_num); rfl) (fun _ => by simp [go_sem, *]) ?_
      walk_nrm
      refine QuitsD.value _ rfl rfl (by k_ne) (fun _ => by go_simp; (try w_num); rfl) (fun _ => by simp [go_sem, *]) ?_
      walk_nrm
      refine QuitsD.value _ rfl rfl (by k_ne) (fun _ => by go_simp; (try w_num); rfl) (fun _ => by simp [go_sem, *]) ?_
      walk_nrm
      q_skip
      q_skip
      q_skip
      q_skip
      refine QuitsD.value _ rfl rfl (by k_ne) (fun _ => by go_simp; (try w_num); rfl) (fun _ => by simp [go_sem, *]) ?_
      walk_nrm
      q_c stepG_region_end
      q_cond false
      q_c stepG_skip
      q_c stepG_seq
      q_c stepG_seq
      q_reg
      refine QuitsD.value _ rfl rfl (by k_ne) (fun _ => by go_simp; (try w_num); rfl) (fun _ => by simp [go_sem, *]) ?_
      walk_nrm
      refine QuitsD.value _ rfl rfl (by k_ne) (fun _ => by go_simp; (try w_num); rfl) (fun _ => by simp [go_sem, *]) ?_
      walk_nrm
      q_c stepG_region_end
      q_cond false
      q_c stepG_skip
      q_c stepG_seq
      q_c stepG_seq
      q_reg
      refine QuitsD.value _ rfl rfl (by k_ne) (fun _ => by go_simp; (try w_num); rfl) (fun _ => by simp [go_sem, *]) ?_
      walk_nrm
      refine QuitsD.value _ rfl rfl (by k_ne) (fun _ => by go_simp; (try w_num); rfl) (fun _ => by simp [go_sem, *]) ?_
      walk_nrm
      refine QuitsD.value _ rfl rfl (by k_ne) (fun _ => by go_simp; (try w_num); rfl) (fun _ => by simp [go_sem, *]) ?_
      walk_nrm
      refine QuitsD.value _ rfl rfl (by k_ne) (fun _ => by go_simp; (try w_num); rfl) (fun _ => by simp [go_sem, *]) ?_
      walk_nrm
      refine QuitsD.value _ rfl rfl (by k_ne) (fun _ => by go_simp; (try w_num); rfl) (fun _ => by simp [go_sem, *]) ?_
      walk_nrm
      refine QuitsD.value _ rfl rfl (by k_ne) (fun _ => by go_simp; (try w_num); rfl) (fun _ => by simp [go_sem, *]) ?_
      walk_nrm
      refine QuitsD.value _ rfl rfl (by k_ne) (fun _ => by go_simp; (try w_num); rfl) (fun _ => by simp [go_sem, *]) ?_
      walk_nrm
      q_skip
      q_skip
      q_skip
      q_skip
      refine QuitsD.value _ rfl rfl (by k_ne) (fun _ => by go_simp; (try w_num); rfl) (fun _ => by simp [go_sem, *]) ?_
      walk_nrm
      q_c stepG_region_end
      q_cond false
      q_c stepG_skip
      q_c stepG_seq
      q_c stepG_seq
      q_reg
      refine QuitsD.value _ rfl rfl (by k_ne) (fun _ => by go_simp; (try w_num); rfl) (fun _ => by simp [go_sem, *]) ?_
      walk_nrm
      refine QuitsD.value _ rfl rfl (by k_ne) (fun _ => by go_simp; (try w_num); rfl) (fun _ => by simp [go_sem, *]) ?_
      walk_nrm
      refine QuitsD.value _ rfl rfl (by k_ne) (fun _ => by go_simp; (try w_num); rfl) (fun _ => by simp [go_sem, *]) ?_
      walk_nrm
      q_skip
      q_skip
      refine QuitsD.value _ rfl rfl (by k_ne) (fun _ => by go_simp; (try w_num); rfl) (fun _ => by simp [go_sem, *]) ?_
      walk_nrm
      q_c stepG_region_end
      q_cond true
      q_c stepG_ret'
      q_enable
      q_leave0 H.f_add
      exact quits_more hT (by omega)
/-- as its caller meets it -/
theorem negC {P : Program} (H : WgLib P L) {w0 : World} {T : Array Value} {c : Code} (hc : (addFn L).body = some c) (hTm : T = #[.pointer (some ⟨q.Wg, 0, none⟩), .int .i64 (-1)] ++ Array.replicate 115 undef) (hT : QuitsD P qt 0 (G (b₀.at (a₀.put ((ops₀[i₀]?).bind (·.dst)) (.tuple #[])) (.inRegion ops₀ rest₀ :: k₀)) cs)) (w : World) (hF : RS q w0 w ∧ WgLive q.ty q.Wg w) :
    Goes P false (RS q) DC0 (KR0 P q) 40 (G ((base L.add).at ⟨T, []⟩ [.code c]) (b₀.at a₀ (.inRegion ops₀ (i₀ :: rest₀) :: k₀) :: cs)) w := by
  subst hTm
  have := negW (L := L) H hT w hF
  rw [hc] at this
  exact this
end
end Go.Proofs.Ytjplnkkcmkpkbaa
