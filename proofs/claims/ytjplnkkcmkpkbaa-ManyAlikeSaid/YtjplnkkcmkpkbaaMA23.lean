/- Several of my texts in one: WaitM. -/
import Derived.Test.YtjplnkkcmkpkbaaMA16
import Derived.Test.YtjplnkkcmkpkbaaMA11
set_option linter.unusedSimpArgs false
set_option linter.unusedVariables false
/- The machine: the starter waits. -/
namespace Go.Proofs.Ytjplnkkcmkpkbaa
open Go.Conc Go.ConcN Go.RowKit Go.Conc.Lib Go.ConcR.Gen Go.ConcN.Gen
open Go.ConcR (KK wgBlock WgAt stA smA rd wr mk DC0)
variable {L : WgLink}
section
variable {q : Ph} {b₀ : Frame} {a₀ : Act} {ops₀ : Array Oper} {i₀ : Nat} {rest₀ : List Nat} {k₀ : List Item} {cs : List Frame} {qt mT : Nat}

/-- at the head of the loop in Wait -/
def AnchM (L : WgLink) (q : Ph) (w0 : World) (c : Frame) (cs : List Frame) (g : Goroutine) (w : World) : Prop :=
  ∃ T : Array Value, g = G ((base L.wait).at ⟨T, []⟩ [.code (L7 L), .inLoop (L7 L), .inBlock 0]) (c :: cs) ∧ T.size = 84 ∧ T[0]? = some (.pointer (some ⟨q.Wg, 0, none⟩)) ∧ RS q w0 w ∧ WgLive q.ty q.Wg w

set_option maxRecDepth 100000 in
set_option maxHeartbeats 8000000 in
theorem waitRound {P : Program} (H : WgLib P L) (hG : Geom q) {Fin : Goroutine → World → Prop} {w0 : World} (hT : ∀ w, RS q w0 w ∧ WgLive q.ty q.Wg w → Goes P true (RS q) (DM q) Fin mT (G (b₀.at (a₀.put ((ops₀[i₀]?).bind (·.dst)) (.tuple #[])) (.inRegion ops₀ rest₀ :: k₀)) cs) w)
    (g : Goroutine) (w : World) (h : AnchM L q w0 (b₀.at a₀ (.inRegion ops₀ (i₀ :: rest₀) :: k₀)) cs g w) :
    ∃ m, Goes P true (RS q) (DM q) (MW1 P q (AnchM L q w0 (b₀.at a₀ (.inRegion ops₀ (i₀ :: rest₀) :: k₀)) cs) Fin) m g w := by
  have hlo := hG.wg
  lib_facts
  obtain ⟨T, rfl, hT84, t0, hF⟩ := h
  obtain ⟨v0, v1, v2, v3, v4, v5, v6, v7, v8, v9, v10, v11, v12, v13, v14, v15, v16, v17, v18, v19, v20, v21, v22, v23, v24, v25, v26, v27, v28, v29, v30, v31, v32, v33, v34, v35, v36, v37, v38, v39, v40, v41, v42, v43, v44, v45, v46, v47, v48, v49, v50, v51, v52, v53, v54, v55, v56, v57, v58, v59, v60, v61, v62, v63, v64, v65, v66, v67, v68, v69, v70, v71, v72, v73, v74, v75, v76, v77, v78, v79, v80, v81, v82, v83, rfl⟩ := array84 T hT84
  simp only [List.getElem?_toArray, List.getElem?_cons_zero, Option.some.injEq] at t0
  subst t0
  refine ⟨40, ?_⟩
  simp only [L7, body_wait, waitFn, Option.getD_some]
  refine Goes.step rfl (fun _ h₁ => ?_)
  replace hF := rs_rely hF h₁
  clear h₁
  rw [stepG_block]
  simp only [goes_go]
  refine ⟨by ((first | refine dm_none ?_ | refine dks_none ?_ | u_none); intro e he; simp at he), ?_⟩
  refine Goes.step rfl (fun _ h₁ => ?_)
  replace hF := rs_rely hF h₁
  clear h₁
  rw [stepG_seq]
  simp only [goes_go]
  refine ⟨by ((first | refine dm_none ?_ | refine dks_none ?_ | u_none); intro e he; simp at he), ?_⟩
  refine Goes.step rfl (fun _ h₁ => ?_)
  replace hF := rs_rely hF h₁
  clear h₁
  rw [stepG_region]
  simp only [goes_go, List.size_toArray, List.length_cons, List.length_nil, Nat.reduceAdd, Nat.zero_add, List.range, List.range.loop]
  refine ⟨by ((first | refine dm_none ?_ | refine dks_none ?_ | u_none); intro e he; simp at he), ?_⟩
  refine Goes.step rfl (fun _ h₁ => ?_)
  replace hF := rs_rely hF h₁
  clear h₁
  refine goes_oper_k rfl rfl (by k_ne) (fun K hK => ?_)
  go_simp
  refine hK _ _ ⟨?_, ?_⟩
  · first | refine dm_none ?_ | refine dks_none ?_ | u_none
    intro e he
    have hm := mem_listed he
    simp [go_sem, *] at hm
  clear hK K
  try w_num
  refine Goes.step rfl (fun _ h₁ => ?_)
  replace hF := rs_rely hF h₁
  clear h₁
  refine goes_oper_k rfl rfl (by k_ne) (fun K hK => ?_)
  go_simp
  refine hK _ _ ⟨?_, ?_⟩
  · first | refine dm_none ?_ | refine dks_none ?_ | u_none
    intro e he
    have hm := mem_listed he
    simp [go_sem, *] at hm
  clear hK K
  try w_num
  refine Goes.step rfl (fun _ h₁ => ?_)
  replace hF := rs_rely hF h₁
  clear h₁
  refine goes_oper_k rfl rfl (by k_ne) (fun K hK => ?_)
  go_simp
  refine hK _ _ ⟨?_, ?_⟩
  · first | refine dm_none ?_ | refine dks_none ?_ | u_none
    intro e he
    have hm := mem_listed he
    simp [go_sem, *] at hm
  clear hK K
  try w_num
  refine Goes.step rfl (fun _ h₁ => ?_)
  replace hF := rs_rely hF h₁
  clear h₁
  refine goes_call rfl rfl (by k_ne) rfl H.f_uLoad (nm_uLoad L) rfl ⟨by ((first | refine dm_none ?_ | refine dks_none ?_ | u_none); intro e he; simp at he), ?_⟩
  walk_nrmf uLoadFn
  refine Goes.step rfl (fun _ h₁ => ?_)
  replace hF := rs_rely hF h₁
  clear h₁
  rw [stepG_seq]
  simp only [goes_go]
  refine ⟨by ((first | refine dm_none ?_ | refine dks_none ?_ | u_none); intro e he; simp at he), ?_⟩
  refine Goes.step rfl (fun _ h₁ => ?_)
  replace hF := rs_rely hF h₁
  clear h₁
  rw [stepG_region]
  simp only [goes_go, List.size_toArray, List.length_cons, List.length_nil, Nat.reduceAdd, Nat.zero_add, List.range, List.range.loop]
  refine ⟨by ((first | refine dm_none ?_ | refine dks_none ?_ | u_none); intro e he; simp at he), ?_⟩
  refine Goes.step rfl (fun _ h₁ => ?_)
  replace hF := rs_rely hF h₁
  clear h₁
  refine goes_oper_k rfl rfl (by k_ne) (fun K hK => ?_)
  go_simp
  refine hK _ _ ⟨?_, ?_⟩
  · first | refine dm_none ?_ | refine dks_none ?_ | u_none
    intro e he
    have hm := mem_listed he
    simp [go_sem, *] at hm
  clear hK K
  try w_num
  refine Goes.step rfl (fun _ h₁ => ?_)
  replace hF := rs_rely hF h₁
  clear h₁
  rw [stepG_region_end]
  simp only [goes_go]
  refine ⟨by ((first | refine dm_none ?_ | refine dks_none ?_ | u_none); intro e he; simp at he), ?_⟩
  refine Goes.step rfl (fun _ h₁ => ?_)
  replace hF := rs_rely hF h₁
  clear h₁
  rw [stepG_seq]
  simp only [goes_go]
  refine ⟨by ((first | refine dm_none ?_ | refine dks_none ?_ | u_none); intro e he; simp at he), ?_⟩
  refine Goes.step rfl (fun _ h₁ => ?_)
  replace hF := rs_rely hF h₁
  clear h₁
  rw [stepG_region]
  simp only [goes_go, List.size_toArray, List.length_cons, List.length_nil, Nat.reduceAdd, Nat.zero_add, List.range, List.range.loop]
  refine ⟨by ((first | refine dm_none ?_ | refine dks_none ?_ | u_none); intro e he; simp at he), ?_⟩
  refine Goes.step rfl (fun _ h₁ => ?_)
  replace hF := rs_rely hF h₁
  clear h₁
  refine goes_oper_k rfl rfl (by k_ne) (fun K hK => ?_)
  go_simp
  refine hK _ _ ⟨?_, ?_⟩
  · first | refine dm_none ?_ | refine dks_none ?_ | u_none
    intro e he
    have hm := mem_listed he
    simp [go_sem, *] at hm
  clear hK K
  try w_num
  refine Goes.step rfl (fun _ h₁ => ?_)
  replace hF := rs_rely hF h₁
  clear h₁
  refine goes_oper_k rfl rfl (by k_ne) (fun K hK => ?_)
  go_simp
  refine hK _ _ ⟨?_, ?_⟩
  · first | refine dm_none ?_ | refine dks_none ?_ | u_none
    intro e he
    have hm := mem_listed he
    simp [go_sem, *] at hm
  clear hK K
  try w_num
  refine Goes.step rfl (fun _ h₁ => ?_)
  replace hF := rs_rely hF h₁
  clear h₁
  refine goes_oper_k rfl rfl (by k_ne) (fun K hK => ?_)
  go_simp
  refine hK _ _ ⟨?_, ?_⟩
  · first | refine dm_none ?_ | refine dks_none ?_ | u_none
    intro e he
    have hm := mem_listed he
    simp [go_sem, *] at hm
  clear hK K
  try w_num
  refine Goes.stop (fun w₁ h₁ => ?_)
  replace hF := rs_rely hF h₁
  clear h₁
  refine ⟨rfl, fun v hv hw => ?_⟩
  rcases Nat.eq_zero_or_pos v with rfl | hvp
  · replace hw : WgAt q.ty q.Wg w₁ 0 0 := by simpa using hw
    refine ⟨_, stepG_load_atomic (v := 0) rfl rfl (by k_ne) rfl H.f_loadU64 (x_loadU64_n L) (x_loadU64_b L) (x_loadU64_x L) .u64 (x_loadU64_f L) rfl hw.cellSt, fun _ => ⟨70, ?_⟩, fun h => absurd rfl h⟩
    clear hw
    walk_nrm
    refine Goes.step rfl (fun _ h₁ => ?_)
    replace hF := rs_rely hF h₁
    clear h₁
    refine goes_oper_k rfl rfl (by k_ne) (fun K hK => ?_)
    go_simp
    refine hK _ _ ⟨?_, ?_⟩
    · first | refine dm_none ?_ | refine dks_none ?_ | u_none
      intro e he
      have hm := mem_listed he
      simp [go_sem, *] at hm
    clear hK K
    try w_num
    refine Goes.step rfl (fun _ h₁ => ?_)
    replace hF := rs_rely hF h₁
    clear h₁
    rw [stepG_region_end]
    simp only [goes_go]
    refine ⟨by ((first | refine dm_none ?_ | refine dks_none ?_ | u_none); intro e he; simp at he), ?_⟩
    refine Goes.step rfl (fun _ h₁ => ?_)
    replace hF := rs_rely hF h₁
    clear h₁
    rw [stepG_ret']
    simp only [goes_go]
    refine ⟨by ((first | refine dm_none ?_ | refine dks_none ?_ | u_none); intro e he; simp at he), ?_⟩
    refine Goes.step rfl (fun _ h₁ => ?_)
    replace hF := rs_rely hF h₁
    clear h₁
    refine goes_leave1 rfl rfl H.f_uLoad rfl ⟨by ((first | refine dm_none ?_ | refine dks_none ?_ | u_none); intro e he; simp at he), ?_⟩
    walk_nrm
    refine Goes.step rfl (fun _ h₁ => ?_)
    replace hF := rs_rely hF h₁
    clear h₁
    refine goes_oper_k rfl rfl (by k_ne) (fun K hK => ?_)
    go_simp
    refine hK _ _ ⟨?_, ?_⟩
    · first | refine dm_none ?_ | refine dks_none ?_ | u_none
      intro e he
      have hm := mem_listed he
      simp [go_sem, *] at hm
    clear hK K
    try w_num
    refine Goes.step rfl (fun _ h₁ => ?_)
    replace hF := rs_rely hF h₁
    clear h₁
    rw [stepG_region_end]
    simp only [goes_go]
    refine ⟨by ((first | refine dm_none ?_ | refine dks_none ?_ | u_none); intro e he; simp at he), ?_⟩
    refine Goes.step rfl (fun _ h₁ => ?_)
    replace hF := rs_rely hF h₁
    clear h₁
    rw [stepG_seq]
    simp only [goes_go]
    refine ⟨by ((first | refine dm_none ?_ | refine dks_none ?_ | u_none); intro e he; simp at he), ?_⟩
    refine Goes.step rfl (fun _ h₁ => ?_)
    replace hF := rs_rely hF h₁
    clear h₁
    rw [stepG_region]
    simp only [goes_go, List.size_toArray, List.length_cons, List.length_nil, Nat.reduceAdd, Nat.zero_add, List.range, List.range.loop]
    refine ⟨by ((first | refine dm_none ?_ | refine dks_none ?_ | u_none); intro e he; simp at he), ?_⟩
    refine Goes.step rfl (fun _ h₁ => ?_)
    replace hF := rs_rely hF h₁
    clear h₁
    refine goes_oper_k rfl rfl (by k_ne) (fun K hK => ?_)
    go_simp
    refine hK _ _ ⟨?_, ?_⟩
    · first | refine dm_none ?_ | refine dks_none ?_ | u_none
      intro e he
      have hm := mem_listed he
      simp [go_sem, *] at hm
    clear hK K
    try w_num
    refine Goes.step rfl (fun _ h₁ => ?_)
    replace hF := rs_rely hF h₁
    clear h₁
    refine goes_oper_k rfl rfl (by k_ne) (fun K hK => ?_)
    go_simp
    refine hK _ _ ⟨?_, ?_⟩
    · first | refine dm_none ?_ | refine dks_none ?_ | u_none
      intro e he
      have hm := mem_listed he
      simp [go_sem, *] at hm
    clear hK K
    try w_num
    refine Goes.step rfl (fun _ h₁ => ?_)
    replace hF := rs_rely hF h₁
    clear h₁
    refine goes_oper_k rfl rfl (by k_ne) (fun K hK => ?_)
    go_simp
    refine hK _ _ ⟨?_, ?_⟩
    · first | refine dm_none ?_ | refine dks_none ?_ | u_none
      intro e he
      have hm := mem_listed he
      simp [go_sem, *] at hm
    clear hK K
    try w_num
    refine Goes.step rfl (fun _ h₁ => ?_)
    replace hF := rs_rely hF h₁
    clear h₁
    refine goes_oper_k rfl rfl (by k_ne) (fun K hK => ?_)
    go_simp
    refine hK _ _ ⟨?_, ?_⟩
    · first | refine dm_none ?_ | refine dks_none ?_ | u_none
      intro e he
      have hm := mem_listed he
      simp [go_sem, *] at hm
    clear hK K
    try w_num
    refine Goes.step rfl (fun _ h₁ => ?_)
    replace hF := rs_rely hF h₁
    clear h₁
    rw [stepG_region_end]
    simp only [goes_go]
    refine ⟨by ((first | refine dm_none ?_ | refine dks_none ?_ | u_none); intro e he; simp at he), ?_⟩
    refine Goes.step rfl (fun _ h₁ => ?_)
    replace hF := rs_rely hF h₁
    clear h₁
    rw [stepG_seq]
    simp only [goes_go]
    refine ⟨by ((first | refine dm_none ?_ | refine dks_none ?_ | u_none); intro e he; simp at he), ?_⟩
    refine Goes.step rfl (fun _ h₁ => ?_)
    replace hF := rs_rely hF h₁
    clear h₁
    rw [stepG_region]
    simp only [goes_go, List.size_toArray, List.length_cons, List.length_nil, Nat.reduceAdd, Nat.zero_add, List.range, List.range.loop]
    refine ⟨by ((first | refine dm_none ?_ | refine dks_none ?_ | u_none); intro e he; simp at he), ?_⟩
    refine Goes.step rfl (fun _ h₁ => ?_)
    replace hF := rs_rely hF h₁
    clear h₁
    refine goes_oper_k rfl rfl (by k_ne) (fun K hK => ?_)
    go_simp
    refine hK _ _ ⟨?_, ?_⟩
    · first | refine dm_none ?_ | refine dks_none ?_ | u_none
      intro e he
      have hm := mem_listed he
      simp [go_sem, *] at hm
    clear hK K
    try w_num
    refine Goes.step rfl (fun _ h₁ => ?_)
    replace hF := rs_rely hF h₁
    clear h₁
    refine goes_oper_k rfl rfl (by k_ne) (fun K hK => ?_)
    go_simp
    refine hK _ _ ⟨?_, ?_⟩
    · first | refine dm_none ?_ | refine dks_none ?_ | u_none
      intro e he
      have hm := mem_listed he
      simp [go_sem, *] at hm
    clear hK K
    try w_num
    refine Goes.step rfl (fun _ h₁ => ?_)
    replace hF := rs_rely hF h₁
    clear h₁
    refine goes_oper_k rfl rfl (by k_ne) (fun K hK => ?_)
    go_simp
    refine hK _ _ ⟨?_, ?_⟩
    · first | refine dm_none ?_ | refine dks_none ?_ | u_none
      intro e he
      have hm := mem_listed he
      simp [go_sem, *] at hm
    clear hK K
    try w_num
    refine Goes.step rfl (fun _ h₁ => ?_)
    replace hF := rs_rely hF h₁
    clear h₁
    refine goes_oper_k rfl rfl (by k_ne) (fun K hK => ?_)
    go_simp
    refine hK _ _ ⟨?_, ?_⟩
    · first | refine dm_none ?_ | refine dks_none ?_ | u_none
      intro e he
      have hm := mem_listed he
      simp [go_sem, *] at hm
    clear hK K
    try w_num
    refine Goes.step rfl (fun _ h₁ => ?_)
    replace hF := rs_rely hF h₁
    clear h₁
    rw [stepG_region_end]
    simp only [goes_go]
    refine ⟨by ((first | refine dm_none ?_ | refine dks_none ?_ | u_none); intro e he; simp at he), ?_⟩
    refine Goes.step rfl (fun _ h₁ => ?_)
    replace hF := rs_rely hF h₁
    clear h₁
    rw [stepG_seq]
    simp only [goes_go]
    refine ⟨by ((first | refine dm_none ?_ | refine dks_none ?_ | u_none); intro e he; simp at he), ?_⟩
    refine Goes.step rfl (fun _ h₁ => ?_)
    replace hF := rs_rely hF h₁
    clear h₁
    rw [stepG_seq]
    simp only [goes_go]
    refine ⟨by ((first | refine dm_none ?_ | refine dks_none ?_ | u_none); intro e he; simp at he), ?_⟩
    refine Goes.step rfl (fun _ h₁ => ?_)
    replace hF := rs_rely hF h₁
    clear h₁
    rw [stepG_region]
    simp only [goes_go, List.size_toArray, List.length_cons, List.length_nil, Nat.reduceAdd, Nat.zero_add, List.range, List.range.loop]
    refine ⟨by ((first | refine dm_none ?_ | refine dks_none ?_ | u_none); intro e he; simp at he), ?_⟩
    refine Goes.step rfl (fun _ h₁ => ?_)
    replace hF := rs_rely hF h₁
    clear h₁
    refine goes_oper_k rfl rfl (by k_ne) (fun K hK => ?_)
    go_simp
    refine hK _ _ ⟨?_, ?_⟩
    · first | refine dm_none ?_ | refine dks_none ?_ | u_none
      intro e he
      have hm := mem_listed he
      simp [go_sem, *] at hm
    clear hK K
    try w_num
    refine Goes.step rfl (fun _ h₁ => ?_)
    replace hF := rs_rely hF h₁
    clear h₁
    refine goes_oper_k rfl rfl (by k_ne) (fun K hK => ?_)
    go_simp
    refine hK _ _ ⟨?_, ?_⟩
    · first | refine dm_none ?_ | refine dks_none ?_ | u_none
      intro e he
      have hm := mem_listed he
      simp [go_sem, *] at hm
    clear hK K
    try w_num
    refine Goes.step rfl (fun _ h₁ => ?_)
    replace hF := rs_rely hF h₁
    clear h₁
    rw [stepG_region_end]
    simp only [goes_go]
    refine ⟨by ((first | refine dm_none ?_ | refine dks_none ?_ | u_none); intro e he; simp at he), ?_⟩
    refine Goes.step rfl (fun _ h₁ => ?_)
    replace hF := rs_rely hF h₁
    clear h₁
    rw [stepG_cond (t := true) rfl]
    simp only [goes_go, if_true, if_false, Bool.false_eq_true, ↓reduceIte]
    refine ⟨by ((first | refine dm_none ?_ | refine dks_none ?_ | u_none); intro e he; simp at he), ?_⟩
    refine Goes.step rfl (fun _ h₁ => ?_)
    replace hF := rs_rely hF h₁
    clear h₁
    rw [stepG_seq]
    simp only [goes_go]
    refine ⟨by ((first | refine dm_none ?_ | refine dks_none ?_ | u_none); intro e he; simp at he), ?_⟩
    refine Goes.step rfl (fun _ h₁ => ?_)
    replace hF := rs_rely hF h₁
    clear h₁
    rw [stepG_cond (t := true) rfl]
    simp only [goes_go, if_true, if_false, Bool.false_eq_true, ↓reduceIte]
    refine ⟨by ((first | refine dm_none ?_ | refine dks_none ?_ | u_none); intro e he; simp at he), ?_⟩
    refine Goes.step rfl (fun _ h₁ => ?_)
    replace hF := rs_rely hF h₁
    clear h₁
    rw [stepG_seq]
    simp only [goes_go]
    refine ⟨by ((first | refine dm_none ?_ | refine dks_none ?_ | u_none); intro e he; simp at he), ?_⟩
    refine Goes.step rfl (fun _ h₁ => ?_)
    replace hF := rs_rely hF h₁
    clear h₁
    rw [stepG_region]
    simp only [goes_go, List.size_toArray, List.length_cons, List.length_nil, Nat.reduceAdd, Nat.zero_add, List.range, List.range.loop]
    refine ⟨by ((first | refine dm_none ?_ | refine dks_none ?_ | u_none); intro e he; simp at he), ?_⟩
    refine Goes.stop (fun w₅ h₅ => ?_)
    replace hF := rs_rely hF h₅
    clear h₅
    refine ⟨rfl, _, stepG_mark0 .enable (by simp) rfl rfl (by k_ne) rfl H.f_enable (x_enable_n L) (x_enable_b L) (x_enable_x L) (x_enable_f L), 30, ?_⟩
    walk_nrm
    refine Goes.step rfl (fun _ h₁ => ?_)
    replace hF := rs_rely hF h₁
    clear h₁
    rw [stepG_region_end]
    simp only [goes_go]
    refine ⟨by ((first | refine dm_none ?_ | refine dks_none ?_ | u_none); intro e he; simp at he), ?_⟩
    refine Goes.step rfl (fun _ h₁ => ?_)
    replace hF := rs_rely hF h₁
    clear h₁
    rw [stepG_region]
    simp only [goes_go, List.size_toArray, List.length_cons, List.length_nil, Nat.reduceAdd, Nat.zero_add, List.range, List.range.loop]
    refine ⟨by ((first | refine dm_none ?_ | refine dks_none ?_ | u_none); intro e he; simp at he), ?_⟩
    refine Goes.step rfl (fun _ h₁ => ?_)
    replace hF := rs_rely hF h₁
    clear h₁
    refine goes_oper_k rfl rfl (by k_ne) (fun K hK => ?_)
    go_simp
    refine hK _ _ ⟨?_, ?_⟩
    · first | refine dm_none ?_ | refine dks_none ?_ | u_none
      intro e he
      have hm := mem_listed he
      simp [go_sem, *] at hm
    clear hK K
    try w_num
    refine Goes.step rfl (fun _ h₁ => ?_)
    replace hF := rs_rely hF h₁
    clear h₁
    refine goes_oper_k rfl rfl (by k_ne) (fun Kx hKx => ?_)
    have hcv := run_convert_to_unsafe (P := P) H.underlying_tWgP H.underlying_tUP H.room_tWg (Go.ConcN.Gen.WgLive.cell0 hF.2).choose_spec
    have hce := fun es => events_convert_to_unsafe (P := P) H.underlying_tWgP H.underlying_tUP H.room_tWg (Go.ConcN.Gen.WgLive.cell0 hF.2).choose_spec es
    go_simp
    refine hKx _ _ ⟨?_, ?_⟩
    · first | refine dm_none ?_ | refine dks_none ?_ | u_none
      intro ex hex
      have hmx := mem_listed hex
      simp [go_sem, hce] at hmx
    clear hKx Kx hcv hce
    refine Goes.stop (fun w₆ h₆ => ?_)
    replace hF := rs_rely hF h₆
    clear h₆
    refine ⟨rfl, _, stepG_markAt .acquire (by simp) rfl rfl (by k_ne) rfl H.f_acquire (x_acquire_n L) (x_acquire_b L) (x_acquire_x L) (x_acquire_f L) (by simp [Act.eval, stA]), ⟨mT + 20, ?_⟩⟩
    walk_nrm
    refine Goes.step rfl (fun _ h₁ => ?_)
    replace hF := rs_rely hF h₁
    clear h₁
    rw [stepG_region_end]
    simp only [goes_go]
    refine ⟨by ((first | refine dm_none ?_ | refine dks_none ?_ | u_none); intro e he; simp at he), ?_⟩
    refine Goes.step rfl (fun _ h₁ => ?_)
    replace hF := rs_rely hF h₁
    clear h₁
    rw [stepG_seq]
    simp only [goes_go]
    refine ⟨by ((first | refine dm_none ?_ | refine dks_none ?_ | u_none); intro e he; simp at he), ?_⟩
    refine Goes.step rfl (fun _ h₁ => ?_)
    replace hF := rs_rely hF h₁
    clear h₁
    rw [stepG_seq]
    simp only [goes_go]
    refine ⟨by ((first | refine dm_none ?_ | refine dks_none ?_ | u_none); intro e he; simp at he), ?_⟩
    refine Goes.step rfl (fun _ h₁ => ?_)
    replace hF := rs_rely hF h₁
    clear h₁
    rw [stepG_region]
    simp only [goes_go, List.size_toArray, List.length_cons, List.length_nil, Nat.reduceAdd, Nat.zero_add, List.range, List.range.loop]
    refine ⟨by ((first | refine dm_none ?_ | refine dks_none ?_ | u_none); intro e he; simp at he), ?_⟩
    refine Goes.step rfl (fun _ h₁ => ?_)
    replace hF := rs_rely hF h₁
    clear h₁
    refine goes_oper_k rfl rfl (by k_ne) (fun K hK => ?_)
    go_simp
    refine hK _ _ ⟨?_, ?_⟩
    · first | refine dm_none ?_ | refine dks_none ?_ | u_none
      intro e he
      have hm := mem_listed he
      simp [go_sem, *] at hm
    clear hK K
    try w_num
    refine Goes.step rfl (fun _ h₁ => ?_)
    replace hF := rs_rely hF h₁
    clear h₁
    refine goes_oper_k rfl rfl (by k_ne) (fun K hK => ?_)
    go_simp
    refine hK _ _ ⟨?_, ?_⟩
    · first | refine dm_none ?_ | refine dks_none ?_ | u_none
      intro e he
      have hm := mem_listed he
      simp [go_sem, *] at hm
    clear hK K
    try w_num
    refine Goes.step rfl (fun _ h₁ => ?_)
    replace hF := rs_rely hF h₁
    clear h₁
    refine goes_oper_k rfl rfl (by k_ne) (fun K hK => ?_)
    go_simp
    refine hK _ _ ⟨?_, ?_⟩
    · first | refine dm_none ?_ | refine dks_none ?_ | u_none
      intro e he
      have hm := mem_listed he
      simp [go_sem, *] at hm
    clear hK K
    try w_num
    refine Goes.step rfl (fun _ h₁ => ?_)
    replace hF := rs_rely hF h₁
    clear h₁
    refine goes_oper_k rfl rfl (by k_ne) (fun K hK => ?_)
    go_simp
    refine hK _ _ ⟨?_, ?_⟩
    · first | refine dm_none ?_ | refine dks_none ?_ | u_none
      intro e he
      have hm := mem_listed he
      simp [go_sem, *] at hm
    clear hK K
    try w_num
    refine Goes.step rfl (fun _ h₁ => ?_)
    replace hF := rs_rely hF h₁
    clear h₁
    refine goes_oper_k rfl rfl (by k_ne) (fun K hK => ?_)
    go_simp
    refine hK _ _ ⟨?_, ?_⟩
    · first | refine dm_none ?_ | refine dks_none ?_ | u_none
      intro e he
      have hm := mem_listed he
      simp [go_sem, *] at hm
    clear hK K
    try w_num
    refine Goes.step rfl (fun _ h₁ => ?_)
    replace hF := rs_rely hF h₁
    clear h₁
    refine goes_oper_k rfl rfl (by k_ne) (fun K hK => ?_)
    go_simp
    refine hK _ _ ⟨?_, ?_⟩
    · first | refine dm_none ?_ | refine dks_none ?_ | u_none
      intro e he
      have hm := mem_listed he
      simp [go_sem, *] at hm
    clear hK K
    try w_num
    refine Goes.step rfl (fun _ h₁ => ?_)
    replace hF := rs_rely hF h₁
    clear h₁
    refine goes_oper_k rfl rfl (by k_ne) (fun K hK => ?_)
    go_simp
    refine hK _ _ ⟨?_, ?_⟩
    · first | refine dm_none ?_ | refine dks_none ?_ | u_none
      intro e he
      have hm := mem_listed he
      simp [go_sem, *] at hm
    clear hK K
    try w_num
    refine Goes.step rfl (fun _ h₁ => ?_)
    replace hF := rs_rely hF h₁
    clear h₁
    refine goes_oper_k rfl rfl (by k_ne) (fun K hK => ?_)
    go_simp
    refine hK _ _ ⟨?_, ?_⟩
    · first | refine dm_none ?_ | refine dks_none ?_ | u_none
      intro e he
      have hm := mem_listed he
      simp [go_sem, *] at hm
    clear hK K
    try w_num
    refine Goes.step rfl (fun _ h₁ => ?_)
    replace hF := rs_rely hF h₁
    clear h₁
    rw [stepG_unwanted rfl rfl]
    simp only [goes_go]
    refine ⟨by ((first | refine dm_none ?_ | refine dks_none ?_ | u_none); intro e he; simp at he), ?_⟩
    walk_nrm
    refine Goes.step rfl (fun _ h₁ => ?_)
    replace hF := rs_rely hF h₁
    clear h₁
    rw [stepG_unwanted rfl rfl]
    simp only [goes_go]
    refine ⟨by ((first | refine dm_none ?_ | refine dks_none ?_ | u_none); intro e he; simp at he), ?_⟩
    walk_nrm
    refine Goes.step rfl (fun _ h₁ => ?_)
    replace hF := rs_rely hF h₁
    clear h₁
    refine goes_oper_k rfl rfl (by k_ne) (fun K hK => ?_)
    go_simp
    refine hK _ _ ⟨?_, ?_⟩
    · first | refine dm_none ?_ | refine dks_none ?_ | u_none
      intro e he
      have hm := mem_listed he
      simp [go_sem, *] at hm
    clear hK K
    try w_num
    refine Goes.step rfl (fun _ h₁ => ?_)
    replace hF := rs_rely hF h₁
    clear h₁
    rw [stepG_region_end]
    simp only [goes_go]
    refine ⟨by ((first | refine dm_none ?_ | refine dks_none ?_ | u_none); intro e he; simp at he), ?_⟩
    refine Goes.step rfl (fun _ h₁ => ?_)
    replace hF := rs_rely hF h₁
    clear h₁
    rw [stepG_cond (t := false) rfl]
    simp only [goes_go, if_true, if_false, Bool.false_eq_true, ↓reduceIte]
    refine ⟨by ((first | refine dm_none ?_ | refine dks_none ?_ | u_none); intro e he; simp at he), ?_⟩
    refine Goes.step rfl (fun _ h₁ => ?_)
    replace hF := rs_rely hF h₁
    clear h₁
    rw [stepG_skip]
    simp only [goes_go]
    refine ⟨by ((first | refine dm_none ?_ | refine dks_none ?_ | u_none); intro e he; simp at he), ?_⟩
    refine Goes.step rfl (fun _ h₁ => ?_)
    replace hF := rs_rely hF h₁
    clear h₁
    rw [stepG_ret']
    simp only [goes_go]
    refine ⟨by ((first | refine dm_none ?_ | refine dks_none ?_ | u_none); intro e he; simp at he), ?_⟩
    refine Goes.step rfl (fun _ h₁ => ?_)
    replace hF := rs_rely hF h₁
    clear h₁
    refine goes_leave0 rfl rfl H.f_wait rfl ⟨by ((first | refine dm_none ?_ | refine dks_none ?_ | u_none); intro e he; simp at he), ?_⟩
    walk_nrm
    exact goes_more (hT _ hF) (by omega)
  · obtain ⟨S, hS⟩ : ∃ S : Int, (v : Int) * KK = S := ⟨_, rfl⟩
    have a1 : S / 4294967296 = (v : Int) := by rw [← hS]; simp only [KK]; omega
    have b1 : bits .and .u64 S 2147483648 = 0 := by rw [← hS]; have := st_flag v 0 (by omega) (by omega); simpa [KK] using this
    have b2 : bits .and .u64 S 2147483647 = 0 := by rw [← hS]; have := st_waiters v 0 (by omega) (by omega); simpa [KK] using this
    have c1 : IntKind.i32.wrap (v : Int) = (v : Int) := by rw [IntKind.wrap_i32]; omega
    have w1 : IntKind.u64.wrap (S + 1) = S + 1 := by rw [IntKind.wrap_u64, ← hS]; simp only [KK]; omega
    have q3 : decide ((v : Int) < 0) = false := decide_eq_false (by omega)
    have q4 : decide (0 < (v : Int)) = true := decide_eq_true (by omega)
    have q5 : ((v : Int) == 0) = false := by simp; omega
    have q6 : decide ((v : Int) = 0) = false := decide_eq_false (by omega)
    rw [hS] at hw
    refine ⟨_, stepG_load_atomic (v := S) rfl rfl (by k_ne) rfl H.f_loadU64 (x_loadU64_n L) (x_loadU64_b L) (x_loadU64_x L) .u64 (x_loadU64_f L) rfl hw.cellSt, fun h0 => absurd h0 (by omega), fun _ => ⟨70, ?_⟩⟩
    clear hw
    walk_nrm
    refine Goes.step rfl (fun _ h₁ => ?_)
    replace hF := rs_rely hF h₁
    clear h₁
    refine goes_oper_k rfl rfl (by k_ne) (fun K hK => ?_)
    go_simp
    refine hK _ _ ⟨?_, ?_⟩
    · first | refine dm_none ?_ | refine dks_none ?_ | u_none
      intro e he
      have hm := mem_listed he
      simp [go_sem, *] at hm
    clear hK K
    try w_num
    refine Goes.step rfl (fun _ h₁ => ?_)
    replace hF := rs_rely hF h₁
    clear h₁
    rw [stepG_region_end]
    simp only [goes_go]
    refine ⟨by ((first | refine dm_none ?_ | refine dks_none ?_ | u_none); intro e he; simp at he), ?_⟩
    refine Goes.step rfl (fun _ h₁ => ?_)
    replace hF := rs_rely hF h₁
    clear h₁
    rw [stepG_ret']
    simp only [goes_go]
    refine ⟨by ((first | refine dm_none ?_ | refine dks_none ?_ | u_none); intro e he; simp at he), ?_⟩
    refine Goes.step rfl (fun _ h₁ => ?_)
    replace hF := rs_rely hF h₁
    clear h₁
    refine goes_leave1 rfl rfl H.f_uLoad rfl ⟨by ((first | refine dm_none ?_ | refine dks_none ?_ | u_none); intro e he; simp at he), ?_⟩
    walk_nrm
    refine Goes.step rfl (fun _ h₁ => ?_)
    replace hF := rs_rely hF h₁
    clear h₁
    refine goes_oper_k rfl rfl (by k_ne) (fun K hK => ?_)
    go_simp
    refine hK _ _ ⟨?_, ?_⟩
    · first | refine dm_none ?_ | refine dks_none ?_ | u_none
      intro e he
      have hm := mem_listed he
      simp [go_sem, *] at hm
    clear hK K
    try w_num
    refine Goes.step rfl (fun _ h₁ => ?_)
    replace hF := rs_rely hF h₁
    clear h₁
    rw [stepG_region_end]
    simp only [goes_go]
    refine ⟨by ((first | refine dm_none ?_ | refine dks_none ?_ | u_none); intro e he; simp at he), ?_⟩
    refine Goes.step rfl (fun _ h₁ => ?_)
    replace hF := rs_rely hF h₁
    clear h₁
    rw [stepG_seq]
    simp only [goes_go]
    refine ⟨by ((first | refine dm_none ?_ | refine dks_none ?_ | u_none); intro e he; simp at he), ?_⟩
    refine Goes.step rfl (fun _ h₁ => ?_)
    replace hF := rs_rely hF h₁
    clear h₁
    rw [stepG_region]
    simp only [goes_go, List.size_toArray, List.length_cons, List.length_nil, Nat.reduceAdd, Nat.zero_add, List.range, List.range.loop]
    refine ⟨by ((first | refine dm_none ?_ | refine dks_none ?_ | u_none); intro e he; simp at he), ?_⟩
    refine Goes.step rfl (fun _ h₁ => ?_)
    replace hF := rs_rely hF h₁
    clear h₁
    refine goes_oper_k rfl rfl (by k_ne) (fun K hK => ?_)
    go_simp
    refine hK _ _ ⟨?_, ?_⟩
    · first | refine dm_none ?_ | refine dks_none ?_ | u_none
      intro e he
      have hm := mem_listed he
      simp [go_sem, *] at hm
    clear hK K
    try w_num
    refine Goes.step rfl (fun _ h₁ => ?_)
    replace hF := rs_rely hF h₁
    clear h₁
    refine goes_oper_k rfl rfl (by k_ne) (fun K hK => ?_)
    go_simp
    refine hK _ _ ⟨?_, ?_⟩
    · first | refine dm_none ?_ | refine dks_none ?_ | u_none
      intro e he
      have hm := mem_listed he
      simp [go_sem, *] at hm
    clear hK K
    try w_num
    refine Goes.step rfl (fun _ h₁ => ?_)
    replace hF := rs_rely hF h₁
    clear h₁
    refine goes_oper_k rfl rfl (by k_ne) (fun K hK => ?_)
    go_simp
    refine hK _ _ ⟨?_, ?_⟩
    · first | refine dm_none ?_ | refine dks_none ?_ | u_none
      intro e he
      have hm := mem_listed he
      simp [go_sem, *] at hm
    clear hK K
    try w_num
    refine Goes.step rfl (fun _ h₁ => ?_)
    replace hF := rs_rely hF h₁
    clear h₁
    refine goes_oper_k rfl rfl (by k_ne) (fun K hK => ?_)
    go_simp
    refine hK _ _ ⟨?_, ?_⟩
    · first | refine dm_none ?_ | refine dks_none ?_ | u_none
      intro e he
      have hm := mem_listed he
      simp [go_sem, *] at hm
    clear hK K
    try w_num
    refine Goes.step rfl (fun _ h₁ => ?_)
    replace hF := rs_rely hF h₁
    clear h₁
    rw [stepG_region_end]
    simp only [goes_go]
    refine ⟨by ((first | refine dm_none ?_ | refine dks_none ?_ | u_none); intro e he; simp at he), ?_⟩
    refine Goes.step rfl (fun _ h₁ => ?_)
    replace hF := rs_rely hF h₁
    clear h₁
    rw [stepG_seq]
    simp only [goes_go]
    refine ⟨by ((first | refine dm_none ?_ | refine dks_none ?_ | u_none); intro e he; simp at he), ?_⟩
    refine Goes.step rfl (fun _ h₁ => ?_)
    replace hF := rs_rely hF h₁
    clear h₁
    rw [stepG_region]
    simp only [goes_go, List.size_toArray, List.length_cons, List.length_nil, Nat.reduceAdd, Nat.zero_add, List.range, List.range.loop]
    refine ⟨by ((first | refine dm_none ?_ | refine dks_none ?_ | u_none); intro e he; simp at he), ?_⟩
    refine Goes.step rfl (fun _ h₁ => ?_)
    replace hF := rs_rely hF h₁
    clear h₁
    refine goes_oper_k rfl rfl (by k_ne) (fun K hK => ?_)
    go_simp
    refine hK _ _ ⟨?_, ?_⟩
    · first | refine dm_none ?_ | refine dks_none ?_ | u_none
      intro e he
      have hm := mem_listed he
      simp [go_sem, *] at hm
    clear hK K
    try w_num
    refine Goes.step rfl (fun _ h₁ => ?_)
    replace hF := rs_rely hF h₁
    clear h₁
    refine goes_oper_k rfl rfl (by k_ne) (fun K hK => ?_)
    go_simp
    refine hK _ _ ⟨?_, ?_⟩
    · first | refine dm_none ?_ | refine dks_none ?_ | u_none
      intro e he
      have hm := mem_listed he
      simp [go_sem, *] at hm
    clear hK K
    try w_num
    refine Goes.step rfl (fun _ h₁ => ?_)
    replace hF := rs_rely hF h₁
    clear h₁
    refine goes_oper_k rfl rfl (by k_ne) (fun K hK => ?_)
    go_simp
    refine hK _ _ ⟨?_, ?_⟩
    · first | refine dm_none ?_ | refine dks_none ?_ | u_none
      intro e he
      have hm := mem_listed he
      simp [go_sem, *] at hm
    clear hK K
    try w_num
    refine Goes.step rfl (fun _ h₁ => ?_)
    replace hF := rs_rely hF h₁
    clear h₁
    refine goes_oper_k rfl rfl (by k_ne) (fun K hK => ?_)
    go_simp
    refine hK _ _ ⟨?_, ?_⟩
    · first | refine dm_none ?_ | refine dks_none ?_ | u_none
      intro e he
      have hm := mem_listed he
      simp [go_sem, *] at hm
    clear hK K
    try w_num
    refine Goes.step rfl (fun _ h₁ => ?_)
    replace hF := rs_rely hF h₁
    clear h₁
    rw [stepG_region_end]
    simp only [goes_go]
    refine ⟨by ((first | refine dm_none ?_ | refine dks_none ?_ | u_none); intro e he; simp at he), ?_⟩
    refine Goes.step rfl (fun _ h₁ => ?_)
    replace hF := rs_rely hF h₁
    clear h₁
    rw [stepG_seq]
    simp only [goes_go]
    refine ⟨by ((first | refine dm_none ?_ | refine dks_none ?_ | u_none); intro e he; simp at he), ?_⟩
    refine Goes.step rfl (fun _ h₁ => ?_)
    replace hF := rs_rely hF h₁
    clear h₁
    rw [stepG_seq]
    simp only [goes_go]
    refine ⟨by ((first | refine dm_none ?_ | refine dks_none ?_ | u_none); intro e he; simp at he), ?_⟩
    refine Goes.step rfl (fun _ h₁ => ?_)
    replace hF := rs_rely hF h₁
    clear h₁
    rw [stepG_region]
    simp only [goes_go, List.size_toArray, List.length_cons, List.length_nil, Nat.reduceAdd, Nat.zero_add, List.range, List.range.loop]
    refine ⟨by ((first | refine dm_none ?_ | refine dks_none ?_ | u_none); intro e he; simp at he), ?_⟩
    refine Goes.step rfl (fun _ h₁ => ?_)
    replace hF := rs_rely hF h₁
    clear h₁
    refine goes_oper_k rfl rfl (by k_ne) (fun K hK => ?_)
    go_simp
    refine hK _ _ ⟨?_, ?_⟩
    · first | refine dm_none ?_ | refine dks_none ?_ | u_none
      intro e he
      have hm := mem_listed he
      simp [go_sem, *] at hm
    clear hK K
    try w_num
    refine Goes.step rfl (fun _ h₁ => ?_)
    replace hF := rs_rely hF h₁
    clear h₁
    refine goes_oper_k rfl rfl (by k_ne) (fun K hK => ?_)
    go_simp
    refine hK _ _ ⟨?_, ?_⟩
    · first | refine dm_none ?_ | refine dks_none ?_ | u_none
      intro e he
      have hm := mem_listed he
      simp [go_sem, *] at hm
    clear hK K
    try w_num
    refine Goes.step rfl (fun _ h₁ => ?_)
    replace hF := rs_rely hF h₁
    clear h₁
    rw [stepG_region_end]
    simp only [goes_go]
    refine ⟨by ((first | refine dm_none ?_ | refine dks_none ?_ | u_none); intro e he; simp at he), ?_⟩
    refine Goes.step rfl (fun _ h₁ => ?_)
    replace hF := rs_rely hF h₁
    clear h₁
    rw [stepG_cond (t := false) rfl]
    simp only [goes_go, if_true, if_false, Bool.false_eq_true, ↓reduceIte]
    refine ⟨by ((first | refine dm_none ?_ | refine dks_none ?_ | u_none); intro e he; simp at he), ?_⟩
    refine Goes.step rfl (fun _ h₁ => ?_)
    replace hF := rs_rely hF h₁
    clear h₁
    rw [stepG_skip]
    simp only [goes_go]
    refine ⟨by ((first | refine dm_none ?_ | refine dks_none ?_ | u_none); intro e he; simp at he), ?_⟩
    refine Goes.step rfl (fun _ h₁ => ?_)
    replace hF := rs_rely hF h₁
    clear h₁
    rw [stepG_seq]
    simp only [goes_go]
    refine ⟨by ((first | refine dm_none ?_ | refine dks_none ?_ | u_none); intro e he; simp at he), ?_⟩
    refine Goes.step rfl (fun _ h₁ => ?_)
    replace hF := rs_rely hF h₁
    clear h₁
    rw [stepG_region]
    simp only [goes_go, List.size_toArray, List.length_cons, List.length_nil, Nat.reduceAdd, Nat.zero_add, List.range, List.range.loop]
    refine ⟨by ((first | refine dm_none ?_ | refine dks_none ?_ | u_none); intro e he; simp at he), ?_⟩
    refine Goes.step rfl (fun _ h₁ => ?_)
    replace hF := rs_rely hF h₁
    clear h₁
    refine goes_oper_k rfl rfl (by k_ne) (fun K hK => ?_)
    go_simp
    refine hK _ _ ⟨?_, ?_⟩
    · first | refine dm_none ?_ | refine dks_none ?_ | u_none
      intro e he
      have hm := mem_listed he
      simp [go_sem, *] at hm
    clear hK K
    try w_num
    refine Goes.step rfl (fun _ h₁ => ?_)
    replace hF := rs_rely hF h₁
    clear h₁
    refine goes_oper_k rfl rfl (by k_ne) (fun K hK => ?_)
    go_simp
    refine hK _ _ ⟨?_, ?_⟩
    · first | refine dm_none ?_ | refine dks_none ?_ | u_none
      intro e he
      have hm := mem_listed he
      simp [go_sem, *] at hm
    clear hK K
    try w_num
    refine Goes.step rfl (fun _ h₁ => ?_)
    replace hF := rs_rely hF h₁
    clear h₁
    refine goes_oper_k rfl rfl (by k_ne) (fun K hK => ?_)
    go_simp
    refine hK _ _ ⟨?_, ?_⟩
    · first | refine dm_none ?_ | refine dks_none ?_ | u_none
      intro e he
      have hm := mem_listed he
      simp [go_sem, *] at hm
    clear hK K
    try w_num
    refine Goes.step rfl (fun _ h₁ => ?_)
    replace hF := rs_rely hF h₁
    clear h₁
    refine goes_oper_k rfl rfl (by k_ne) (fun K hK => ?_)
    go_simp
    refine hK _ _ ⟨?_, ?_⟩
    · first | refine dm_none ?_ | refine dks_none ?_ | u_none
      intro e he
      have hm := mem_listed he
      simp [go_sem, *] at hm
    clear hK K
    try w_num
    refine Goes.step rfl (fun _ h₁ => ?_)
    replace hF := rs_rely hF h₁
    clear h₁
    refine goes_oper_k rfl rfl (by k_ne) (fun K hK => ?_)
    go_simp
    refine hK _ _ ⟨?_, ?_⟩
    · first | refine dm_none ?_ | refine dks_none ?_ | u_none
      intro e he
      have hm := mem_listed he
      simp [go_sem, *] at hm
    clear hK K
    try w_num
    refine Goes.step rfl (fun _ h₁ => ?_)
    replace hF := rs_rely hF h₁
    clear h₁
    refine goes_oper_k rfl rfl (by k_ne) (fun K hK => ?_)
    go_simp
    refine hK _ _ ⟨?_, ?_⟩
    · first | refine dm_none ?_ | refine dks_none ?_ | u_none
      intro e he
      have hm := mem_listed he
      simp [go_sem, *] at hm
    clear hK K
    try w_num
    refine Goes.step rfl (fun _ h₁ => ?_)
    replace hF := rs_rely hF h₁
    clear h₁
    refine goes_call rfl rfl (by k_ne) rfl H.f_uCas (nm_uCas L) rfl ⟨by ((first | refine dm_none ?_ | refine dks_none ?_ | u_none); intro e he; simp at he), ?_⟩
    walk_nrmf uCasFn
    refine Goes.step rfl (fun _ h₁ => ?_)
    replace hF := rs_rely hF h₁
    clear h₁
    rw [stepG_seq]
    simp only [goes_go]
    refine ⟨by ((first | refine dm_none ?_ | refine dks_none ?_ | u_none); intro e he; simp at he), ?_⟩
    refine Goes.step rfl (fun _ h₁ => ?_)
    replace hF := rs_rely hF h₁
    clear h₁
    rw [stepG_region]
    simp only [goes_go, List.size_toArray, List.length_cons, List.length_nil, Nat.reduceAdd, Nat.zero_add, List.range, List.range.loop]
    refine ⟨by ((first | refine dm_none ?_ | refine dks_none ?_ | u_none); intro e he; simp at he), ?_⟩
    refine Goes.step rfl (fun _ h₁ => ?_)
    replace hF := rs_rely hF h₁
    clear h₁
    refine goes_oper_k rfl rfl (by k_ne) (fun K hK => ?_)
    go_simp
    refine hK _ _ ⟨?_, ?_⟩
    · first | refine dm_none ?_ | refine dks_none ?_ | u_none
      intro e he
      have hm := mem_listed he
      simp [go_sem, *] at hm
    clear hK K
    try w_num
    refine Goes.step rfl (fun _ h₁ => ?_)
    replace hF := rs_rely hF h₁
    clear h₁
    rw [stepG_region_end]
    simp only [goes_go]
    refine ⟨by ((first | refine dm_none ?_ | refine dks_none ?_ | u_none); intro e he; simp at he), ?_⟩
    refine Goes.step rfl (fun _ h₁ => ?_)
    replace hF := rs_rely hF h₁
    clear h₁
    rw [stepG_seq]
    simp only [goes_go]
    refine ⟨by ((first | refine dm_none ?_ | refine dks_none ?_ | u_none); intro e he; simp at he), ?_⟩
    refine Goes.step rfl (fun _ h₁ => ?_)
    replace hF := rs_rely hF h₁
    clear h₁
    rw [stepG_region]
    simp only [goes_go, List.size_toArray, List.length_cons, List.length_nil, Nat.reduceAdd, Nat.zero_add, List.range, List.range.loop]
    refine ⟨by ((first | refine dm_none ?_ | refine dks_none ?_ | u_none); intro e he; simp at he), ?_⟩
    refine Goes.step rfl (fun _ h₁ => ?_)
    replace hF := rs_rely hF h₁
    clear h₁
    refine goes_oper_k rfl rfl (by k_ne) (fun K hK => ?_)
    go_simp
    refine hK _ _ ⟨?_, ?_⟩
    · first | refine dm_none ?_ | refine dks_none ?_ | u_none
      intro e he
      have hm := mem_listed he
      simp [go_sem, *] at hm
    clear hK K
    try w_num
    refine Goes.step rfl (fun _ h₁ => ?_)
    replace hF := rs_rely hF h₁
    clear h₁
    refine goes_oper_k rfl rfl (by k_ne) (fun K hK => ?_)
    go_simp
    refine hK _ _ ⟨?_, ?_⟩
    · first | refine dm_none ?_ | refine dks_none ?_ | u_none
      intro e he
      have hm := mem_listed he
      simp [go_sem, *] at hm
    clear hK K
    try w_num
    refine Goes.step rfl (fun _ h₁ => ?_)
    replace hF := rs_rely hF h₁
    clear h₁
    refine goes_oper_k rfl rfl (by k_ne) (fun K hK => ?_)
    go_simp
    refine hK _ _ ⟨?_, ?_⟩
    · first | refine dm_none ?_ | refine dks_none ?_ | u_none
      intro e he
      have hm := mem_listed he
      simp [go_sem, *] at hm
    clear hK K
    try w_num
    refine Goes.step rfl (fun _ h₁ => ?_)
    replace hF := rs_rely hF h₁
    clear h₁
    refine goes_oper_k rfl rfl (by k_ne) (fun K hK => ?_)
    go_simp
    refine hK _ _ ⟨?_, ?_⟩
    · first | refine dm_none ?_ | refine dks_none ?_ | u_none
      intro e he
      have hm := mem_listed he
      simp [go_sem, *] at hm
    clear hK K
    try w_num
    refine Goes.step rfl (fun _ h₁ => ?_)
    replace hF := rs_rely hF h₁
    clear h₁
    refine goes_oper_k rfl rfl (by k_ne) (fun K hK => ?_)
    go_simp
    refine hK _ _ ⟨?_, ?_⟩
    · first | refine dm_none ?_ | refine dks_none ?_ | u_none
      intro e he
      have hm := mem_listed he
      simp [go_sem, *] at hm
    clear hK K
    try w_num
    refine Goes.stop (fun w₂ h₂ => ?_)
    replace hF := rs_rely hF h₂
    clear h₂
    refine ⟨rfl, fun v' hv' hw => ⟨fun e => ?_, fun e => ?_⟩⟩
    · subst e
      rw [hS] at hw ⊢
      refine ⟨_, (stepG_cas_hit (v := S) (n := S + 1) rfl rfl (by k_ne) rfl H.f_casU64 (x_casU64_n L) (x_casU64_b L) (x_casU64_x L) .u64 (x_casU64_f L) rfl rfl rfl hw.cellSt (hw.thaw 0)).trans (by rfl), 80, ?_⟩
      replace hF : RS q w0 (w₂.setCell (stA q.Wg) (.int .u64 (S + 1))) ∧ WgLive q.ty q.Wg (w₂.setCell (stA q.Wg) (.int .u64 (S + 1))) := ⟨hF.1.trans (RS.of_wg hG (aside_setCell w₂ (stA q.Wg) _) ⟨_, _, hw.setSt _⟩), ⟨_, _, hw.setSt _⟩⟩
      clear hw
      walk_nrm
      refine Goes.step rfl (fun _ h₁ => ?_)
      replace hF := rs_rely hF h₁
      clear h₁
      refine goes_oper_k rfl rfl (by k_ne) (fun K hK => ?_)
      go_simp
      refine hK _ _ ⟨?_, ?_⟩
      · first | refine dm_none ?_ | refine dks_none ?_ | u_none
        intro e he
        have hm := mem_listed he
        simp [go_sem, *] at hm
      clear hK K
      try w_num
      refine Goes.step rfl (fun _ h₁ => ?_)
      replace hF := rs_rely hF h₁
      clear h₁
      rw [stepG_region_end]
      simp only [goes_go]
      refine ⟨by ((first | refine dm_none ?_ | refine dks_none ?_ | u_none); intro e he; simp at he), ?_⟩
      refine Goes.step rfl (fun _ h₁ => ?_)
      replace hF := rs_rely hF h₁
      clear h₁
      rw [stepG_ret']
      simp only [goes_go]
      refine ⟨by ((first | refine dm_none ?_ | refine dks_none ?_ | u_none); intro e he; simp at he), ?_⟩
      refine Goes.step rfl (fun _ h₁ => ?_)
      replace hF := rs_rely hF h₁
      clear h₁
      refine goes_leave1 rfl rfl H.f_uCas rfl ⟨by ((first | refine dm_none ?_ | refine dks_none ?_ | u_none); intro e he; simp at he), ?_⟩
      walk_nrm
      refine Goes.step rfl (fun _ h₁ => ?_)
      replace hF := rs_rely hF h₁
      clear h₁
      rw [stepG_region_end]
      simp only [goes_go]
      refine ⟨by ((first | refine dm_none ?_ | refine dks_none ?_ | u_none); intro e he; simp at he), ?_⟩
      refine Goes.step rfl (fun _ h₁ => ?_)
      replace hF := rs_rely hF h₁
      clear h₁
      rw [stepG_cond (t := true) rfl]
      simp only [goes_go, if_true, if_false, Bool.false_eq_true, ↓reduceIte]
      refine ⟨by ((first | refine dm_none ?_ | refine dks_none ?_ | u_none); intro e he; simp at he), ?_⟩
      refine Goes.step rfl (fun _ h₁ => ?_)
      replace hF := rs_rely hF h₁
      clear h₁
      rw [stepG_seq]
      simp only [goes_go]
      refine ⟨by ((first | refine dm_none ?_ | refine dks_none ?_ | u_none); intro e he; simp at he), ?_⟩
      refine Goes.step rfl (fun _ h₁ => ?_)
      replace hF := rs_rely hF h₁
      clear h₁
      rw [stepG_seq]
      simp only [goes_go]
      refine ⟨by ((first | refine dm_none ?_ | refine dks_none ?_ | u_none); intro e he; simp at he), ?_⟩
      refine Goes.step rfl (fun _ h₁ => ?_)
      replace hF := rs_rely hF h₁
      clear h₁
      rw [stepG_region]
      simp only [goes_go, List.size_toArray, List.length_cons, List.length_nil, Nat.reduceAdd, Nat.zero_add, List.range, List.range.loop]
      refine ⟨by ((first | refine dm_none ?_ | refine dks_none ?_ | u_none); intro e he; simp at he), ?_⟩
      refine Goes.step rfl (fun _ h₁ => ?_)
      replace hF := rs_rely hF h₁
      clear h₁
      refine goes_oper_k rfl rfl (by k_ne) (fun K hK => ?_)
      go_simp
      refine hK _ _ ⟨?_, ?_⟩
      · first | refine dm_none ?_ | refine dks_none ?_ | u_none
        intro e he
        have hm := mem_listed he
        simp [go_sem, *] at hm
      clear hK K
      try w_num
      refine Goes.step rfl (fun _ h₁ => ?_)
      replace hF := rs_rely hF h₁
      clear h₁
      refine goes_oper_k rfl rfl (by k_ne) (fun K hK => ?_)
      go_simp
      refine hK _ _ ⟨?_, ?_⟩
      · first | refine dm_none ?_ | refine dks_none ?_ | u_none
        intro e he
        have hm := mem_listed he
        simp [go_sem, *] at hm
      clear hK K
      try w_num
      refine Goes.step rfl (fun _ h₁ => ?_)
      replace hF := rs_rely hF h₁
      clear h₁
      refine goes_oper_k rfl rfl (by k_ne) (fun K hK => ?_)
      go_simp
      refine hK _ _ ⟨?_, ?_⟩
      · first | refine dm_none ?_ | refine dks_none ?_ | u_none
        intro e he
        have hm := mem_listed he
        simp [go_sem, *] at hm
      clear hK K
      try w_num
      refine Goes.step rfl (fun _ h₁ => ?_)
      replace hF := rs_rely hF h₁
      clear h₁
      refine goes_oper_k rfl rfl (by k_ne) (fun K hK => ?_)
      go_simp
      refine hK _ _ ⟨?_, ?_⟩
      · first | refine dm_none ?_ | refine dks_none ?_ | u_none
        intro e he
        have hm := mem_listed he
        simp [go_sem, *] at hm
      clear hK K
      try w_num
      refine Goes.step rfl (fun _ h₁ => ?_)
      replace hF := rs_rely hF h₁
      clear h₁
      rw [stepG_region_end]
      simp only [goes_go]
      refine ⟨by ((first | refine dm_none ?_ | refine dks_none ?_ | u_none); intro e he; simp at he), ?_⟩
      refine Goes.step rfl (fun _ h₁ => ?_)
      replace hF := rs_rely hF h₁
      clear h₁
      rw [stepG_cond (t := true) rfl]
      simp only [goes_go, if_true, if_false, Bool.false_eq_true, ↓reduceIte]
      refine ⟨by ((first | refine dm_none ?_ | refine dks_none ?_ | u_none); intro e he; simp at he), ?_⟩
      refine Goes.step rfl (fun _ h₁ => ?_)
      replace hF := rs_rely hF h₁
      clear h₁
      rw [stepG_region]
      simp only [goes_go, List.size_toArray, List.length_cons, List.length_nil, Nat.reduceAdd, Nat.zero_add, List.range, List.range.loop]
      refine ⟨by ((first | refine dm_none ?_ | refine dks_none ?_ | u_none); intro e he; simp at he), ?_⟩
      refine Goes.step rfl (fun _ h₁ => ?_)
      replace hF := rs_rely hF h₁
      clear h₁
      refine goes_oper_k rfl rfl (by k_ne) (fun K hK => ?_)
      go_simp
      refine hK _ _ ⟨?_, ?_⟩
      · first | refine dm_none ?_ | refine dks_none ?_ | u_none
        intro e he
        have hm := mem_listed he
        simp [go_sem, *] at hm
      clear hK K
      try w_num
      refine Goes.step rfl (fun _ h₁ => ?_)
      replace hF := rs_rely hF h₁
      clear h₁
      refine goes_oper_k rfl rfl (by k_ne) (fun K hK => ?_)
      go_simp
      refine hK _ _ ⟨?_, ?_⟩
      · first | refine dm_none ?_ | refine dks_none ?_ | u_none
        intro e he
        have hm := mem_listed he
        simp [go_sem, *] at hm
      clear hK K
      try w_num
      refine Goes.step rfl (fun _ h₁ => ?_)
      replace hF := rs_rely hF h₁
      clear h₁
      refine goes_oper_k rfl rfl (by k_ne) (fun K hK => ?_)
      go_simp
      refine hK _ _ ⟨?_, ?_⟩
      · first | refine dm_none ?_ | refine dks_none ?_ | u_none
        intro e he
        have hm := mem_listed he
        simp [go_sem, *] at hm
      clear hK K
      try w_num
      refine Goes.step rfl (fun _ h₁ => ?_)
      replace hF := rs_rely hF h₁
      clear h₁
      refine goes_oper_k rfl rfl (by k_ne) (fun Kx hKx => ?_)
      have hcv := run_convert_to_unsafe (P := P) H.underlying_tPU32 H.underlying_tUP H.room_tU32 (Go.ConcN.Gen.WgLive.cell1 hF.2).choose_spec
      have hce := fun es => events_convert_to_unsafe (P := P) H.underlying_tPU32 H.underlying_tUP H.room_tU32 (Go.ConcN.Gen.WgLive.cell1 hF.2).choose_spec es
      go_simp
      refine hKx _ _ ⟨?_, ?_⟩
      · first | refine dm_none ?_ | refine dks_none ?_ | u_none
        intro ex hex
        have hmx := mem_listed hex
        simp [go_sem, hce] at hmx
      clear hKx Kx hcv hce
      refine Goes.step rfl (fun _ h₁ => ?_)
      replace hF := rs_rely hF h₁
      clear h₁
      rw [stepG_markAt .write (by simp) rfl rfl (by k_ne) rfl H.f_raceWrite (x_raceWrite_n L) (x_raceWrite_b L) (x_raceWrite_x L) (x_raceWrite_f L) (ad := ⟨q.Wg, 1, none⟩) (by simp [Act.eval])]
      simp only [goes_go]
      refine ⟨⟨rfl, fun ex hex => ?_⟩, ?_⟩
      · rw [Array.mem_singleton] at hex
        subst hex
        exact ⟨ev0_said_write _ rfl, hlo⟩
      walk_nrm
      refine Goes.step rfl (fun _ h₁ => ?_)
      replace hF := rs_rely hF h₁
      clear h₁
      rw [stepG_region_end]
      simp only [goes_go]
      refine ⟨by ((first | refine dm_none ?_ | refine dks_none ?_ | u_none); intro e he; simp at he), ?_⟩
      refine Goes.step rfl (fun _ h₁ => ?_)
      replace hF := rs_rely hF h₁
      clear h₁
      rw [stepG_seq]
      simp only [goes_go]
      refine ⟨by ((first | refine dm_none ?_ | refine dks_none ?_ | u_none); intro e he; simp at he), ?_⟩
      refine Goes.step rfl (fun _ h₁ => ?_)
      replace hF := rs_rely hF h₁
      clear h₁
      rw [stepG_region]
      simp only [goes_go, List.size_toArray, List.length_cons, List.length_nil, Nat.reduceAdd, Nat.zero_add, List.range, List.range.loop]
      refine ⟨by ((first | refine dm_none ?_ | refine dks_none ?_ | u_none); intro e he; simp at he), ?_⟩
      refine Goes.step rfl (fun _ h₁ => ?_)
      replace hF := rs_rely hF h₁
      clear h₁
      refine goes_oper_k rfl rfl (by k_ne) (fun K hK => ?_)
      go_simp
      refine hK _ _ ⟨?_, ?_⟩
      · first | refine dm_none ?_ | refine dks_none ?_ | u_none
        intro e he
        have hm := mem_listed he
        simp [go_sem, *] at hm
      clear hK K
      try w_num
      refine Goes.step rfl (fun _ h₁ => ?_)
      replace hF := rs_rely hF h₁
      clear h₁
      rw [stepG_region_end]
      simp only [goes_go]
      refine ⟨by ((first | refine dm_none ?_ | refine dks_none ?_ | u_none); intro e he; simp at he), ?_⟩
      refine Goes.step rfl (fun _ h₁ => ?_)
      replace hF := rs_rely hF h₁
      clear h₁
      rw [stepG_seq]
      simp only [goes_go]
      refine ⟨by ((first | refine dm_none ?_ | refine dks_none ?_ | u_none); intro e he; simp at he), ?_⟩
      refine Goes.step rfl (fun _ h₁ => ?_)
      replace hF := rs_rely hF h₁
      clear h₁
      rw [stepG_seq]
      simp only [goes_go]
      refine ⟨by ((first | refine dm_none ?_ | refine dks_none ?_ | u_none); intro e he; simp at he), ?_⟩
      refine Goes.step rfl (fun _ h₁ => ?_)
      replace hF := rs_rely hF h₁
      clear h₁
      rw [stepG_region]
      simp only [goes_go, List.size_toArray, List.length_cons, List.length_nil, Nat.reduceAdd, Nat.zero_add, List.range, List.range.loop]
      refine ⟨by ((first | refine dm_none ?_ | refine dks_none ?_ | u_none); intro e he; simp at he), ?_⟩
      refine Goes.step rfl (fun _ h₁ => ?_)
      replace hF := rs_rely hF h₁
      clear h₁
      refine goes_oper_k rfl rfl (by k_ne) (fun K hK => ?_)
      go_simp
      refine hK _ _ ⟨?_, ?_⟩
      · first | refine dm_none ?_ | refine dks_none ?_ | u_none
        intro e he
        have hm := mem_listed he
        simp [go_sem, *] at hm
      clear hK K
      try w_num
      refine Goes.step rfl (fun _ h₁ => ?_)
      replace hF := rs_rely hF h₁
      clear h₁
      refine goes_oper_k rfl rfl (by k_ne) (fun K hK => ?_)
      go_simp
      refine hK _ _ ⟨?_, ?_⟩
      · first | refine dm_none ?_ | refine dks_none ?_ | u_none
        intro e he
        have hm := mem_listed he
        simp [go_sem, *] at hm
      clear hK K
      try w_num
      refine Goes.step rfl (fun _ h₁ => ?_)
      replace hF := rs_rely hF h₁
      clear h₁
      refine goes_oper_k rfl rfl (by k_ne) (fun K hK => ?_)
      go_simp
      refine hK _ _ ⟨?_, ?_⟩
      · first | refine dm_none ?_ | refine dks_none ?_ | u_none
        intro e he
        have hm := mem_listed he
        simp [go_sem, *] at hm
      clear hK K
      try w_num
      refine Goes.step rfl (fun _ h₁ => ?_)
      replace hF := rs_rely hF h₁
      clear h₁
      refine goes_oper_k rfl rfl (by k_ne) (fun K hK => ?_)
      go_simp
      refine hK _ _ ⟨?_, ?_⟩
      · first | refine dm_none ?_ | refine dks_none ?_ | u_none
        intro e he
        have hm := mem_listed he
        simp [go_sem, *] at hm
      clear hK K
      try w_num
      refine Goes.step rfl (fun _ h₁ => ?_)
      replace hF := rs_rely hF h₁
      clear h₁
      rw [stepG_unwanted rfl rfl]
      simp only [goes_go]
      refine ⟨by ((first | refine dm_none ?_ | refine dks_none ?_ | u_none); intro e he; simp at he), ?_⟩
      walk_nrm
      refine Goes.step rfl (fun _ h₁ => ?_)
      replace hF := rs_rely hF h₁
      clear h₁
      refine goes_oper_k rfl rfl (by k_ne) (fun K hK => ?_)
      go_simp
      refine hK _ _ ⟨?_, ?_⟩
      · first | refine dm_none ?_ | refine dks_none ?_ | u_none
        intro e he
        have hm := mem_listed he
        simp [go_sem, *] at hm
      clear hK K
      try w_num
      refine Goes.step rfl (fun _ h₁ => ?_)
      replace hF := rs_rely hF h₁
      clear h₁
      rw [stepG_region_end]
      simp only [goes_go]
      refine ⟨by ((first | refine dm_none ?_ | refine dks_none ?_ | u_none); intro e he; simp at he), ?_⟩
      refine Goes.step rfl (fun _ h₁ => ?_)
      replace hF := rs_rely hF h₁
      clear h₁
      rw [stepG_cond (t := false) rfl]
      simp only [goes_go, if_true, if_false, Bool.false_eq_true, ↓reduceIte]
      refine ⟨by ((first | refine dm_none ?_ | refine dks_none ?_ | u_none); intro e he; simp at he), ?_⟩
      refine Goes.step rfl (fun _ h₁ => ?_)
      replace hF := rs_rely hF h₁
      clear h₁
      rw [stepG_skip]
      simp only [goes_go]
      refine ⟨by ((first | refine dm_none ?_ | refine dks_none ?_ | u_none); intro e he; simp at he), ?_⟩
      refine Goes.step rfl (fun _ h₁ => ?_)
      replace hF := rs_rely hF h₁
      clear h₁
      rw [stepG_seq]
      simp only [goes_go]
      refine ⟨by ((first | refine dm_none ?_ | refine dks_none ?_ | u_none); intro e he; simp at he), ?_⟩
      refine Goes.step rfl (fun _ h₁ => ?_)
      replace hF := rs_rely hF h₁
      clear h₁
      rw [stepG_region]
      simp only [goes_go, List.size_toArray, List.length_cons, List.length_nil, Nat.reduceAdd, Nat.zero_add, List.range, List.range.loop]
      refine ⟨by ((first | refine dm_none ?_ | refine dks_none ?_ | u_none); intro e he; simp at he), ?_⟩
      refine Goes.step rfl (fun _ h₁ => ?_)
      replace hF := rs_rely hF h₁
      clear h₁
      refine goes_oper_k rfl rfl (by k_ne) (fun K hK => ?_)
      go_simp
      refine hK _ _ ⟨?_, ?_⟩
      · first | refine dm_none ?_ | refine dks_none ?_ | u_none
        intro e he
        have hm := mem_listed he
        simp [go_sem, *] at hm
      clear hK K
      try w_num
      refine Goes.step rfl (fun _ h₁ => ?_)
      replace hF := rs_rely hF h₁
      clear h₁
      refine goes_oper_k rfl rfl (by k_ne) (fun K hK => ?_)
      go_simp
      refine hK _ _ ⟨?_, ?_⟩
      · first | refine dm_none ?_ | refine dks_none ?_ | u_none
        intro e he
        have hm := mem_listed he
        simp [go_sem, *] at hm
      clear hK K
      try w_num
      refine Goes.step rfl (fun _ h₁ => ?_)
      replace hF := rs_rely hF h₁
      clear h₁
      refine goes_oper_k rfl rfl (by k_ne) (fun K hK => ?_)
      go_simp
      refine hK _ _ ⟨?_, ?_⟩
      · first | refine dm_none ?_ | refine dks_none ?_ | u_none
        intro e he
        have hm := mem_listed he
        simp [go_sem, *] at hm
      clear hK K
      try w_num
      refine Goes.step rfl (fun _ h₁ => ?_)
      replace hF := rs_rely hF h₁
      clear h₁
      refine goes_oper_k rfl rfl (by k_ne) (fun K hK => ?_)
      go_simp
      refine hK _ _ ⟨?_, ?_⟩
      · first | refine dm_none ?_ | refine dks_none ?_ | u_none
        intro e he
        have hm := mem_listed he
        simp [go_sem, *] at hm
      clear hK K
      try w_num
      refine Goes.stop (fun w₃ h₃ => ?_)
      replace hF := rs_rely hF h₃
      clear h₃
      refine ⟨rfl, rfl, fun ⟨st, hw⟩ => stepG_semacquire_wait rfl rfl rfl H.f_semacquire (x_semacquire_n L) (x_semacquire_b L) (x_semacquire_x L) (x_semacquire_f L) (by simp [Act.eval, smA]) hw.cellSm, fun hf => ?_⟩
      refine ⟨_, (stepG_semacquire (n := 1) rfl rfl (by k_ne) rfl H.f_semacquire (x_semacquire_n L) (x_semacquire_b L) (x_semacquire_x L) (x_semacquire_f L) (by simp [Act.eval, smA]) hf.cellSm (by k_ne) (hf.thaw 1)).trans (by rfl), 40, ?_⟩
      replace hF : RS q w0 (w₃.setCell (smA q.Wg) (.int .u32 0)) ∧ WgLive q.ty q.Wg (w₃.setCell (smA q.Wg) (.int .u32 0)) := ⟨hF.1.trans (RS.of_wg hG (aside_setCell w₃ (smA q.Wg) _) ⟨_, _, hf.setSm 0⟩), ⟨_, _, hf.setSm 0⟩⟩
      clear hf
      walk_nrm
      refine Goes.step rfl (fun _ h₁ => ?_)
      replace hF := rs_rely hF h₁
      clear h₁
      rw [stepG_region_end]
      simp only [goes_go]
      refine ⟨by ((first | refine dm_none ?_ | refine dks_none ?_ | u_none); intro e he; simp at he), ?_⟩
      refine Goes.step rfl (fun _ h₁ => ?_)
      replace hF := rs_rely hF h₁
      clear h₁
      rw [stepG_seq]
      simp only [goes_go]
      refine ⟨by ((first | refine dm_none ?_ | refine dks_none ?_ | u_none); intro e he; simp at he), ?_⟩
      refine Goes.step rfl (fun _ h₁ => ?_)
      replace hF := rs_rely hF h₁
      clear h₁
      rw [stepG_region]
      simp only [goes_go, List.size_toArray, List.length_cons, List.length_nil, Nat.reduceAdd, Nat.zero_add, List.range, List.range.loop]
      refine ⟨by ((first | refine dm_none ?_ | refine dks_none ?_ | u_none); intro e he; simp at he), ?_⟩
      refine Goes.step rfl (fun _ h₁ => ?_)
      replace hF := rs_rely hF h₁
      clear h₁
      refine goes_oper_k rfl rfl (by k_ne) (fun K hK => ?_)
      go_simp
      refine hK _ _ ⟨?_, ?_⟩
      · first | refine dm_none ?_ | refine dks_none ?_ | u_none
        intro e he
        have hm := mem_listed he
        simp [go_sem, *] at hm
      clear hK K
      try w_num
      refine Goes.step rfl (fun _ h₁ => ?_)
      replace hF := rs_rely hF h₁
      clear h₁
      refine goes_oper_k rfl rfl (by k_ne) (fun K hK => ?_)
      go_simp
      refine hK _ _ ⟨?_, ?_⟩
      · first | refine dm_none ?_ | refine dks_none ?_ | u_none
        intro e he
        have hm := mem_listed he
        simp [go_sem, *] at hm
      clear hK K
      try w_num
      refine Goes.step rfl (fun _ h₁ => ?_)
      replace hF := rs_rely hF h₁
      clear h₁
      refine goes_oper_k rfl rfl (by k_ne) (fun K hK => ?_)
      go_simp
      refine hK _ _ ⟨?_, ?_⟩
      · first | refine dm_none ?_ | refine dks_none ?_ | u_none
        intro e he
        have hm := mem_listed he
        simp [go_sem, *] at hm
      clear hK K
      try w_num
      refine Goes.step rfl (fun _ h₁ => ?_)
      replace hF := rs_rely hF h₁
      clear h₁
      refine goes_call rfl rfl (by k_ne) rfl H.f_uLoad (nm_uLoad L) rfl ⟨by ((first | refine dm_none ?_ | refine dks_none ?_ | u_none); intro e he; simp at he), ?_⟩
      walk_nrmf uLoadFn
      refine Goes.step rfl (fun _ h₁ => ?_)
      replace hF := rs_rely hF h₁
      clear h₁
      rw [stepG_seq]
      simp only [goes_go]
      refine ⟨by ((first | refine dm_none ?_ | refine dks_none ?_ | u_none); intro e he; simp at he), ?_⟩
      refine Goes.step rfl (fun _ h₁ => ?_)
      replace hF := rs_rely hF h₁
      clear h₁
      rw [stepG_region]
      simp only [goes_go, List.size_toArray, List.length_cons, List.length_nil, Nat.reduceAdd, Nat.zero_add, List.range, List.range.loop]
      refine ⟨by ((first | refine dm_none ?_ | refine dks_none ?_ | u_none); intro e he; simp at he), ?_⟩
      refine Goes.step rfl (fun _ h₁ => ?_)
      replace hF := rs_rely hF h₁
      clear h₁
      refine goes_oper_k rfl rfl (by k_ne) (fun K hK => ?_)
      go_simp
      refine hK _ _ ⟨?_, ?_⟩
      · first | refine dm_none ?_ | refine dks_none ?_ | u_none
        intro e he
        have hm := mem_listed he
        simp [go_sem, *] at hm
      clear hK K
      try w_num
      refine Goes.step rfl (fun _ h₁ => ?_)
      replace hF := rs_rely hF h₁
      clear h₁
      rw [stepG_region_end]
      simp only [goes_go]
      refine ⟨by ((first | refine dm_none ?_ | refine dks_none ?_ | u_none); intro e he; simp at he), ?_⟩
      refine Goes.step rfl (fun _ h₁ => ?_)
      replace hF := rs_rely hF h₁
      clear h₁
      rw [stepG_seq]
      simp only [goes_go]
      refine ⟨by ((first | refine dm_none ?_ | refine dks_none ?_ | u_none); intro e he; simp at he), ?_⟩
      refine Goes.step rfl (fun _ h₁ => ?_)
      replace hF := rs_rely hF h₁
      clear h₁
      rw [stepG_region]
      simp only [goes_go, List.size_toArray, List.length_cons, List.length_nil, Nat.reduceAdd, Nat.zero_add, List.range, List.range.loop]
      refine ⟨by ((first | refine dm_none ?_ | refine dks_none ?_ | u_none); intro e he; simp at he), ?_⟩
      refine Goes.step rfl (fun _ h₁ => ?_)
      replace hF := rs_rely hF h₁
      clear h₁
      refine goes_oper_k rfl rfl (by k_ne) (fun K hK => ?_)
      go_simp
      refine hK _ _ ⟨?_, ?_⟩
      · first | refine dm_none ?_ | refine dks_none ?_ | u_none
        intro e he
        have hm := mem_listed he
        simp [go_sem, *] at hm
      clear hK K
      try w_num
      refine Goes.step rfl (fun _ h₁ => ?_)
      replace hF := rs_rely hF h₁
      clear h₁
      refine goes_oper_k rfl rfl (by k_ne) (fun K hK => ?_)
      go_simp
      refine hK _ _ ⟨?_, ?_⟩
      · first | refine dm_none ?_ | refine dks_none ?_ | u_none
        intro e he
        have hm := mem_listed he
        simp [go_sem, *] at hm
      clear hK K
      try w_num
      refine Goes.step rfl (fun _ h₁ => ?_)
      replace hF := rs_rely hF h₁
      clear h₁
      refine goes_oper_k rfl rfl (by k_ne) (fun K hK => ?_)
      go_simp
      refine hK _ _ ⟨?_, ?_⟩
      · first | refine dm_none ?_ | refine dks_none ?_ | u_none
        intro e he
        have hm := mem_listed he
        simp [go_sem, *] at hm
      clear hK K
      try w_num
      refine Goes.stop (fun w₄ h₄ => ?_)
      replace hF := rs_rely hF h₄
      clear h₄
      refine ⟨rfl, fun hw => ⟨_, stepG_load_atomic (v := 0) rfl rfl (by k_ne) rfl H.f_loadU64 (x_loadU64_n L) (x_loadU64_b L) (x_loadU64_x L) .u64 (x_loadU64_f L) rfl hw.cellSt, 40, ?_⟩⟩
      clear hw
      walk_nrm
      refine Goes.step rfl (fun _ h₁ => ?_)
      replace hF := rs_rely hF h₁
      clear h₁
      refine goes_oper_k rfl rfl (by k_ne) (fun K hK => ?_)
      go_simp
      refine hK _ _ ⟨?_, ?_⟩
      · first | refine dm_none ?_ | refine dks_none ?_ | u_none
        intro e he
        have hm := mem_listed he
        simp [go_sem, *] at hm
      clear hK K
      try w_num
      refine Goes.step rfl (fun _ h₁ => ?_)
      replace hF := rs_rely hF h₁
      clear h₁
      rw [stepG_region_end]
      simp only [goes_go]
      refine ⟨by ((first | refine dm_none ?_ | refine dks_none ?_ | u_none); intro e he; simp at he), ?_⟩
      refine Goes.step rfl (fun _ h₁ => ?_)
      replace hF := rs_rely hF h₁
      clear h₁
      rw [stepG_ret']
      simp only [goes_go]
      refine ⟨by ((first | refine dm_none ?_ | refine dks_none ?_ | u_none); intro e he; simp at he), ?_⟩
      refine Goes.step rfl (fun _ h₁ => ?_)
      replace hF := rs_rely hF h₁
      clear h₁
      refine goes_leave1 rfl rfl H.f_uLoad rfl ⟨by ((first | refine dm_none ?_ | refine dks_none ?_ | u_none); intro e he; simp at he), ?_⟩
      walk_nrm
      refine Goes.step rfl (fun _ h₁ => ?_)
      replace hF := rs_rely hF h₁
      clear h₁
      refine goes_oper_k rfl rfl (by k_ne) (fun K hK => ?_)
      go_simp
      refine hK _ _ ⟨?_, ?_⟩
      · first | refine dm_none ?_ | refine dks_none ?_ | u_none
        intro e he
        have hm := mem_listed he
        simp [go_sem, *] at hm
      clear hK K
      try w_num
      refine Goes.step rfl (fun _ h₁ => ?_)
      replace hF := rs_rely hF h₁
      clear h₁
      refine goes_oper_k rfl rfl (by k_ne) (fun K hK => ?_)
      go_simp
      refine hK _ _ ⟨?_, ?_⟩
      · first | refine dm_none ?_ | refine dks_none ?_ | u_none
        intro e he
        have hm := mem_listed he
        simp [go_sem, *] at hm
      clear hK K
      try w_num
      refine Goes.step rfl (fun _ h₁ => ?_)
      replace hF := rs_rely hF h₁
      clear h₁
      rw [stepG_region_end]
      simp only [goes_go]
      refine ⟨by ((first | refine dm_none ?_ | refine dks_none ?_ | u_none); intro e he; simp at he), ?_⟩
      refine Goes.step rfl (fun _ h₁ => ?_)
      replace hF := rs_rely hF h₁
      clear h₁
      rw [stepG_seq]
      simp only [goes_go]
      refine ⟨by ((first | refine dm_none ?_ | refine dks_none ?_ | u_none); intro e he; simp at he), ?_⟩
      refine Goes.step rfl (fun _ h₁ => ?_)
      replace hF := rs_rely hF h₁
      clear h₁
      rw [stepG_cond (t := true) rfl]
      simp only [goes_go, if_true, if_false, Bool.false_eq_true, ↓reduceIte]
      refine ⟨by ((first | refine dm_none ?_ | refine dks_none ?_ | u_none); intro e he; simp at he), ?_⟩
      refine Goes.step rfl (fun _ h₁ => ?_)
      replace hF := rs_rely hF h₁
      clear h₁
      rw [stepG_seq]
      simp only [goes_go]
      refine ⟨by ((first | refine dm_none ?_ | refine dks_none ?_ | u_none); intro e he; simp at he), ?_⟩
      refine Goes.step rfl (fun _ h₁ => ?_)
      replace hF := rs_rely hF h₁
      clear h₁
      rw [stepG_region]
      simp only [goes_go, List.size_toArray, List.length_cons, List.length_nil, Nat.reduceAdd, Nat.zero_add, List.range, List.range.loop]
      refine ⟨by ((first | refine dm_none ?_ | refine dks_none ?_ | u_none); intro e he; simp at he), ?_⟩
      refine Goes.stop (fun w₅ h₅ => ?_)
      replace hF := rs_rely hF h₅
      clear h₅
      refine ⟨rfl, _, stepG_mark0 .enable (by simp) rfl rfl (by k_ne) rfl H.f_enable (x_enable_n L) (x_enable_b L) (x_enable_x L) (x_enable_f L), 30, ?_⟩
      walk_nrm
      refine Goes.step rfl (fun _ h₁ => ?_)
      replace hF := rs_rely hF h₁
      clear h₁
      rw [stepG_region_end]
      simp only [goes_go]
      refine ⟨by ((first | refine dm_none ?_ | refine dks_none ?_ | u_none); intro e he; simp at he), ?_⟩
      refine Goes.step rfl (fun _ h₁ => ?_)
      replace hF := rs_rely hF h₁
      clear h₁
      rw [stepG_region]
      simp only [goes_go, List.size_toArray, List.length_cons, List.length_nil, Nat.reduceAdd, Nat.zero_add, List.range, List.range.loop]
      refine ⟨by ((first | refine dm_none ?_ | refine dks_none ?_ | u_none); intro e he; simp at he), ?_⟩
      refine Goes.step rfl (fun _ h₁ => ?_)
      replace hF := rs_rely hF h₁
      clear h₁
      refine goes_oper_k rfl rfl (by k_ne) (fun K hK => ?_)
      go_simp
      refine hK _ _ ⟨?_, ?_⟩
      · first | refine dm_none ?_ | refine dks_none ?_ | u_none
        intro e he
        have hm := mem_listed he
        simp [go_sem, *] at hm
      clear hK K
      try w_num
      refine Goes.step rfl (fun _ h₁ => ?_)
      replace hF := rs_rely hF h₁
      clear h₁
      refine goes_oper_k rfl rfl (by k_ne) (fun Kx hKx => ?_)
      have hcv := run_convert_to_unsafe (P := P) H.underlying_tWgP H.underlying_tUP H.room_tWg (Go.ConcN.Gen.WgLive.cell0 hF.2).choose_spec
      have hce := fun es => events_convert_to_unsafe (P := P) H.underlying_tWgP H.underlying_tUP H.room_tWg (Go.ConcN.Gen.WgLive.cell0 hF.2).choose_spec es
      go_simp
      refine hKx _ _ ⟨?_, ?_⟩
      · first | refine dm_none ?_ | refine dks_none ?_ | u_none
        intro ex hex
        have hmx := mem_listed hex
        simp [go_sem, hce] at hmx
      clear hKx Kx hcv hce
      refine Goes.stop (fun w₆ h₆ => ?_)
      replace hF := rs_rely hF h₆
      clear h₆
      refine ⟨rfl, _, stepG_markAt .acquire (by simp) rfl rfl (by k_ne) rfl H.f_acquire (x_acquire_n L) (x_acquire_b L) (x_acquire_x L) (x_acquire_f L) (by simp [Act.eval, stA]), ⟨mT + 20, ?_⟩⟩
      walk_nrm
      refine Goes.step rfl (fun _ h₁ => ?_)
      replace hF := rs_rely hF h₁
      clear h₁
      rw [stepG_region_end]
      simp only [goes_go]
      refine ⟨by ((first | refine dm_none ?_ | refine dks_none ?_ | u_none); intro e he; simp at he), ?_⟩
      refine Goes.step rfl (fun _ h₁ => ?_)
      replace hF := rs_rely hF h₁
      clear h₁
      rw [stepG_seq]
      simp only [goes_go]
      refine ⟨by ((first | refine dm_none ?_ | refine dks_none ?_ | u_none); intro e he; simp at he), ?_⟩
      refine Goes.step rfl (fun _ h₁ => ?_)
      replace hF := rs_rely hF h₁
      clear h₁
      rw [stepG_seq]
      simp only [goes_go]
      refine ⟨by ((first | refine dm_none ?_ | refine dks_none ?_ | u_none); intro e he; simp at he), ?_⟩
      refine Goes.step rfl (fun _ h₁ => ?_)
      replace hF := rs_rely hF h₁
      clear h₁
      rw [stepG_region]
      simp only [goes_go, List.size_toArray, List.length_cons, List.length_nil, Nat.reduceAdd, Nat.zero_add, List.range, List.range.loop]
      refine ⟨by ((first | refine dm_none ?_ | refine dks_none ?_ | u_none); intro e he; simp at he), ?_⟩
      refine Goes.step rfl (fun _ h₁ => ?_)
      replace hF := rs_rely hF h₁
      clear h₁
      refine goes_oper_k rfl rfl (by k_ne) (fun K hK => ?_)
      go_simp
      refine hK _ _ ⟨?_, ?_⟩
      · first | refine dm_none ?_ | refine dks_none ?_ | u_none
        intro e he
        have hm := mem_listed he
        simp [go_sem, *] at hm
      clear hK K
      try w_num
      refine Goes.step rfl (fun _ h₁ => ?_)
      replace hF := rs_rely hF h₁
      clear h₁
      rw [stepG_region_end]
      simp only [goes_go]
      refine ⟨by ((first | refine dm_none ?_ | refine dks_none ?_ | u_none); intro e he; simp at he), ?_⟩
      refine Goes.step rfl (fun _ h₁ => ?_)
      replace hF := rs_rely hF h₁
      clear h₁
      rw [stepG_cond (t := false) rfl]
      simp only [goes_go, if_true, if_false, Bool.false_eq_true, ↓reduceIte]
      refine ⟨by ((first | refine dm_none ?_ | refine dks_none ?_ | u_none); intro e he; simp at he), ?_⟩
      refine Goes.step rfl (fun _ h₁ => ?_)
      replace hF := rs_rely hF h₁
      clear h₁
      rw [stepG_skip]
      simp only [goes_go]
      refine ⟨by ((first | refine dm_none ?_ | refine dks_none ?_ | u_none); intro e he; simp at he), ?_⟩
      refine Goes.step rfl (fun _ h₁ => ?_)
      replace hF := rs_rely hF h₁
      clear h₁
      rw [stepG_ret']
      simp only [goes_go]
      refine ⟨by ((first | refine dm_none ?_ | refine dks_none ?_ | u_none); intro e he; simp at he), ?_⟩
      refine Goes.step rfl (fun _ h₁ => ?_)
      replace hF := rs_rely hF h₁
      clear h₁
      refine goes_leave0 rfl rfl H.f_wait rfl ⟨by ((first | refine dm_none ?_ | refine dks_none ?_ | u_none); intro e he; simp at he), ?_⟩
      walk_nrm
      exact goes_more (hT _ hF) (by omega)
    · refine ⟨_, stepG_cas_miss (v := (v' : Int) * KK) (old := S) (n := S + 1) rfl rfl (by k_ne) rfl H.f_casU64 (x_casU64_n L) (x_casU64_b L) (x_casU64_x L) .u64 (x_casU64_f L) rfl rfl rfl hw.cellSt (hw.thaw 0) (by rw [← hS]; simp only [KK]; omega), 20, ?_⟩
      clear hw
      walk_nrm
      refine Goes.step rfl (fun _ h₁ => ?_)
      replace hF := rs_rely hF h₁
      clear h₁
      refine goes_oper_k rfl rfl (by k_ne) (fun K hK => ?_)
      go_simp
      refine hK _ _ ⟨?_, ?_⟩
      · first | refine dm_none ?_ | refine dks_none ?_ | u_none
        intro e he
        have hm := mem_listed he
        simp [go_sem, *] at hm
      clear hK K
      try w_num
      refine Goes.step rfl (fun _ h₁ => ?_)
      replace hF := rs_rely hF h₁
      clear h₁
      rw [stepG_region_end]
      simp only [goes_go]
      refine ⟨by ((first | refine dm_none ?_ | refine dks_none ?_ | u_none); intro e he; simp at he), ?_⟩
      refine Goes.step rfl (fun _ h₁ => ?_)
      replace hF := rs_rely hF h₁
      clear h₁
      rw [stepG_ret']
      simp only [goes_go]
      refine ⟨by ((first | refine dm_none ?_ | refine dks_none ?_ | u_none); intro e he; simp at he), ?_⟩
      refine Goes.step rfl (fun _ h₁ => ?_)
      replace hF := rs_rely hF h₁
      clear h₁
      refine goes_leave1 rfl rfl H.f_uCas rfl ⟨by ((first | refine dm_none ?_ | refine dks_none ?_ | u_none); intro e he; simp at he), ?_⟩
      walk_nrm
      refine Goes.step rfl (fun _ h₁ => ?_)
      replace hF := rs_rely hF h₁
      clear h₁
      rw [stepG_region_end]
      simp only [goes_go]
      refine ⟨by ((first | refine dm_none ?_ | refine dks_none ?_ | u_none); intro e he; simp at he), ?_⟩
      refine Goes.step rfl (fun _ h₁ => ?_)
      replace hF := rs_rely hF h₁
      clear h₁
      rw [stepG_cond (t := false) rfl]
      simp only [goes_go, if_true, if_false, Bool.false_eq_true, ↓reduceIte]
      refine ⟨by ((first | refine dm_none ?_ | refine dks_none ?_ | u_none); intro e he; simp at he), ?_⟩
      refine Goes.step rfl (fun _ h₁ => ?_)
      replace hF := rs_rely hF h₁
      clear h₁
      rw [stepG_skip]
      simp only [goes_go]
      refine ⟨by ((first | refine dm_none ?_ | refine dks_none ?_ | u_none); intro e he; simp at he), ?_⟩
      refine Goes.step rfl (fun _ h₁ => ?_)
      replace hF := rs_rely hF h₁
      clear h₁
      rw [stepG_inBlock]
      simp only [goes_go]
      refine ⟨by ((first | refine dm_none ?_ | refine dks_none ?_ | u_none); intro e he; simp at he), ?_⟩
      refine Goes.step rfl (fun _ h₁ => ?_)
      replace hF := rs_rely hF h₁
      clear h₁
      rw [stepG_inLoop]
      simp only [goes_go]
      refine ⟨by ((first | refine dm_none ?_ | refine dks_none ?_ | u_none); intro e he; simp at he), ?_⟩
      refine Goes.stop (fun w₃ h₃ => ?_)
      replace hF := rs_rely hF h₃
      exact ⟨_, rfl, by simp, by simp, hF⟩

set_option maxRecDepth 100000 in
set_option maxHeartbeats 8000000 in
theorem waitStart {P : Program} (H : WgLib P L) {w0 : World} (w : World) (hF : RS q w0 w ∧ WgLive q.ty q.Wg w) :
    Goes P true (RS q) (DM q) (MKd P q (AnchM L q w0 (b₀.at a₀ (.inRegion ops₀ (i₀ :: rest₀) :: k₀)) cs)) 10
      (G ((base L.wait).at ⟨#[.pointer (some ⟨q.Wg, 0, none⟩)] ++ Array.replicate 83 undef, []⟩ [.code ((waitFn L).body.getD .skip)]) (b₀.at a₀ (.inRegion ops₀ (i₀ :: rest₀) :: k₀) :: cs)) w := by
  lib_facts
  walk_nrmf waitFn
  refine Goes.step rfl (fun _ h₁ => ?_)
  replace hF := rs_rely hF h₁
  clear h₁
  rw [stepG_seq]
  simp only [goes_go]
  refine ⟨by ((first | refine dm_none ?_ | refine dks_none ?_ | u_none); intro e he; simp at he), ?_⟩
  refine Goes.step rfl (fun _ h₁ => ?_)
  replace hF := rs_rely hF h₁
  clear h₁
  rw [stepG_cond (t := true) rfl]
  simp only [goes_go, if_true, if_false, Bool.false_eq_true, ↓reduceIte]
  refine ⟨by ((first | refine dm_none ?_ | refine dks_none ?_ | u_none); intro e he; simp at he), ?_⟩
  refine Goes.step rfl (fun _ h₁ => ?_)
  replace hF := rs_rely hF h₁
  clear h₁
  rw [stepG_region]
  simp only [goes_go, List.size_toArray, List.length_cons, List.length_nil, Nat.reduceAdd, Nat.zero_add, List.range, List.range.loop]
  refine ⟨by ((first | refine dm_none ?_ | refine dks_none ?_ | u_none); intro e he; simp at he), ?_⟩
  refine Goes.stop (fun w₁ h₁ => ?_)
  replace hF := rs_rely hF h₁
  clear h₁
  refine ⟨rfl, _, stepG_mark0 .disable (by simp) rfl rfl (by k_ne) rfl H.f_disable (x_disable_n L) (x_disable_b L) (x_disable_x L) (x_disable_f L), 3, ?_⟩
  walk_nrm
  refine Goes.step rfl (fun _ h₁ => ?_)
  replace hF := rs_rely hF h₁
  clear h₁
  rw [stepG_region_end]
  simp only [goes_go]
  refine ⟨by ((first | refine dm_none ?_ | refine dks_none ?_ | u_none); intro e he; simp at he), ?_⟩
  refine Goes.step rfl (fun _ h₁ => ?_)
  replace hF := rs_rely hF h₁
  clear h₁
  rw [stepG_block]
  simp only [goes_go]
  refine ⟨by ((first | refine dm_none ?_ | refine dks_none ?_ | u_none); intro e he; simp at he), ?_⟩
  refine Goes.step rfl (fun _ h₁ => ?_)
  replace hF := rs_rely hF h₁
  clear h₁
  rw [stepG_loop]
  simp only [goes_go]
  refine ⟨by ((first | refine dm_none ?_ | refine dks_none ?_ | u_none); intro e he; simp at he), ?_⟩
  exact Goes.stop (fun w₂ h₂ => ⟨_, rfl, by simp, by simp, rs_rely hF h₂⟩)
end
end Go.Proofs.Ytjplnkkcmkpkbaa
