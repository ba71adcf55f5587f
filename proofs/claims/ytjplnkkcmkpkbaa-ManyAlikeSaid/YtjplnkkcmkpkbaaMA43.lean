/- Several of my texts in one: Hal14. -/
import Derived.Test.YtjplnkkcmkpkbaaMA42
set_option linter.unusedSimpArgs false
set_option linter.unusedVariables false
/- Do: join, leave, lend, back, tell. -/
namespace Go.Proofs.Ytjplnkkcmkpkbaa
open Go.RowKit

set_option maxRecDepth 100000 in
set_option maxHeartbeats 8000000 in
theorem halDo1 {w0 w : World} (H : Nat) (s : HSt) (B : List Big) (n : Int) (nm to : ByteArray) (h : Hw w0 w H s B) (hs : nm.size ≤ maxLen) (hn : namedB nm = true) (h8 : s.M.length ≤ 8) :
    Calls Try.prog 28 #[.pointer (some ⟨H, 0, .none⟩), .agg #[.int .i64 1, .int .i64 n, .string nm, .string to]] w (ToldW w0 H (joinW s (fiV nm s.M) n nm) B ⟨#[]⟩ 0 (joinE s (fiV nm s.M) n)) := by
  obtain ⟨N, hN⟩ : ∃ N, w.heap.size = N := ⟨_, rfl⟩
  have HB := Lib.hid (doBox h 1 n nm to hN)
  obtain ⟨e0, e1, e2, e3, -⟩ := HB.out.deed (N := N) (k := 1) (n := n) (nm := nm) (to := to) (by simp)
  obtain ⟨t0, t1, tz0, tz1⟩ := HB.out.told (N := N + 1) (nm := ⟨#[]⟩) (n := 0) (by simp)
  obtain ⟨u0, u1, -, -⟩ := HB.out.told (N := N + 2) (nm := ⟨#[]⟩) (n := 0) (by simp)
  clear h
  have HCN := Lib.hid (halNamed nm (((w.alloc (.cells #[.int .i64 1, .int .i64 n, .string nm, .string to] 28)).alloc (.cells #[.string ⟨#[]⟩, .int .i64 0] 35)).alloc (.cells #[.string ⟨#[]⟩, .int .i64 0] 35)) hs)
  rw [hn] at HCN
  go_enter Try.func28, Try.ntmps28
  go_wp2_with fail
  refine HCN.out.mono ?_; rintro e w1 ⟨rfl, hf1⟩
  have HB1 := Lib.hid (HB.out.keep hf1.bel)
  obtain ⟨am, cm, c0, hS, hHl⟩ := HB1.out.hall
  obtain ⟨-, -, e2', -, -⟩ := HB1.out.deed (N := N) (k := 1) (n := n) (nm := nm) (to := to) (by simp)
  have HCF := Lib.hid (halFind s.M s.M.length am cm nm H _ hS rfl (by omega) c0 hHl)
  clear hf1 HB HCN e0 e1 e2 e3 t0 t1 tz0 tz1 u0 u1 hS hHl
  go_wp2_with fail
  refine HCF.out.mono ?_; rintro e w2 ⟨rfl, hf2⟩
  have HB2 := Lib.hid (HB1.out.keep hf2.bel)
  obtain ⟨t0, t1, tz0, tz1⟩ := HB2.out.told (N := N + 1) (nm := ⟨#[]⟩) (n := 0) (by simp)
  obtain ⟨u0, u1, -, -⟩ := HB2.out.told (N := N + 2) (nm := ⟨#[]⟩) (n := 0) (by simp)
  obtain ⟨e0, e1, e2, e3, -⟩ := HB2.out.deed (N := N) (k := 1) (n := n) (nm := nm) (to := to) (by simp)
  clear hf2 HCF e2' c0 HB1
  go_wp2_with fail
  refine wp_region_U [5] (fun w' : World => w'.cell? ⟨N + 2, 0, .none⟩ = some (.string ⟨#[]⟩) ∧ w'.cell? ⟨N + 2, 1, .none⟩ = some (.int .i64 0) ∧ w'.cell? ⟨N, 0, .none⟩ = some (.int .i64 1) ∧ w'.cell? ⟨N, 1, .none⟩ = some (.int .i64 n) ∧ w'.cell? ⟨N, 2, .none⟩ = some (.string nm) ∧ w'.cell? ⟨N, 3, .none⟩ = some (.string to)) (by kernel_rfl) ?_
  have hSd : (fun w' : World => w'.cell? ⟨N + 2, 0, .none⟩ = some (.string ⟨#[]⟩) ∧ w'.cell? ⟨N + 2, 1, .none⟩ = some (.int .i64 0) ∧ w'.cell? ⟨N, 0, .none⟩ = some (.int .i64 1) ∧ w'.cell? ⟨N, 1, .none⟩ = some (.int .i64 n) ∧ w'.cell? ⟨N, 2, .none⟩ = some (.string nm) ∧ w'.cell? ⟨N, 3, .none⟩ = some (.string to)) w2.drew := ⟨u0, u1, e0, e1, e2, e3⟩
  refine wpAnyU_take (i := 0) (v := ?_) rfl (by kernel_rfl) (by kernel_rfl) (by kernel_rfl) (by kernel_rfl) (by kernel_rfl) (by kernel_rfl) (fun _ _ _ h => h) (Or.inl ⟨by rfl, ?_⟩) (by assumption) ?_
  rotate_left
  · intro w hSw; obtain ⟨s1, s2, s3, s4, s5, s6⟩ := hSw; go_simp; try with_reducible rfl
  try simp only [Act.put]
  try simp only [List.setIfInBounds_toArray]
  try simp only [List.set_cons_succ]
  try simp only [List.set_cons_zero]
  refine wpAnyU_takeY (i := 1) (v := ?_) rfl (by kernel_rfl) (by kernel_rfl) (by kernel_rfl) (by kernel_rfl) (fun _ _ _ h => h) (Or.inl ⟨by rfl, ?_⟩) (by assumption) ?_
  rotate_left
  · intro w _; go_simp; try with_reducible rfl
  try simp only [Act.put]
  try simp only [List.setIfInBounds_toArray]
  try simp only [List.set_cons_succ]
  try simp only [List.set_cons_zero]
  refine wpAnyU_takeY (i := 2) (v := ?_) rfl (by kernel_rfl) (by kernel_rfl) (by kernel_rfl) (by kernel_rfl) (fun _ _ _ h => h) (Or.inl ⟨by rfl, ?_⟩) (by assumption) ?_
  rotate_left
  · intro w _; go_simp; try with_reducible rfl
  try simp only [Act.put]
  try simp only [List.setIfInBounds_toArray]
  try simp only [List.set_cons_succ]
  try simp only [List.set_cons_zero]
  refine wpAnyU_take (i := 3) (v := ?_) rfl (by kernel_rfl) (by kernel_rfl) (by kernel_rfl) (by kernel_rfl) (by kernel_rfl) (by kernel_rfl) (fun _ _ _ h => h) (Or.inl ⟨by rfl, ?_⟩) (by assumption) ?_
  rotate_left
  · intro w hSw; obtain ⟨s1, s2, s3, s4, s5, s6⟩ := hSw; go_simp; try with_reducible rfl
  try simp only [Act.put]
  try simp only [List.setIfInBounds_toArray]
  try simp only [List.set_cons_succ]
  try simp only [List.set_cons_zero]
  refine wpAnyU_ready (rs := [4]) (by kernel_rfl) (by simp) ?_
  refine AllReadyU.cons rfl (fun K hK => ?_) AllReadyU.nil
  go_simp
  refine (halJoin H s (eT (N + 1) ⟨#[]⟩ 0 :: eT (N + 2) ⟨#[]⟩ 0 :: eD N 1 n nm to :: B) (fiV nm s.M) 1 n nm to HB2.out.drew h8).mono ?_; rintro e w3 ⟨rfl, hw3⟩
  have HW3 := Lib.hid hw3
  clear hw3
  obtain ⟨v0, v1, -, -⟩ := HW3.out.told (N := N + 2) (nm := ⟨#[]⟩) (n := 0) (by simp)
  obtain ⟨x0, x1, xz0, xz1⟩ := HW3.out.told (N := N + 1) (nm := ⟨#[]⟩) (n := 0) (by simp)
  obtain ⟨y0, y1, y2, y3, -⟩ := HW3.out.deed (N := N) (k := 1) (n := n) (nm := nm) (to := to) (by simp)
  refine hK.out _ _ (fun _ => ⟨v0, v1, y0, y1, y2, y3⟩) ?_
  clear hK K
  try simp only [Act.put]
  try simp only [List.setIfInBounds_toArray]
  try simp only [List.set_cons_succ]
  try simp only [List.set_cons_zero]
  refine wpAnyU_ready (rs := [5]) (by kernel_rfl) (by simp) ?_
  refine AllReadyU.cons rfl (fun K hK => ?_) AllReadyU.nil
  go_simp
  refine hK.out _ _ (fun h => absurd h (by decide +kernel)) ?_
  clear hK K
  try simp only [Act.put]
  try simp only [List.setIfInBounds_toArray]
  try simp only [List.set_cons_succ]
  try simp only [List.set_cons_zero]
  refine wpAnyU_ready (rs := [6]) (by kernel_rfl) (by simp) ?_
  refine AllReadyU.cons rfl (fun K hK => ?_) AllReadyU.nil
  go_simp
  refine hK.out _ _ (fun h => absurd h (by decide +kernel)) ?_
  clear hK K
  try simp only [Act.put]
  try simp only [List.setIfInBounds_toArray]
  try simp only [List.set_cons_succ]
  try simp only [List.set_cons_zero]
  refine wpAnyU_done (by kernel_rfl) ?_ _
  go_wp2_with fail
  have h3 := Hw.setTold (nm' := ⟨#[]⟩) (n' := 0) HW3.out
  generalize (World.setCell (w3) ⟨N + 1, 0, none⟩ (.string ⟨#[]⟩)).setCell ⟨N + 1, 1, none⟩ (.int .i64 0) = WF at h3 ⊢
  obtain ⟨q0, q1, -, -⟩ := h3.told (N := N + 1) (nm := ⟨#[]⟩) (n := 0) List.mem_cons_self
  have h4 : ToldW w0 H (joinW s (fiV nm s.M) n nm) B ⟨#[]⟩ 0 (joinE s (fiV nm s.M) n) (.returned (.tuple #[.agg #[.string ⟨#[]⟩, .int .i64 0], .int .i64 (joinE s (fiV nm s.M) n)])) WF := ⟨rfl, h3.sub (List.sublist_append_right [_, _, _] B)⟩
  refine bodyPost_ret (v := .tuple #[.agg #[.string ⟨#[]⟩, .int .i64 0], .int .i64 (joinE s (fiV nm s.M) n)]) ?_ ?_ ?_
  rotate_left
  · rfl
  · exact h4
  simp [results, Try.results28, go_sem, q0, q1]
set_option maxRecDepth 100000 in
set_option maxHeartbeats 8000000 in
theorem halDo2 {w0 w : World} (H : Nat) (s : HSt) (B : List Big) (n : Int) (nm to : ByteArray) (h : Hw w0 w H s B) (hs : nm.size ≤ maxLen) (hn : namedB nm = true) (h8 : s.M.length ≤ 8) (i : Nat) (m : Mem) (hfi : findM nm s.M = i) (hi : i < s.M.length) (hm : s.M[i]? = some m) (hL : s.L.length ≤ maxLen) :
    Calls Try.prog 28 #[.pointer (some ⟨H, 0, .none⟩), .agg #[.int .i64 2, .int .i64 n, .string nm, .string to]] w (ToldW w0 H (leaveW s i m) B ⟨#[]⟩ 0 (leaveE s m)) := by
  obtain ⟨N, hN⟩ : ∃ N, w.heap.size = N := ⟨_, rfl⟩
  have HB := Lib.hid (doBox h 2 n nm to hN)
  obtain ⟨e0, e1, e2, e3, -⟩ := HB.out.deed (N := N) (k := 2) (n := n) (nm := nm) (to := to) (by simp)
  obtain ⟨t0, t1, tz0, tz1⟩ := HB.out.told (N := N + 1) (nm := ⟨#[]⟩) (n := 0) (by simp)
  obtain ⟨u0, u1, -, -⟩ := HB.out.told (N := N + 2) (nm := ⟨#[]⟩) (n := 0) (by simp)
  clear h
  have HCN := Lib.hid (halNamed nm (((w.alloc (.cells #[.int .i64 2, .int .i64 n, .string nm, .string to] 28)).alloc (.cells #[.string ⟨#[]⟩, .int .i64 0] 35)).alloc (.cells #[.string ⟨#[]⟩, .int .i64 0] 35)) hs)
  rw [hn] at HCN
  go_enter Try.func28, Try.ntmps28
  go_wp2_with fail
  refine HCN.out.mono ?_; rintro e w1 ⟨rfl, hf1⟩
  have HB1 := Lib.hid (HB.out.keep hf1.bel)
  obtain ⟨am, cm, c0, hS, hHl⟩ := HB1.out.hall
  obtain ⟨-, -, e2', -, -⟩ := HB1.out.deed (N := N) (k := 2) (n := n) (nm := nm) (to := to) (by simp)
  have HCF := Lib.hid (halFind s.M s.M.length am cm nm H _ hS rfl (by omega) c0 hHl)
  clear hf1 HB HCN e0 e1 e2 e3 t0 t1 tz0 tz1 u0 u1 hS hHl
  go_wp2_with fail
  refine HCF.out.mono ?_; rintro e w2 ⟨rfl, hf2⟩
  have HB2 := Lib.hid (HB1.out.keep hf2.bel)
  obtain ⟨t0, t1, tz0, tz1⟩ := HB2.out.told (N := N + 1) (nm := ⟨#[]⟩) (n := 0) (by simp)
  obtain ⟨u0, u1, -, -⟩ := HB2.out.told (N := N + 2) (nm := ⟨#[]⟩) (n := 0) (by simp)
  obtain ⟨e0, e1, e2, e3, -⟩ := HB2.out.deed (N := N) (k := 2) (n := n) (nm := nm) (to := to) (by simp)
  clear hf2 HCF e2' c0 HB1
  rw [show fiV nm s.M = (i : Int) by unfold fiV; rw [hfi, if_pos hi]]
  have d3 : decide ((i : Int) < 0) = false := decide_eq_false (by omega)
  go_wp2_with fail
  refine wp_region_U [4] (fun w' : World => w'.cell? ⟨N + 2, 0, .none⟩ = some (.string ⟨#[]⟩) ∧ w'.cell? ⟨N + 2, 1, .none⟩ = some (.int .i64 0) ∧ w'.cell? ⟨N, 0, .none⟩ = some (.int .i64 2) ∧ w'.cell? ⟨N, 1, .none⟩ = some (.int .i64 n) ∧ w'.cell? ⟨N, 2, .none⟩ = some (.string nm) ∧ w'.cell? ⟨N, 3, .none⟩ = some (.string to)) (by kernel_rfl) ?_
  have hSd : (fun w' : World => w'.cell? ⟨N + 2, 0, .none⟩ = some (.string ⟨#[]⟩) ∧ w'.cell? ⟨N + 2, 1, .none⟩ = some (.int .i64 0) ∧ w'.cell? ⟨N, 0, .none⟩ = some (.int .i64 2) ∧ w'.cell? ⟨N, 1, .none⟩ = some (.int .i64 n) ∧ w'.cell? ⟨N, 2, .none⟩ = some (.string nm) ∧ w'.cell? ⟨N, 3, .none⟩ = some (.string to)) w2.drew := ⟨u0, u1, e0, e1, e2, e3⟩
  refine wpAnyU_take (i := 0) (v := ?_) rfl (by kernel_rfl) (by kernel_rfl) (by kernel_rfl) (by kernel_rfl) (by kernel_rfl) (by kernel_rfl) (fun _ _ _ h => h) (Or.inl ⟨by rfl, ?_⟩) (by assumption) ?_
  rotate_left
  · intro w hSw; obtain ⟨s1, s2, s3, s4, s5, s6⟩ := hSw; go_simp; try with_reducible rfl
  try simp only [Act.put]
  try simp only [List.setIfInBounds_toArray]
  try simp only [List.set_cons_succ]
  try simp only [List.set_cons_zero]
  refine wpAnyU_takeY (i := 1) (v := ?_) rfl (by kernel_rfl) (by kernel_rfl) (by kernel_rfl) (by kernel_rfl) (fun _ _ _ h => h) (Or.inl ⟨by rfl, ?_⟩) (by assumption) ?_
  rotate_left
  · intro w _; go_simp; try with_reducible rfl
  try simp only [Act.put]
  try simp only [List.setIfInBounds_toArray]
  try simp only [List.set_cons_succ]
  try simp only [List.set_cons_zero]
  refine wpAnyU_takeY (i := 2) (v := ?_) rfl (by kernel_rfl) (by kernel_rfl) (by kernel_rfl) (by kernel_rfl) (fun _ _ _ h => h) (Or.inl ⟨by rfl, ?_⟩) (by assumption) ?_
  rotate_left
  · intro w _; go_simp; try with_reducible rfl
  try simp only [Act.put]
  try simp only [List.setIfInBounds_toArray]
  try simp only [List.set_cons_succ]
  try simp only [List.set_cons_zero]
  refine wpAnyU_ready (rs := [3]) (by kernel_rfl) (by simp) ?_
  refine AllReadyU.cons rfl (fun K hK => ?_) AllReadyU.nil
  go_simp
  refine (halLeave H s (eT (N + 1) ⟨#[]⟩ 0 :: eT (N + 2) ⟨#[]⟩ 0 :: eD N 2 n nm to :: B) i m HB2.out.drew hm (by omega) hL).mono ?_; rintro e w3 ⟨rfl, hw3⟩
  have HW3 := Lib.hid hw3
  clear hw3
  obtain ⟨v0, v1, -, -⟩ := HW3.out.told (N := N + 2) (nm := ⟨#[]⟩) (n := 0) (by simp)
  obtain ⟨x0, x1, xz0, xz1⟩ := HW3.out.told (N := N + 1) (nm := ⟨#[]⟩) (n := 0) (by simp)
  obtain ⟨y0, y1, y2, y3, -⟩ := HW3.out.deed (N := N) (k := 2) (n := n) (nm := nm) (to := to) (by simp)
  refine hK.out _ _ (fun _ => ⟨v0, v1, y0, y1, y2, y3⟩) ?_
  clear hK K
  try simp only [Act.put]
  try simp only [List.setIfInBounds_toArray]
  try simp only [List.set_cons_succ]
  try simp only [List.set_cons_zero]
  refine wpAnyU_ready (rs := [4]) (by kernel_rfl) (by simp) ?_
  refine AllReadyU.cons rfl (fun K hK => ?_) AllReadyU.nil
  go_simp
  refine hK.out _ _ (fun h => absurd h (by decide +kernel)) ?_
  clear hK K
  try simp only [Act.put]
  try simp only [List.setIfInBounds_toArray]
  try simp only [List.set_cons_succ]
  try simp only [List.set_cons_zero]
  refine wpAnyU_ready (rs := [5]) (by kernel_rfl) (by simp) ?_
  refine AllReadyU.cons rfl (fun K hK => ?_) AllReadyU.nil
  go_simp
  refine hK.out _ _ (fun h => absurd h (by decide +kernel)) ?_
  clear hK K
  try simp only [Act.put]
  try simp only [List.setIfInBounds_toArray]
  try simp only [List.set_cons_succ]
  try simp only [List.set_cons_zero]
  refine wpAnyU_done (by kernel_rfl) ?_ _
  go_wp2_with fail
  have h3 := Hw.setTold (nm' := ⟨#[]⟩) (n' := 0) HW3.out
  generalize (World.setCell (w3) ⟨N + 1, 0, none⟩ (.string ⟨#[]⟩)).setCell ⟨N + 1, 1, none⟩ (.int .i64 0) = WF at h3 ⊢
  obtain ⟨q0, q1, -, -⟩ := h3.told (N := N + 1) (nm := ⟨#[]⟩) (n := 0) List.mem_cons_self
  have h4 : ToldW w0 H (leaveW s i m) B ⟨#[]⟩ 0 (leaveE s m) (.returned (.tuple #[.agg #[.string ⟨#[]⟩, .int .i64 0], .int .i64 (leaveE s m)])) WF := ⟨rfl, h3.sub (List.sublist_append_right [_, _, _] B)⟩
  refine bodyPost_ret (v := .tuple #[.agg #[.string ⟨#[]⟩, .int .i64 0], .int .i64 (leaveE s m)]) ?_ ?_ ?_
  rotate_left
  · rfl
  · exact h4
  simp [results, Try.results28, go_sem, q0, q1]
set_option maxRecDepth 100000 in
set_option maxHeartbeats 8000000 in
theorem halDo3 {w0 w : World} (H : Nat) (s : HSt) (B : List Big) (n : Int) (nm to : ByteArray) (h : Hw w0 w H s B) (hs : nm.size ≤ maxLen) (hn : namedB nm = true) (h8 : s.M.length ≤ 8) (i : Nat) (hfi : findM nm s.M = i) (hi : i < s.M.length) (ht : TkOk (tksL s.M)) (hL : (s.L.length + 1) * 40 ≤ 140737488355328) :
    Calls Try.prog 28 #[.pointer (some ⟨H, 0, .none⟩), .agg #[.int .i64 3, .int .i64 n, .string nm, .string to]] w (ToldW w0 H (lendW s i n nm to) B ⟨#[]⟩ 0 (lendE s i n to)) := by
  obtain ⟨N, hN⟩ : ∃ N, w.heap.size = N := ⟨_, rfl⟩
  have HB := Lib.hid (doBox h 3 n nm to hN)
  obtain ⟨e0, e1, e2, e3, -⟩ := HB.out.deed (N := N) (k := 3) (n := n) (nm := nm) (to := to) (by simp)
  obtain ⟨t0, t1, tz0, tz1⟩ := HB.out.told (N := N + 1) (nm := ⟨#[]⟩) (n := 0) (by simp)
  obtain ⟨u0, u1, -, -⟩ := HB.out.told (N := N + 2) (nm := ⟨#[]⟩) (n := 0) (by simp)
  clear h
  have HCN := Lib.hid (halNamed nm (((w.alloc (.cells #[.int .i64 3, .int .i64 n, .string nm, .string to] 28)).alloc (.cells #[.string ⟨#[]⟩, .int .i64 0] 35)).alloc (.cells #[.string ⟨#[]⟩, .int .i64 0] 35)) hs)
  rw [hn] at HCN
  go_enter Try.func28, Try.ntmps28
  go_wp2_with fail
  refine HCN.out.mono ?_; rintro e w1 ⟨rfl, hf1⟩
  have HB1 := Lib.hid (HB.out.keep hf1.bel)
  obtain ⟨am, cm, c0, hS, hHl⟩ := HB1.out.hall
  obtain ⟨-, -, e2', -, -⟩ := HB1.out.deed (N := N) (k := 3) (n := n) (nm := nm) (to := to) (by simp)
  have HCF := Lib.hid (halFind s.M s.M.length am cm nm H _ hS rfl (by omega) c0 hHl)
  clear hf1 HB HCN e0 e1 e2 e3 t0 t1 tz0 tz1 u0 u1 hS hHl
  go_wp2_with fail
  refine HCF.out.mono ?_; rintro e w2 ⟨rfl, hf2⟩
  have HB2 := Lib.hid (HB1.out.keep hf2.bel)
  obtain ⟨t0, t1, tz0, tz1⟩ := HB2.out.told (N := N + 1) (nm := ⟨#[]⟩) (n := 0) (by simp)
  obtain ⟨u0, u1, -, -⟩ := HB2.out.told (N := N + 2) (nm := ⟨#[]⟩) (n := 0) (by simp)
  obtain ⟨e0, e1, e2, e3, -⟩ := HB2.out.deed (N := N) (k := 3) (n := n) (nm := nm) (to := to) (by simp)
  clear hf2 HCF e2' c0 HB1
  rw [show fiV nm s.M = (i : Int) by unfold fiV; rw [hfi, if_pos hi]]
  have d3 : decide ((i : Int) < 0) = false := decide_eq_false (by omega)
  have HCL : Hid (Calls Try.prog 46 #[.pointer (some ⟨H, 0, .none⟩), .int .i64 i, .agg #[.int .i64 3, .int .i64 n, .string nm, .string to]] w2.drew (ErrW w0 H (lendW s i n nm to) (eT (N + 1) ⟨#[]⟩ 0 :: eT (N + 2) ⟨#[]⟩ 0 :: eD N 3 n nm to :: B) (lendE s i n to))) := Lib.hid (by
    by_cases hE : lendE s i n to = 0
    · rw [hE]; exact halLend_yes H s (eT (N + 1) ⟨#[]⟩ 0 :: eT (N + 2) ⟨#[]⟩ 0 :: eD N 3 n nm to :: B) i 3 n nm to HB2.out.drew hi ht hL hE
    · have e : lendW s i n nm to = s := by unfold lendW; rw [if_neg hE]
      rw [e]; exact halLend_no H s (eT (N + 1) ⟨#[]⟩ 0 :: eT (N + 2) ⟨#[]⟩ 0 :: eD N 3 n nm to :: B) i 3 n nm to HB2.out.drew hi ht hE)
  go_wp2_with fail
  refine wp_region_U [5] (fun w' : World => w'.cell? ⟨N + 2, 0, .none⟩ = some (.string ⟨#[]⟩) ∧ w'.cell? ⟨N + 2, 1, .none⟩ = some (.int .i64 0) ∧ w'.cell? ⟨N, 0, .none⟩ = some (.int .i64 3) ∧ w'.cell? ⟨N, 1, .none⟩ = some (.int .i64 n) ∧ w'.cell? ⟨N, 2, .none⟩ = some (.string nm) ∧ w'.cell? ⟨N, 3, .none⟩ = some (.string to)) (by kernel_rfl) ?_
  have hSd : (fun w' : World => w'.cell? ⟨N + 2, 0, .none⟩ = some (.string ⟨#[]⟩) ∧ w'.cell? ⟨N + 2, 1, .none⟩ = some (.int .i64 0) ∧ w'.cell? ⟨N, 0, .none⟩ = some (.int .i64 3) ∧ w'.cell? ⟨N, 1, .none⟩ = some (.int .i64 n) ∧ w'.cell? ⟨N, 2, .none⟩ = some (.string nm) ∧ w'.cell? ⟨N, 3, .none⟩ = some (.string to)) w2.drew := ⟨u0, u1, e0, e1, e2, e3⟩
  refine wpAnyU_take (i := 0) (v := ?_) rfl (by kernel_rfl) (by kernel_rfl) (by kernel_rfl) (by kernel_rfl) (by kernel_rfl) (by kernel_rfl) (fun _ _ _ h => h) (Or.inl ⟨by rfl, ?_⟩) (by assumption) ?_
  rotate_left
  · intro w hSw; obtain ⟨s1, s2, s3, s4, s5, s6⟩ := hSw; go_simp; try with_reducible rfl
  try simp only [Act.put]
  try simp only [List.setIfInBounds_toArray]
  try simp only [List.set_cons_succ]
  try simp only [List.set_cons_zero]
  refine wpAnyU_takeY (i := 1) (v := ?_) rfl (by kernel_rfl) (by kernel_rfl) (by kernel_rfl) (by kernel_rfl) (fun _ _ _ h => h) (Or.inl ⟨by rfl, ?_⟩) (by assumption) ?_
  rotate_left
  · intro w _; go_simp; try with_reducible rfl
  try simp only [Act.put]
  try simp only [List.setIfInBounds_toArray]
  try simp only [List.set_cons_succ]
  try simp only [List.set_cons_zero]
  refine wpAnyU_takeY (i := 2) (v := ?_) rfl (by kernel_rfl) (by kernel_rfl) (by kernel_rfl) (by kernel_rfl) (fun _ _ _ h => h) (Or.inl ⟨by rfl, ?_⟩) (by assumption) ?_
  rotate_left
  · intro w _; go_simp; try with_reducible rfl
  try simp only [Act.put]
  try simp only [List.setIfInBounds_toArray]
  try simp only [List.set_cons_succ]
  try simp only [List.set_cons_zero]
  refine wpAnyU_take (i := 3) (v := ?_) rfl (by kernel_rfl) (by kernel_rfl) (by kernel_rfl) (by kernel_rfl) (by kernel_rfl) (by kernel_rfl) (fun _ _ _ h => h) (Or.inl ⟨by rfl, ?_⟩) (by assumption) ?_
  rotate_left
  · intro w hSw; obtain ⟨s1, s2, s3, s4, s5, s6⟩ := hSw; go_simp; try with_reducible rfl
  try simp only [Act.put]
  try simp only [List.setIfInBounds_toArray]
  try simp only [List.set_cons_succ]
  try simp only [List.set_cons_zero]
  refine wpAnyU_ready (rs := [4]) (by kernel_rfl) (by simp) ?_
  refine AllReadyU.cons rfl (fun K hK => ?_) AllReadyU.nil
  go_simp
  refine HCL.out.mono ?_; rintro e w3 ⟨rfl, hw3⟩
  have HW3 := Lib.hid hw3
  clear hw3
  obtain ⟨v0, v1, -, -⟩ := HW3.out.told (N := N + 2) (nm := ⟨#[]⟩) (n := 0) (by simp)
  obtain ⟨x0, x1, xz0, xz1⟩ := HW3.out.told (N := N + 1) (nm := ⟨#[]⟩) (n := 0) (by simp)
  obtain ⟨y0, y1, y2, y3, -⟩ := HW3.out.deed (N := N) (k := 3) (n := n) (nm := nm) (to := to) (by simp)
  refine hK.out _ _ (fun _ => ⟨v0, v1, y0, y1, y2, y3⟩) ?_
  clear hK K
  try simp only [Act.put]
  try simp only [List.setIfInBounds_toArray]
  try simp only [List.set_cons_succ]
  try simp only [List.set_cons_zero]
  refine wpAnyU_ready (rs := [5]) (by kernel_rfl) (by simp) ?_
  refine AllReadyU.cons rfl (fun K hK => ?_) AllReadyU.nil
  go_simp
  refine hK.out _ _ (fun h => absurd h (by decide +kernel)) ?_
  clear hK K
  try simp only [Act.put]
  try simp only [List.setIfInBounds_toArray]
  try simp only [List.set_cons_succ]
  try simp only [List.set_cons_zero]
  refine wpAnyU_ready (rs := [6]) (by kernel_rfl) (by simp) ?_
  refine AllReadyU.cons rfl (fun K hK => ?_) AllReadyU.nil
  go_simp
  refine hK.out _ _ (fun h => absurd h (by decide +kernel)) ?_
  clear hK K
  try simp only [Act.put]
  try simp only [List.setIfInBounds_toArray]
  try simp only [List.set_cons_succ]
  try simp only [List.set_cons_zero]
  refine wpAnyU_done (by kernel_rfl) ?_ _
  go_wp2_with fail
  have h3 := Hw.setTold (nm' := ⟨#[]⟩) (n' := 0) HW3.out
  generalize (World.setCell (w3) ⟨N + 1, 0, none⟩ (.string ⟨#[]⟩)).setCell ⟨N + 1, 1, none⟩ (.int .i64 0) = WF at h3 ⊢
  obtain ⟨q0, q1, -, -⟩ := h3.told (N := N + 1) (nm := ⟨#[]⟩) (n := 0) List.mem_cons_self
  have h4 : ToldW w0 H (lendW s i n nm to) B ⟨#[]⟩ 0 (lendE s i n to) (.returned (.tuple #[.agg #[.string ⟨#[]⟩, .int .i64 0], .int .i64 (lendE s i n to)])) WF := ⟨rfl, h3.sub (List.sublist_append_right [_, _, _] B)⟩
  refine bodyPost_ret (v := .tuple #[.agg #[.string ⟨#[]⟩, .int .i64 0], .int .i64 (lendE s i n to)]) ?_ ?_ ?_
  rotate_left
  · rfl
  · exact h4
  simp [results, Try.results28, go_sem, q0, q1]
set_option maxRecDepth 100000 in
set_option maxHeartbeats 8000000 in
theorem halDo4 {w0 w : World} (H : Nat) (s : HSt) (B : List Big) (n : Int) (nm to : ByteArray) (h : Hw w0 w H s B) (hs : nm.size ≤ maxLen) (hn : namedB nm = true) (h8 : s.M.length ≤ 8) (i : Nat) (hfi : findM nm s.M = i) (hi : i < s.M.length) (ho : BOk ⟨s.M, s.L, 0⟩) (hL : s.L.length ≤ 90000000000000000) :
    Calls Try.prog 28 #[.pointer (some ⟨H, 0, .none⟩), .agg #[.int .i64 4, .int .i64 n, .string nm, .string to]] w (ToldW w0 H ⟨(backA nm s).M, (backA nm s).L⟩ B nm (backA nm s).t 0) := by
  obtain ⟨N, hN⟩ : ∃ N, w.heap.size = N := ⟨_, rfl⟩
  have HB := Lib.hid (doBox h 4 n nm to hN)
  obtain ⟨e0, e1, e2, e3, -⟩ := HB.out.deed (N := N) (k := 4) (n := n) (nm := nm) (to := to) (by simp)
  obtain ⟨t0, t1, tz0, tz1⟩ := HB.out.told (N := N + 1) (nm := ⟨#[]⟩) (n := 0) (by simp)
  obtain ⟨u0, u1, -, -⟩ := HB.out.told (N := N + 2) (nm := ⟨#[]⟩) (n := 0) (by simp)
  clear h
  have HCN := Lib.hid (halNamed nm (((w.alloc (.cells #[.int .i64 4, .int .i64 n, .string nm, .string to] 28)).alloc (.cells #[.string ⟨#[]⟩, .int .i64 0] 35)).alloc (.cells #[.string ⟨#[]⟩, .int .i64 0] 35)) hs)
  rw [hn] at HCN
  go_enter Try.func28, Try.ntmps28
  go_wp2_with fail
  refine HCN.out.mono ?_; rintro e w1 ⟨rfl, hf1⟩
  have HB1 := Lib.hid (HB.out.keep hf1.bel)
  obtain ⟨am, cm, c0, hS, hHl⟩ := HB1.out.hall
  obtain ⟨-, -, e2', -, -⟩ := HB1.out.deed (N := N) (k := 4) (n := n) (nm := nm) (to := to) (by simp)
  have HCF := Lib.hid (halFind s.M s.M.length am cm nm H _ hS rfl (by omega) c0 hHl)
  clear hf1 HB HCN e0 e1 e2 e3 t0 t1 tz0 tz1 u0 u1 hS hHl
  go_wp2_with fail
  refine HCF.out.mono ?_; rintro e w2 ⟨rfl, hf2⟩
  have HB2 := Lib.hid (HB1.out.keep hf2.bel)
  obtain ⟨t0, t1, tz0, tz1⟩ := HB2.out.told (N := N + 1) (nm := ⟨#[]⟩) (n := 0) (by simp)
  obtain ⟨u0, u1, -, -⟩ := HB2.out.told (N := N + 2) (nm := ⟨#[]⟩) (n := 0) (by simp)
  obtain ⟨e0, e1, e2, e3, -⟩ := HB2.out.deed (N := N) (k := 4) (n := n) (nm := nm) (to := to) (by simp)
  clear hf2 HCF e2' c0 HB1
  rw [show fiV nm s.M = (i : Int) by unfold fiV; rw [hfi, if_pos hi]]
  have d3 : decide ((i : Int) < 0) = false := decide_eq_false (by omega)
  go_wp2_with fail
  refine (halBack H s (eT (N + 1) ⟨#[]⟩ 0 :: eT (N + 2) ⟨#[]⟩ 0 :: eD N 4 n nm to :: B) nm HB2.out ho hL).mono ?_; rintro e w3 ⟨rfl, hw3⟩
  have HW3 := Lib.hid hw3
  obtain ⟨x0, x1, xz0, xz1⟩ := HW3.out.told (N := N + 1) (nm := ⟨#[]⟩) (n := 0) (by simp)
  clear hw3
  go_wp2_with fail
  have h3 := Hw.setTold (nm' := nm) (n' := (backA nm s).t) HW3.out
  generalize (World.setCell (w3) ⟨N + 1, 0, none⟩ (.string nm)).setCell ⟨N + 1, 1, none⟩ (.int .i64 (backA nm s).t) = WF at h3 ⊢
  obtain ⟨q0, q1, -, -⟩ := h3.told (N := N + 1) (nm := nm) (n := (backA nm s).t) List.mem_cons_self
  have h4 : ToldW w0 H ⟨(backA nm s).M, (backA nm s).L⟩ B nm (backA nm s).t 0 (.returned (.tuple #[.agg #[.string nm, .int .i64 (backA nm s).t], .int .i64 0])) WF := ⟨rfl, h3.sub (List.sublist_append_right [_, _, _] B)⟩
  refine bodyPost_ret (v := .tuple #[.agg #[.string nm, .int .i64 (backA nm s).t], .int .i64 0]) ?_ ?_ ?_
  rotate_left
  · rfl
  · exact h4
  simp [results, Try.results28, go_sem, q0, q1]
set_option maxRecDepth 100000 in
set_option maxHeartbeats 8000000 in
theorem halDo6 {w0 w : World} (H : Nat) (s : HSt) (B : List Big) (n : Int) (nm to : ByteArray) (h : Hw w0 w H s B) (hs : nm.size ≤ maxLen) (hn : namedB nm = true) (h8 : s.M.length ≤ 8) (i : Nat) (m : Mem) (hfi : findM nm s.M = i) (hi : i < s.M.length) (hm : s.M[i]? = some m) :
    Calls Try.prog 28 #[.pointer (some ⟨H, 0, .none⟩), .agg #[.int .i64 6, .int .i64 n, .string nm, .string to]] w (ToldW w0 H s B nm m.wn 0) := by
  obtain ⟨N, hN⟩ : ∃ N, w.heap.size = N := ⟨_, rfl⟩
  have HB := Lib.hid (doBox h 6 n nm to hN)
  obtain ⟨e0, e1, e2, e3, -⟩ := HB.out.deed (N := N) (k := 6) (n := n) (nm := nm) (to := to) (by simp)
  obtain ⟨t0, t1, tz0, tz1⟩ := HB.out.told (N := N + 1) (nm := ⟨#[]⟩) (n := 0) (by simp)
  obtain ⟨u0, u1, -, -⟩ := HB.out.told (N := N + 2) (nm := ⟨#[]⟩) (n := 0) (by simp)
  clear h
  have HCN := Lib.hid (halNamed nm (((w.alloc (.cells #[.int .i64 6, .int .i64 n, .string nm, .string to] 28)).alloc (.cells #[.string ⟨#[]⟩, .int .i64 0] 35)).alloc (.cells #[.string ⟨#[]⟩, .int .i64 0] 35)) hs)
  rw [hn] at HCN
  go_enter Try.func28, Try.ntmps28
  go_wp2_with fail
  refine HCN.out.mono ?_; rintro e w1 ⟨rfl, hf1⟩
  have HB1 := Lib.hid (HB.out.keep hf1.bel)
  obtain ⟨am, cm, c0, hS, hHl⟩ := HB1.out.hall
  obtain ⟨-, -, e2', -, -⟩ := HB1.out.deed (N := N) (k := 6) (n := n) (nm := nm) (to := to) (by simp)
  have HCF := Lib.hid (halFind s.M s.M.length am cm nm H _ hS rfl (by omega) c0 hHl)
  clear hf1 HB HCN e0 e1 e2 e3 t0 t1 tz0 tz1 u0 u1 hS hHl
  go_wp2_with fail
  refine HCF.out.mono ?_; rintro e w2 ⟨rfl, hf2⟩
  have HB2 := Lib.hid (HB1.out.keep hf2.bel)
  obtain ⟨t0, t1, tz0, tz1⟩ := HB2.out.told (N := N + 1) (nm := ⟨#[]⟩) (n := 0) (by simp)
  obtain ⟨u0, u1, -, -⟩ := HB2.out.told (N := N + 2) (nm := ⟨#[]⟩) (n := 0) (by simp)
  obtain ⟨e0, e1, e2, e3, -⟩ := HB2.out.deed (N := N) (k := 6) (n := n) (nm := nm) (to := to) (by simp)
  clear hf2 HCF e2' c0 HB1
  rw [show fiV nm s.M = (i : Int) by unfold fiV; rw [hfi, if_pos hi]]
  have d3 : decide ((i : Int) < 0) = false := decide_eq_false (by omega)
  obtain ⟨am', cm', al', cl', hf⟩ := HB2.out
  obtain ⟨c0, -, -, -, -⟩ := hf.hall (H := H) (vm := .slice am' s.M.length cm') (vl := .slice al' s.L.length cl') (by simp [hallE])
  obtain ⟨g, rfl, -, -, -, cw, -⟩ := hf.mem3 (ad := am') (cap := cm') (M := s.M) (by simp [hallE]) i _ hm
  have d5 : (0 : Int) ≤ (i : Int) := by omega
  have d6 : (i : Int) < (s.M.length : Int) := by omega
  clear hf
  go_wp2_with fail
  go_region
  go_wp2_with fail
  have h3 := Hw.setTold (nm' := nm) (n' := m.wn) HB2.out |>.drew
  generalize ((World.setCell (w2) ⟨N + 1, 0, none⟩ (.string nm)).setCell ⟨N + 1, 1, none⟩ (.int .i64 m.wn)).drew = WF at h3 ⊢
  obtain ⟨q0, q1, -, -⟩ := h3.told (N := N + 1) (nm := nm) (n := m.wn) List.mem_cons_self
  have h4 : ToldW w0 H s B nm m.wn 0 (.returned (.tuple #[.agg #[.string nm, .int .i64 m.wn], .int .i64 0])) WF := ⟨rfl, h3.sub (List.sublist_append_right [_, _, _] B)⟩
  refine bodyPost_ret (v := .tuple #[.agg #[.string nm, .int .i64 m.wn], .int .i64 0]) ?_ ?_ ?_
  rotate_left
  · rfl
  · exact h4
  simp [results, Try.results28, go_sem, q0, q1]
end Go.Proofs.Ytjplnkkcmkpkbaa
