/- Several of my texts in one: Hal15. -/
import Derived.Test.YtbolgfiafbhicaaDoorDF28
/- Do: draw. -/
namespace Go.Proofs.YtbolgfiafbhicaaDoor
open Go.RowKit

set_option maxRecDepth 100000 in
set_option maxHeartbeats 8000000 in
theorem halDo5y {w0 w : World} (H : Nat) (s : HSt) (B : List Big) (n : Int) (nm to : ByteArray) (h : Hw w0 w H s B) (h8 : TkOk (tksL s.M)) (i : Nat) (m : Mem) (hp : winW (tksL s.M) n = ((i : Int), 0)) (hm : s.M[i]? = some m) (hwn : 0 ≤ m.wn ∧ m.wn < 9223372036854775807) :
    Calls Tryd.prog 31 #[.pointer (some ⟨H, 0, .none⟩), .agg #[.int .i64 5, .int .i64 n, .string nm, .string to]] w (ToldW w0 H (setW s i ⟨m.nm, m.tk, m.wn + 1⟩) B m.nm (m.wn + 1) 0) := by
  obtain ⟨N, hN⟩ : ∃ N, w.heap.size = N := ⟨_, rfl⟩
  have HB := Lib.hid (doBox h 5 n nm to hN)
  obtain ⟨e0, e1, e2, e3, -⟩ := HB.out.deed (N := N) (k := 5) (n := n) (nm := nm) (to := to) (by simp)
  obtain ⟨t0, t1, tz0, tz1⟩ := HB.out.told (N := N + 1) (nm := ⟨#[]⟩) (n := 0) (by simp)
  obtain ⟨u0, u1, -, -⟩ := HB.out.told (N := N + 2) (nm := ⟨#[]⟩) (n := 0) (by simp)
  clear h
  have hl8 : s.M.length ≤ 8 := by have := h8.1; rw [tksL_len] at this; exact this
  go_enter Tryd.func31, Tryd.ntmps31
  go_wp2_with fail
  generalize hW : (((w.alloc (.cells #[.int .i64 5, .int .i64 n, .string nm, .string to] 68)).alloc (.cells #[.string ⟨#[]⟩, .int .i64 0] 71)).alloc (.cells #[.string ⟨#[]⟩, .int .i64 0] 71)) = W at *
  obtain ⟨am, cm, c0, hS, hHl⟩ := HB.out.hall
  have HKS : Hid (∀ w', Below W.drew.heap.size W.drew w' → w'.cell? ⟨N, 1, .none⟩ = some (.int .i64 n)) := Lib.hid fun w' hB => (hB.cell (p := ⟨N, 1, .none⟩) (by show N < W.heap.size; exact (HB.out.deed (N := N) (k := 5) (n := n) (nm := nm) (to := to) (by simp)).2.2.2.2)).trans e1
  refine wp_region_U [5] (fun w' : World => w'.cell? ⟨N, 1, .none⟩ = some (.int .i64 n)) (by kernel_rfl) ?_
  have hSd : (fun w' : World => w'.cell? ⟨N, 1, .none⟩ = some (.int .i64 n)) W.drew := e1
  refine wpAnyU_takeY (i := 0) (v := ?_) rfl (by kernel_rfl) (by kernel_rfl) (by kernel_rfl) (by kernel_rfl) (fun _ _ _ h => h) (Or.inl ⟨by rfl, ?_⟩) (by assumption) ?_
  rotate_left
  · intro w _; go_simp; try with_reducible rfl
  try simp only [Act.put]
  try simp only [List.setIfInBounds_toArray]
  try simp only [List.set_cons_succ]
  try simp only [List.set_cons_zero]
  refine wpAnyU_takeY (i := 1) (v := ?_) rfl (by kernel_rfl) (by kernel_rfl) (by kernel_rfl) (by kernel_rfl) (fun _ _ _ h => h) (Or.inl ⟨by rfl, ?_⟩) (by assumption) ?_
  rotate_left
  · intro w _; go_simp; try with_reducible rfl
  try simp only [Act.put]
  try simp only [List.setIfInBounds_toArray]
  try simp only [List.set_cons_succ]
  try simp only [List.set_cons_zero]
  refine wpAnyU_takeY (i := 3) (v := ?_) rfl (by kernel_rfl) (by kernel_rfl) (by kernel_rfl) (by kernel_rfl) (fun _ _ _ h => h) (Or.inl ⟨by rfl, ?_⟩) (by assumption) ?_
  rotate_left
  · intro w _; go_simp; try with_reducible rfl
  try simp only [Act.put]
  try simp only [List.setIfInBounds_toArray]
  try simp only [List.set_cons_succ]
  try simp only [List.set_cons_zero]
  refine wpAnyU_take (i := 4) (v := ?_) rfl (by kernel_rfl) (by kernel_rfl) (by kernel_rfl) (by kernel_rfl) (by kernel_rfl) (by kernel_rfl) (fun _ _ _ h => h) (Or.inl ⟨by rfl, ?_⟩) (by assumption) ?_
  rotate_left
  · intro w hSw; obtain s1 := hSw; go_simp; try with_reducible rfl
  try simp only [Act.put]
  try simp only [List.setIfInBounds_toArray]
  try simp only [List.set_cons_succ]
  try simp only [List.set_cons_zero]
  refine wpAnyU_ready (rs := [2]) (by kernel_rfl) (by simp) ?_
  refine AllReadyU.cons rfl (fun K hK => ?_) AllReadyU.nil
  go_simp
  refine (halTickets s.M s.M.length am cm H W.drew hS rfl (by omega) c0).mono ?_; rintro e w3 ⟨ad, cp, rfl, hcp, hf3⟩
  have HB3 := Lib.hid (HB.out.drew.call hf3)
  have HS3 := Lib.hid (hf3.get 0 rfl)
  have HBL3 := Lib.hid hf3.bel
  clear hf3
  refine hK.out _ _ (fun _ => HKS.out _ HBL3.out) ?_
  clear hK K
  try simp only [Act.put]
  try simp only [List.setIfInBounds_toArray]
  try simp only [List.set_cons_succ]
  try simp only [List.set_cons_zero]
  refine wpAnyU_ready (rs := [5]) (by kernel_rfl) (by simp) ?_
  refine AllReadyU.cons rfl (fun K hK => ?_) AllReadyU.nil
  go_simp
  refine (lotWinAny (tksL s.M) s.M.length ad cp n w3 HS3.out (tksL_len _) h8).mono ?_; rintro e w4 ⟨rfl, hw4⟩
  subst hw4
  rw [hp]
  refine hK.out _ _ (fun h => absurd h (by decide +kernel)) ?_
  clear hK K
  refine wpAnyU_takeW (i := 6) (v := ?_) rfl (by kernel_rfl) (by kernel_rfl) (by kernel_rfl) (by kernel_rfl) (fun _ _ _ h => h) (Or.inl ⟨by rfl, ?_⟩) ?_
  rotate_left
  · intro w _; go_simp; try with_reducible rfl
  try simp only [Act.put]
  try simp only [List.setIfInBounds_toArray]
  try simp only [List.set_cons_succ]
  try simp only [List.set_cons_zero]
  refine wpAnyU_takeW (i := 7) (v := ?_) rfl (by kernel_rfl) (by kernel_rfl) (by kernel_rfl) (by kernel_rfl) (fun _ _ _ h => h) (Or.inl ⟨by rfl, ?_⟩) ?_
  rotate_left
  · intro w _; go_simp; try with_reducible rfl
  try simp only [Act.put]
  try simp only [List.setIfInBounds_toArray]
  try simp only [List.set_cons_succ]
  try simp only [List.set_cons_zero]
  refine wpAnyU_ready (rs := [8]) (by kernel_rfl) (by simp) ?_
  refine AllReadyU.cons rfl (fun K hK => ?_) AllReadyU.nil
  go_simp
  refine (halWon H s _ i m HB3.out hm hwn).mono ?_; rintro e w5 ⟨rfl, hw5⟩
  have HW5 := Lib.hid hw5
  clear hw5
  obtain ⟨x0, x1, xz0, xz1⟩ := HW5.out.told (N := N + 1) (nm := ⟨#[]⟩) (n := 0) (by simp)
  refine hK.out _ _ (fun h => absurd h (by decide +kernel)) ?_
  clear hK K
  try simp only [Act.put]
  try simp only [List.setIfInBounds_toArray]
  try simp only [List.set_cons_succ]
  try simp only [List.set_cons_zero]
  refine wpAnyU_takeW (i := 9) (v := ?_) rfl (by kernel_rfl) (by kernel_rfl) (by kernel_rfl) (by kernel_rfl) (fun _ _ _ h => h) (Or.inl ⟨by rfl, ?_⟩) ?_
  rotate_left
  · intro w _; go_simp; try with_reducible rfl
  try simp only [Act.put]
  try simp only [List.setIfInBounds_toArray]
  try simp only [List.set_cons_succ]
  try simp only [List.set_cons_zero]
  refine wpAnyU_takeW (i := 10) (v := ?_) rfl (by kernel_rfl) (by kernel_rfl) (by kernel_rfl) (by kernel_rfl) (fun _ _ _ h => h) (Or.inl ⟨by rfl, ?_⟩) ?_
  rotate_left
  · intro w _; go_simp; try with_reducible rfl
  try simp only [Act.put]
  try simp only [List.setIfInBounds_toArray]
  try simp only [List.set_cons_succ]
  try simp only [List.set_cons_zero]
  refine wpAnyU_ready (rs := [11]) (by kernel_rfl) (by simp) ?_
  refine AllReadyU.cons rfl (fun K hK => ?_) AllReadyU.nil
  go_simp
  refine hK.out _ _ (fun h => absurd h (by decide +kernel)) ?_
  clear hK K
  try simp only [Act.put]
  try simp only [List.setIfInBounds_toArray]
  try simp only [List.set_cons_succ]
  try simp only [List.set_cons_zero]
  refine wpAnyU_ready (rs := [12]) (by kernel_rfl) (by simp) ?_
  refine AllReadyU.cons rfl (fun K hK => ?_) AllReadyU.nil
  go_simp
  refine hK.out _ _ (fun h => absurd h (by decide +kernel)) ?_
  clear hK K
  try simp only [Act.put]
  try simp only [List.setIfInBounds_toArray]
  try simp only [List.set_cons_succ]
  try simp only [List.set_cons_zero]
  refine wpAnyU_done (by kernel_rfl) ?_ _
  go_wp2_with fail
  have hw6 := HW5.out.perm (List.Perm.swap _ _ _)
  have h3 := Hw.setTold (nm' := m.nm) (n' := (m.wn + 1)) hw6
  generalize (World.setCell (w5) ⟨N + 1, 0, none⟩ (.string m.nm)).setCell ⟨N + 1, 1, none⟩ (.int .i64 (m.wn + 1)) = WF at h3 ⊢
  obtain ⟨q0, q1, -, -⟩ := h3.told (N := N + 1) (nm := m.nm) (n := (m.wn + 1)) List.mem_cons_self
  have h4 : ToldW w0 H (setW s i ⟨m.nm, m.tk, m.wn + 1⟩) B m.nm (m.wn + 1) 0 (.returned (.tuple #[.agg #[.string m.nm, .int .i64 (m.wn + 1)], .int .i64 0])) WF := ⟨rfl, h3.sub (List.sublist_append_right [_, _, _, _] B)⟩
  refine bodyPost_ret (v := .tuple #[.agg #[.string m.nm, .int .i64 (m.wn + 1)], .int .i64 0]) ?_ ?_ ?_
  rotate_left
  · rfl
  · exact h4
  simp [results, Tryd.results31, go_sem, q0, q1]
set_option maxRecDepth 100000 in
set_option maxHeartbeats 8000000 in
theorem halDo5n {w0 w : World} (H : Nat) (s : HSt) (B : List Big) (n : Int) (nm to : ByteArray) (h : Hw w0 w H s B) (h8 : TkOk (tksL s.M)) (q er : Int) (hp : winW (tksL s.M) n = (q, er)) (he : er ≠ 0) :
    Calls Tryd.prog 31 #[.pointer (some ⟨H, 0, .none⟩), .agg #[.int .i64 5, .int .i64 n, .string nm, .string to]] w (ToldW w0 H s B ⟨#[]⟩ 0 er) := by
  obtain ⟨N, hN⟩ : ∃ N, w.heap.size = N := ⟨_, rfl⟩
  have HB := Lib.hid (doBox h 5 n nm to hN)
  obtain ⟨e0, e1, e2, e3, -⟩ := HB.out.deed (N := N) (k := 5) (n := n) (nm := nm) (to := to) (by simp)
  obtain ⟨t0, t1, tz0, tz1⟩ := HB.out.told (N := N + 1) (nm := ⟨#[]⟩) (n := 0) (by simp)
  obtain ⟨u0, u1, -, -⟩ := HB.out.told (N := N + 2) (nm := ⟨#[]⟩) (n := 0) (by simp)
  clear h
  have hl8 : s.M.length ≤ 8 := by have := h8.1; rw [tksL_len] at this; exact this
  go_enter Tryd.func31, Tryd.ntmps31
  go_wp2_with fail
  generalize hW : (((w.alloc (.cells #[.int .i64 5, .int .i64 n, .string nm, .string to] 68)).alloc (.cells #[.string ⟨#[]⟩, .int .i64 0] 71)).alloc (.cells #[.string ⟨#[]⟩, .int .i64 0] 71)) = W at *
  obtain ⟨am, cm, c0, hS, hHl⟩ := HB.out.hall
  have HKS : Hid (∀ w', Below W.drew.heap.size W.drew w' → w'.cell? ⟨N, 1, .none⟩ = some (.int .i64 n)) := Lib.hid fun w' hB => (hB.cell (p := ⟨N, 1, .none⟩) (by show N < W.heap.size; exact (HB.out.deed (N := N) (k := 5) (n := n) (nm := nm) (to := to) (by simp)).2.2.2.2)).trans e1
  refine wp_region_U [5] (fun w' : World => w'.cell? ⟨N, 1, .none⟩ = some (.int .i64 n)) (by kernel_rfl) ?_
  have hSd : (fun w' : World => w'.cell? ⟨N, 1, .none⟩ = some (.int .i64 n)) W.drew := e1
  refine wpAnyU_takeY (i := 0) (v := ?_) rfl (by kernel_rfl) (by kernel_rfl) (by kernel_rfl) (by kernel_rfl) (fun _ _ _ h => h) (Or.inl ⟨by rfl, ?_⟩) (by assumption) ?_
  rotate_left
  · intro w _; go_simp; try with_reducible rfl
  try simp only [Act.put]
  try simp only [List.setIfInBounds_toArray]
  try simp only [List.set_cons_succ]
  try simp only [List.set_cons_zero]
  refine wpAnyU_takeY (i := 1) (v := ?_) rfl (by kernel_rfl) (by kernel_rfl) (by kernel_rfl) (by kernel_rfl) (fun _ _ _ h => h) (Or.inl ⟨by rfl, ?_⟩) (by assumption) ?_
  rotate_left
  · intro w _; go_simp; try with_reducible rfl
  try simp only [Act.put]
  try simp only [List.setIfInBounds_toArray]
  try simp only [List.set_cons_succ]
  try simp only [List.set_cons_zero]
  refine wpAnyU_takeY (i := 3) (v := ?_) rfl (by kernel_rfl) (by kernel_rfl) (by kernel_rfl) (by kernel_rfl) (fun _ _ _ h => h) (Or.inl ⟨by rfl, ?_⟩) (by assumption) ?_
  rotate_left
  · intro w _; go_simp; try with_reducible rfl
  try simp only [Act.put]
  try simp only [List.setIfInBounds_toArray]
  try simp only [List.set_cons_succ]
  try simp only [List.set_cons_zero]
  refine wpAnyU_take (i := 4) (v := ?_) rfl (by kernel_rfl) (by kernel_rfl) (by kernel_rfl) (by kernel_rfl) (by kernel_rfl) (by kernel_rfl) (fun _ _ _ h => h) (Or.inl ⟨by rfl, ?_⟩) (by assumption) ?_
  rotate_left
  · intro w hSw; obtain s1 := hSw; go_simp; try with_reducible rfl
  try simp only [Act.put]
  try simp only [List.setIfInBounds_toArray]
  try simp only [List.set_cons_succ]
  try simp only [List.set_cons_zero]
  refine wpAnyU_ready (rs := [2]) (by kernel_rfl) (by simp) ?_
  refine AllReadyU.cons rfl (fun K hK => ?_) AllReadyU.nil
  go_simp
  refine (halTickets s.M s.M.length am cm H W.drew hS rfl (by omega) c0).mono ?_; rintro e w3 ⟨ad, cp, rfl, hcp, hf3⟩
  have HB3 := Lib.hid (HB.out.drew.call hf3)
  have HS3 := Lib.hid (hf3.get 0 rfl)
  have HBL3 := Lib.hid hf3.bel
  clear hf3
  refine hK.out _ _ (fun _ => HKS.out _ HBL3.out) ?_
  clear hK K
  try simp only [Act.put]
  try simp only [List.setIfInBounds_toArray]
  try simp only [List.set_cons_succ]
  try simp only [List.set_cons_zero]
  refine wpAnyU_ready (rs := [5]) (by kernel_rfl) (by simp) ?_
  refine AllReadyU.cons rfl (fun K hK => ?_) AllReadyU.nil
  go_simp
  refine (lotWinAny (tksL s.M) s.M.length ad cp n w3 HS3.out (tksL_len _) h8).mono ?_; rintro e w4 ⟨rfl, hw4⟩
  subst hw4
  rw [hp]
  refine hK.out _ _ (fun h => absurd h (by decide +kernel)) ?_
  clear hK K
  refine wpAnyU_takeW (i := 6) (v := ?_) rfl (by kernel_rfl) (by kernel_rfl) (by kernel_rfl) (by kernel_rfl) (fun _ _ _ h => h) (Or.inl ⟨by rfl, ?_⟩) ?_
  rotate_left
  · intro w _; go_simp; try with_reducible rfl
  try simp only [Act.put]
  try simp only [List.setIfInBounds_toArray]
  try simp only [List.set_cons_succ]
  try simp only [List.set_cons_zero]
  refine wpAnyU_takeW (i := 7) (v := ?_) rfl (by kernel_rfl) (by kernel_rfl) (by kernel_rfl) (by kernel_rfl) (fun _ _ _ h => h) (Or.inl ⟨by rfl, ?_⟩) ?_
  rotate_left
  · intro w _; go_simp; try with_reducible rfl
  try simp only [Act.put]
  try simp only [List.setIfInBounds_toArray]
  try simp only [List.set_cons_succ]
  try simp only [List.set_cons_zero]
  refine wpAnyU_ready (rs := [8]) (by kernel_rfl) (by simp) ?_
  refine AllReadyU.cons rfl (fun K hK => ?_) AllReadyU.nil
  go_simp
  refine (halWonE H s _ q er HB3.out he).mono ?_; rintro e w5 ⟨rfl, hw5⟩
  have HW5 := Lib.hid hw5
  clear hw5
  obtain ⟨x0, x1, xz0, xz1⟩ := HW5.out.told (N := N + 1) (nm := ⟨#[]⟩) (n := 0) (by simp)
  refine hK.out _ _ (fun h => absurd h (by decide +kernel)) ?_
  clear hK K
  try simp only [Act.put]
  try simp only [List.setIfInBounds_toArray]
  try simp only [List.set_cons_succ]
  try simp only [List.set_cons_zero]
  refine wpAnyU_takeW (i := 9) (v := ?_) rfl (by kernel_rfl) (by kernel_rfl) (by kernel_rfl) (by kernel_rfl) (fun _ _ _ h => h) (Or.inl ⟨by rfl, ?_⟩) ?_
  rotate_left
  · intro w _; go_simp; try with_reducible rfl
  try simp only [Act.put]
  try simp only [List.setIfInBounds_toArray]
  try simp only [List.set_cons_succ]
  try simp only [List.set_cons_zero]
  refine wpAnyU_takeW (i := 10) (v := ?_) rfl (by kernel_rfl) (by kernel_rfl) (by kernel_rfl) (by kernel_rfl) (fun _ _ _ h => h) (Or.inl ⟨by rfl, ?_⟩) ?_
  rotate_left
  · intro w _; go_simp; try with_reducible rfl
  try simp only [Act.put]
  try simp only [List.setIfInBounds_toArray]
  try simp only [List.set_cons_succ]
  try simp only [List.set_cons_zero]
  refine wpAnyU_ready (rs := [11]) (by kernel_rfl) (by simp) ?_
  refine AllReadyU.cons rfl (fun K hK => ?_) AllReadyU.nil
  go_simp
  refine hK.out _ _ (fun h => absurd h (by decide +kernel)) ?_
  clear hK K
  try simp only [Act.put]
  try simp only [List.setIfInBounds_toArray]
  try simp only [List.set_cons_succ]
  try simp only [List.set_cons_zero]
  refine wpAnyU_ready (rs := [12]) (by kernel_rfl) (by simp) ?_
  refine AllReadyU.cons rfl (fun K hK => ?_) AllReadyU.nil
  go_simp
  refine hK.out _ _ (fun h => absurd h (by decide +kernel)) ?_
  clear hK K
  try simp only [Act.put]
  try simp only [List.setIfInBounds_toArray]
  try simp only [List.set_cons_succ]
  try simp only [List.set_cons_zero]
  refine wpAnyU_done (by kernel_rfl) ?_ _
  go_wp2_with fail
  have hw6 := HW5.out.perm (List.Perm.swap _ _ _)
  have h3 := Hw.setTold (nm' := ⟨#[]⟩) (n' := 0) hw6
  generalize (World.setCell (w5) ⟨N + 1, 0, none⟩ (.string ⟨#[]⟩)).setCell ⟨N + 1, 1, none⟩ (.int .i64 0) = WF at h3 ⊢
  obtain ⟨q0, q1, -, -⟩ := h3.told (N := N + 1) (nm := ⟨#[]⟩) (n := 0) List.mem_cons_self
  have h4 : ToldW w0 H s B ⟨#[]⟩ 0 er (.returned (.tuple #[.agg #[.string ⟨#[]⟩, .int .i64 0], .int .i64 er])) WF := ⟨rfl, h3.sub (List.sublist_append_right [_, _, _, _] B)⟩
  refine bodyPost_ret (v := .tuple #[.agg #[.string ⟨#[]⟩, .int .i64 0], .int .i64 er]) ?_ ?_ ?_
  rotate_left
  · rfl
  · exact h4
  simp [results, Tryd.results31, go_sem, q0, q1]
end Go.Proofs.YtbolgfiafbhicaaDoor
