/- Several of my texts in one: Hal13. -/
import Derived.Test.YtjplnkkcmkpkbaaMA41
set_option linter.unusedSimpArgs false
set_option linter.unusedVariables false
/- Do, where nothing is done. -/
namespace Go.Proofs.Ytjplnkkcmkpkbaa
open Go.RowKit

set_option maxRecDepth 100000 in
set_option maxHeartbeats 8000000 in
theorem halDoX {w0 w : World} (H : Nat) (s : HSt) (B : List Big) (k n : Int) (nm to : ByteArray) (h : Hw w0 w H s B) (hk : k ≠ 5 ∧ k ≠ 7 ∧ k ≠ 1 ∧ k ≠ 2 ∧ k ≠ 3 ∧ k ≠ 4 ∧ k ≠ 6) :
    Calls Try.prog 28 #[.pointer (some ⟨H, 0, .none⟩), .agg #[.int .i64 k, .int .i64 n, .string nm, .string to]] w (ToldW w0 H s B ⟨#[]⟩ 0 1) := by
  obtain ⟨N, hN⟩ : ∃ N, w.heap.size = N := ⟨_, rfl⟩
  have HB := Lib.hid (doBox h k n nm to hN)
  obtain ⟨e0, e1, e2, e3, -⟩ := HB.out.deed (N := N) (k := k) (n := n) (nm := nm) (to := to) (by simp)
  obtain ⟨t0, t1, tz0, tz1⟩ := HB.out.told (N := N + 1) (nm := ⟨#[]⟩) (n := 0) (by simp)
  obtain ⟨u0, u1, -, -⟩ := HB.out.told (N := N + 2) (nm := ⟨#[]⟩) (n := 0) (by simp)
  clear h
  have k5 : (k == 5) = false := by rw [beq_eq_false_iff_ne]; omega
  have k7 : (k == 7) = false := by rw [beq_eq_false_iff_ne]; omega
  have k1 : (k == 1) = false := by rw [beq_eq_false_iff_ne]; omega
  have k2 : (k == 2) = false := by rw [beq_eq_false_iff_ne]; omega
  have k3 : (k == 3) = false := by rw [beq_eq_false_iff_ne]; omega
  have k4 : (k == 4) = false := by rw [beq_eq_false_iff_ne]; omega
  have k6 : (k == 6) = false := by rw [beq_eq_false_iff_ne]; omega
  clear hk
  go_enter Try.func28, Try.ntmps28
  go_wp2_with fail
  have h3 := HB.out
  generalize (((w.alloc (.cells #[.int .i64 k, .int .i64 n, .string nm, .string to] 28)).alloc (.cells #[.string ⟨#[]⟩, .int .i64 0] 35)).alloc (.cells #[.string ⟨#[]⟩, .int .i64 0] 35)) = WF at h3 ⊢
  obtain ⟨q0, q1, -, -⟩ := h3.told (N := N + 1) (nm := ⟨#[]⟩) (n := 0) List.mem_cons_self
  have h4 : ToldW w0 H s B ⟨#[]⟩ 0 1 (.returned (.tuple #[.agg #[.string ⟨#[]⟩, .int .i64 0], .int .i64 1])) WF := ⟨rfl, h3.sub (List.sublist_append_right [_, _, _] B)⟩
  refine bodyPost_ret (v := .tuple #[.agg #[.string ⟨#[]⟩, .int .i64 0], .int .i64 1]) ?_ ?_ ?_
  rotate_left
  · rfl
  · exact h4
  simp [results, Try.results28, go_sem, q0, q1]
set_option maxRecDepth 100000 in
set_option maxHeartbeats 8000000 in
theorem halDoN1 {w0 w : World} (H : Nat) (s : HSt) (B : List Big) (n : Int) (nm to : ByteArray) (h : Hw w0 w H s B) (hs : nm.size ≤ maxLen) (hn : namedB nm = false) :
    Calls Try.prog 28 #[.pointer (some ⟨H, 0, .none⟩), .agg #[.int .i64 1, .int .i64 n, .string nm, .string to]] w (ToldW w0 H s B ⟨#[]⟩ 0 3) := by
  obtain ⟨N, hN⟩ : ∃ N, w.heap.size = N := ⟨_, rfl⟩
  have HB := Lib.hid (doBox h 1 n nm to hN)
  obtain ⟨e0, e1, e2, e3, -⟩ := HB.out.deed (N := N) (k := 1) (n := n) (nm := nm) (to := to) (by simp)
  obtain ⟨t0, t1, tz0, tz1⟩ := HB.out.told (N := N + 1) (nm := ⟨#[]⟩) (n := 0) (by simp)
  obtain ⟨u0, u1, -, -⟩ := HB.out.told (N := N + 2) (nm := ⟨#[]⟩) (n := 0) (by simp)
  clear h
  have HCN := Lib.hid (halNamed nm (((w.alloc (.cells #[.int .i64 1, .int .i64 n, .string nm, .string to] 28)).alloc (.cells #[.string ⟨#[]⟩, .int .i64 0] 35)).alloc (.cells #[.string ⟨#[]⟩, .int .i64 0] 35)) hs)
  rw [hn] at HCN
  go_enter Try.func28, Try.ntmps28
  go_wp2_with fail
  refine HCN.out.mono ?_; rintro e w2 ⟨rfl, hf2⟩
  have HB2 := Lib.hid (HB.out.keep hf2.bel)
  obtain ⟨t0', t1', tz0', tz1'⟩ := HB2.out.told (N := N + 1) (nm := ⟨#[]⟩) (n := 0) (by simp)
  obtain ⟨u0', u1', -, -⟩ := HB2.out.told (N := N + 2) (nm := ⟨#[]⟩) (n := 0) (by simp)
  clear hf2 HB HCN e0 e1 e2 e3 t0 t1 tz0 tz1 u0 u1
  go_wp2_with fail
  have h3 := Hw.setTold (nm' := ⟨#[]⟩) (n' := 0) HB2.out
  generalize (World.setCell (w2) ⟨N + 1, 0, none⟩ (.string ⟨#[]⟩)).setCell ⟨N + 1, 1, none⟩ (.int .i64 0) = WF at h3 ⊢
  obtain ⟨q0, q1, -, -⟩ := h3.told (N := N + 1) (nm := ⟨#[]⟩) (n := 0) List.mem_cons_self
  have h4 : ToldW w0 H s B ⟨#[]⟩ 0 3 (.returned (.tuple #[.agg #[.string ⟨#[]⟩, .int .i64 0], .int .i64 3])) WF := ⟨rfl, h3.sub (List.sublist_append_right [_, _, _] B)⟩
  refine bodyPost_ret (v := .tuple #[.agg #[.string ⟨#[]⟩, .int .i64 0], .int .i64 3]) ?_ ?_ ?_
  rotate_left
  · rfl
  · exact h4
  simp [results, Try.results28, go_sem, q0, q1]
set_option maxRecDepth 100000 in
set_option maxHeartbeats 8000000 in
theorem halDoN2 {w0 w : World} (H : Nat) (s : HSt) (B : List Big) (n : Int) (nm to : ByteArray) (h : Hw w0 w H s B) (hs : nm.size ≤ maxLen) (hn : namedB nm = false) :
    Calls Try.prog 28 #[.pointer (some ⟨H, 0, .none⟩), .agg #[.int .i64 2, .int .i64 n, .string nm, .string to]] w (ToldW w0 H s B ⟨#[]⟩ 0 3) := by
  obtain ⟨N, hN⟩ : ∃ N, w.heap.size = N := ⟨_, rfl⟩
  have HB := Lib.hid (doBox h 2 n nm to hN)
  obtain ⟨e0, e1, e2, e3, -⟩ := HB.out.deed (N := N) (k := 2) (n := n) (nm := nm) (to := to) (by simp)
  obtain ⟨t0, t1, tz0, tz1⟩ := HB.out.told (N := N + 1) (nm := ⟨#[]⟩) (n := 0) (by simp)
  obtain ⟨u0, u1, -, -⟩ := HB.out.told (N := N + 2) (nm := ⟨#[]⟩) (n := 0) (by simp)
  clear h
  have HCN := Lib.hid (halNamed nm (((w.alloc (.cells #[.int .i64 2, .int .i64 n, .string nm, .string to] 28)).alloc (.cells #[.string ⟨#[]⟩, .int .i64 0] 35)).alloc (.cells #[.string ⟨#[]⟩, .int .i64 0] 35)) hs)
  rw [hn] at HCN
  go_enter Try.func28, Try.ntmps28
  go_wp2_with fail
  refine HCN.out.mono ?_; rintro e w2 ⟨rfl, hf2⟩
  have HB2 := Lib.hid (HB.out.keep hf2.bel)
  obtain ⟨t0', t1', tz0', tz1'⟩ := HB2.out.told (N := N + 1) (nm := ⟨#[]⟩) (n := 0) (by simp)
  obtain ⟨u0', u1', -, -⟩ := HB2.out.told (N := N + 2) (nm := ⟨#[]⟩) (n := 0) (by simp)
  clear hf2 HB HCN e0 e1 e2 e3 t0 t1 tz0 tz1 u0 u1
  go_wp2_with fail
  have h3 := Hw.setTold (nm' := ⟨#[]⟩) (n' := 0) HB2.out
  generalize (World.setCell (w2) ⟨N + 1, 0, none⟩ (.string ⟨#[]⟩)).setCell ⟨N + 1, 1, none⟩ (.int .i64 0) = WF at h3 ⊢
  obtain ⟨q0, q1, -, -⟩ := h3.told (N := N + 1) (nm := ⟨#[]⟩) (n := 0) List.mem_cons_self
  have h4 : ToldW w0 H s B ⟨#[]⟩ 0 3 (.returned (.tuple #[.agg #[.string ⟨#[]⟩, .int .i64 0], .int .i64 3])) WF := ⟨rfl, h3.sub (List.sublist_append_right [_, _, _] B)⟩
  refine bodyPost_ret (v := .tuple #[.agg #[.string ⟨#[]⟩, .int .i64 0], .int .i64 3]) ?_ ?_ ?_
  rotate_left
  · rfl
  · exact h4
  simp [results, Try.results28, go_sem, q0, q1]
set_option maxRecDepth 100000 in
set_option maxHeartbeats 8000000 in
theorem halDoN3 {w0 w : World} (H : Nat) (s : HSt) (B : List Big) (n : Int) (nm to : ByteArray) (h : Hw w0 w H s B) (hs : nm.size ≤ maxLen) (hn : namedB nm = false) :
    Calls Try.prog 28 #[.pointer (some ⟨H, 0, .none⟩), .agg #[.int .i64 3, .int .i64 n, .string nm, .string to]] w (ToldW w0 H s B ⟨#[]⟩ 0 3) := by
  obtain ⟨N, hN⟩ : ∃ N, w.heap.size = N := ⟨_, rfl⟩
  have HB := Lib.hid (doBox h 3 n nm to hN)
  obtain ⟨e0, e1, e2, e3, -⟩ := HB.out.deed (N := N) (k := 3) (n := n) (nm := nm) (to := to) (by simp)
  obtain ⟨t0, t1, tz0, tz1⟩ := HB.out.told (N := N + 1) (nm := ⟨#[]⟩) (n := 0) (by simp)
  obtain ⟨u0, u1, -, -⟩ := HB.out.told (N := N + 2) (nm := ⟨#[]⟩) (n := 0) (by simp)
  clear h
  have HCN := Lib.hid (halNamed nm (((w.alloc (.cells #[.int .i64 3, .int .i64 n, .string nm, .string to] 28)).alloc (.cells #[.string ⟨#[]⟩, .int .i64 0] 35)).alloc (.cells #[.string ⟨#[]⟩, .int .i64 0] 35)) hs)
  rw [hn] at HCN
  go_enter Try.func28, Try.ntmps28
  go_wp2_with fail
  refine HCN.out.mono ?_; rintro e w2 ⟨rfl, hf2⟩
  have HB2 := Lib.hid (HB.out.keep hf2.bel)
  obtain ⟨t0', t1', tz0', tz1'⟩ := HB2.out.told (N := N + 1) (nm := ⟨#[]⟩) (n := 0) (by simp)
  obtain ⟨u0', u1', -, -⟩ := HB2.out.told (N := N + 2) (nm := ⟨#[]⟩) (n := 0) (by simp)
  clear hf2 HB HCN e0 e1 e2 e3 t0 t1 tz0 tz1 u0 u1
  go_wp2_with fail
  have h3 := Hw.setTold (nm' := ⟨#[]⟩) (n' := 0) HB2.out
  generalize (World.setCell (w2) ⟨N + 1, 0, none⟩ (.string ⟨#[]⟩)).setCell ⟨N + 1, 1, none⟩ (.int .i64 0) = WF at h3 ⊢
  obtain ⟨q0, q1, -, -⟩ := h3.told (N := N + 1) (nm := ⟨#[]⟩) (n := 0) List.mem_cons_self
  have h4 : ToldW w0 H s B ⟨#[]⟩ 0 3 (.returned (.tuple #[.agg #[.string ⟨#[]⟩, .int .i64 0], .int .i64 3])) WF := ⟨rfl, h3.sub (List.sublist_append_right [_, _, _] B)⟩
  refine bodyPost_ret (v := .tuple #[.agg #[.string ⟨#[]⟩, .int .i64 0], .int .i64 3]) ?_ ?_ ?_
  rotate_left
  · rfl
  · exact h4
  simp [results, Try.results28, go_sem, q0, q1]
set_option maxRecDepth 100000 in
set_option maxHeartbeats 8000000 in
theorem halDoN4 {w0 w : World} (H : Nat) (s : HSt) (B : List Big) (n : Int) (nm to : ByteArray) (h : Hw w0 w H s B) (hs : nm.size ≤ maxLen) (hn : namedB nm = false) :
    Calls Try.prog 28 #[.pointer (some ⟨H, 0, .none⟩), .agg #[.int .i64 4, .int .i64 n, .string nm, .string to]] w (ToldW w0 H s B ⟨#[]⟩ 0 3) := by
  obtain ⟨N, hN⟩ : ∃ N, w.heap.size = N := ⟨_, rfl⟩
  have HB := Lib.hid (doBox h 4 n nm to hN)
  obtain ⟨e0, e1, e2, e3, -⟩ := HB.out.deed (N := N) (k := 4) (n := n) (nm := nm) (to := to) (by simp)
  obtain ⟨t0, t1, tz0, tz1⟩ := HB.out.told (N := N + 1) (nm := ⟨#[]⟩) (n := 0) (by simp)
  obtain ⟨u0, u1, -, -⟩ := HB.out.told (N := N + 2) (nm := ⟨#[]⟩) (n := 0) (by simp)
  clear h
  have HCN := Lib.hid (halNamed nm (((w.alloc (.cells #[.int .i64 4, .int .i64 n, .string nm, .string to] 28)).alloc (.cells #[.string ⟨#[]⟩, .int .i64 0] 35)).alloc (.cells #[.string ⟨#[]⟩, .int .i64 0] 35)) hs)
  rw [hn] at HCN
  go_enter Try.func28, Try.ntmps28
  go_wp2_with fail
  refine HCN.out.mono ?_; rintro e w2 ⟨rfl, hf2⟩
  have HB2 := Lib.hid (HB.out.keep hf2.bel)
  obtain ⟨t0', t1', tz0', tz1'⟩ := HB2.out.told (N := N + 1) (nm := ⟨#[]⟩) (n := 0) (by simp)
  obtain ⟨u0', u1', -, -⟩ := HB2.out.told (N := N + 2) (nm := ⟨#[]⟩) (n := 0) (by simp)
  clear hf2 HB HCN e0 e1 e2 e3 t0 t1 tz0 tz1 u0 u1
  go_wp2_with fail
  have h3 := Hw.setTold (nm' := ⟨#[]⟩) (n' := 0) HB2.out
  generalize (World.setCell (w2) ⟨N + 1, 0, none⟩ (.string ⟨#[]⟩)).setCell ⟨N + 1, 1, none⟩ (.int .i64 0) = WF at h3 ⊢
  obtain ⟨q0, q1, -, -⟩ := h3.told (N := N + 1) (nm := ⟨#[]⟩) (n := 0) List.mem_cons_self
  have h4 : ToldW w0 H s B ⟨#[]⟩ 0 3 (.returned (.tuple #[.agg #[.string ⟨#[]⟩, .int .i64 0], .int .i64 3])) WF := ⟨rfl, h3.sub (List.sublist_append_right [_, _, _] B)⟩
  refine bodyPost_ret (v := .tuple #[.agg #[.string ⟨#[]⟩, .int .i64 0], .int .i64 3]) ?_ ?_ ?_
  rotate_left
  · rfl
  · exact h4
  simp [results, Try.results28, go_sem, q0, q1]
set_option maxRecDepth 100000 in
set_option maxHeartbeats 8000000 in
theorem halDoN6 {w0 w : World} (H : Nat) (s : HSt) (B : List Big) (n : Int) (nm to : ByteArray) (h : Hw w0 w H s B) (hs : nm.size ≤ maxLen) (hn : namedB nm = false) :
    Calls Try.prog 28 #[.pointer (some ⟨H, 0, .none⟩), .agg #[.int .i64 6, .int .i64 n, .string nm, .string to]] w (ToldW w0 H s B ⟨#[]⟩ 0 3) := by
  obtain ⟨N, hN⟩ : ∃ N, w.heap.size = N := ⟨_, rfl⟩
  have HB := Lib.hid (doBox h 6 n nm to hN)
  obtain ⟨e0, e1, e2, e3, -⟩ := HB.out.deed (N := N) (k := 6) (n := n) (nm := nm) (to := to) (by simp)
  obtain ⟨t0, t1, tz0, tz1⟩ := HB.out.told (N := N + 1) (nm := ⟨#[]⟩) (n := 0) (by simp)
  obtain ⟨u0, u1, -, -⟩ := HB.out.told (N := N + 2) (nm := ⟨#[]⟩) (n := 0) (by simp)
  clear h
  have HCN := Lib.hid (halNamed nm (((w.alloc (.cells #[.int .i64 6, .int .i64 n, .string nm, .string to] 28)).alloc (.cells #[.string ⟨#[]⟩, .int .i64 0] 35)).alloc (.cells #[.string ⟨#[]⟩, .int .i64 0] 35)) hs)
  rw [hn] at HCN
  go_enter Try.func28, Try.ntmps28
  go_wp2_with fail
  refine HCN.out.mono ?_; rintro e w2 ⟨rfl, hf2⟩
  have HB2 := Lib.hid (HB.out.keep hf2.bel)
  obtain ⟨t0', t1', tz0', tz1'⟩ := HB2.out.told (N := N + 1) (nm := ⟨#[]⟩) (n := 0) (by simp)
  obtain ⟨u0', u1', -, -⟩ := HB2.out.told (N := N + 2) (nm := ⟨#[]⟩) (n := 0) (by simp)
  clear hf2 HB HCN e0 e1 e2 e3 t0 t1 tz0 tz1 u0 u1
  go_wp2_with fail
  have h3 := Hw.setTold (nm' := ⟨#[]⟩) (n' := 0) HB2.out
  generalize (World.setCell (w2) ⟨N + 1, 0, none⟩ (.string ⟨#[]⟩)).setCell ⟨N + 1, 1, none⟩ (.int .i64 0) = WF at h3 ⊢
  obtain ⟨q0, q1, -, -⟩ := h3.told (N := N + 1) (nm := ⟨#[]⟩) (n := 0) List.mem_cons_self
  have h4 : ToldW w0 H s B ⟨#[]⟩ 0 3 (.returned (.tuple #[.agg #[.string ⟨#[]⟩, .int .i64 0], .int .i64 3])) WF := ⟨rfl, h3.sub (List.sublist_append_right [_, _, _] B)⟩
  refine bodyPost_ret (v := .tuple #[.agg #[.string ⟨#[]⟩, .int .i64 0], .int .i64 3]) ?_ ?_ ?_
  rotate_left
  · rfl
  · exact h4
  simp [results, Try.results28, go_sem, q0, q1]
set_option maxRecDepth 100000 in
set_option maxHeartbeats 8000000 in
theorem halDoM2 {w0 w : World} (H : Nat) (s : HSt) (B : List Big) (n : Int) (nm to : ByteArray) (h : Hw w0 w H s B) (hs : nm.size ≤ maxLen) (hn : namedB nm = true) (h8 : s.M.length ≤ 8) (hm : s.M.length ≤ findM nm s.M) :
    Calls Try.prog 28 #[.pointer (some ⟨H, 0, .none⟩), .agg #[.int .i64 2, .int .i64 n, .string nm, .string to]] w (ToldW w0 H s B ⟨#[]⟩ 0 4) := by
  obtain ⟨N, hN⟩ : ∃ N, w.heap.size = N := ⟨_, rfl⟩
  have HB := Lib.hid (doBox h 2 n nm to hN)
  obtain ⟨e0, e1, e2, e3, -⟩ := HB.out.deed (N := N) (k := 2) (n := n) (nm := nm) (to := to) (by simp)
  obtain ⟨t0, t1, tz0, tz1⟩ := HB.out.told (N := N + 1) (nm := ⟨#[]⟩) (n := 0) (by simp)
  obtain ⟨u0, u1, -, -⟩ := HB.out.told (N := N + 2) (nm := ⟨#[]⟩) (n := 0) (by simp)
  clear h
  have HCN := Lib.hid (halNamed nm (((w.alloc (.cells #[.int .i64 2, .int .i64 n, .string nm, .string to] 28)).alloc (.cells #[.string ⟨#[]⟩, .int .i64 0] 35)).alloc (.cells #[.string ⟨#[]⟩, .int .i64 0] 35)) hs)
  rw [hn] at HCN
  go_enter Try.func28, Try.ntmps28
  go_wp2_with fail
  refine HCN.out.mono ?_; rintro e w1 ⟨rfl, hf1⟩
  have HB1 := Lib.hid (HB.out.keep hf1.bel)
  obtain ⟨am, cm, c0, hS, hHl⟩ := HB1.out.hall
  obtain ⟨-, -, e2', -, -⟩ := HB1.out.deed (N := N) (k := 2) (n := n) (nm := nm) (to := to) (by simp)
  have HCF := Lib.hid (halFind s.M s.M.length am cm nm H _ hS rfl (by omega) c0 hHl)
  clear hf1 HB HCN e0 e1 e2 e3 t0 t1 tz0 tz1 u0 u1 hS hHl
  go_wp2_with fail
  refine HCF.out.mono ?_; rintro e w2 ⟨rfl, hf2⟩
  have HB2 := Lib.hid (HB1.out.keep hf2.bel)
  obtain ⟨t0, t1, tz0, tz1⟩ := HB2.out.told (N := N + 1) (nm := ⟨#[]⟩) (n := 0) (by simp)
  obtain ⟨u0, u1, -, -⟩ := HB2.out.told (N := N + 2) (nm := ⟨#[]⟩) (n := 0) (by simp)
  obtain ⟨e0, e1, e2, e3, -⟩ := HB2.out.deed (N := N) (k := 2) (n := n) (nm := nm) (to := to) (by simp)
  clear hf2 HCF e2' c0 HB1
  rw [show fiV nm s.M = -1 by unfold fiV; rw [if_neg (by omega)]]
  have d3 : decide ((-1 : Int) < 0) = true := rfl
  go_wp2_with fail
  have h3 := Hw.setTold (nm' := ⟨#[]⟩) (n' := 0) HB2.out
  generalize (World.setCell (w2) ⟨N + 1, 0, none⟩ (.string ⟨#[]⟩)).setCell ⟨N + 1, 1, none⟩ (.int .i64 0) = WF at h3 ⊢
  obtain ⟨q0, q1, -, -⟩ := h3.told (N := N + 1) (nm := ⟨#[]⟩) (n := 0) List.mem_cons_self
  have h4 : ToldW w0 H s B ⟨#[]⟩ 0 4 (.returned (.tuple #[.agg #[.string ⟨#[]⟩, .int .i64 0], .int .i64 4])) WF := ⟨rfl, h3.sub (List.sublist_append_right [_, _, _] B)⟩
  refine bodyPost_ret (v := .tuple #[.agg #[.string ⟨#[]⟩, .int .i64 0], .int .i64 4]) ?_ ?_ ?_
  rotate_left
  · rfl
  · exact h4
  simp [results, Try.results28, go_sem, q0, q1]
set_option maxRecDepth 100000 in
set_option maxHeartbeats 8000000 in
theorem halDoM3 {w0 w : World} (H : Nat) (s : HSt) (B : List Big) (n : Int) (nm to : ByteArray) (h : Hw w0 w H s B) (hs : nm.size ≤ maxLen) (hn : namedB nm = true) (h8 : s.M.length ≤ 8) (hm : s.M.length ≤ findM nm s.M) :
    Calls Try.prog 28 #[.pointer (some ⟨H, 0, .none⟩), .agg #[.int .i64 3, .int .i64 n, .string nm, .string to]] w (ToldW w0 H s B ⟨#[]⟩ 0 4) := by
  obtain ⟨N, hN⟩ : ∃ N, w.heap.size = N := ⟨_, rfl⟩
  have HB := Lib.hid (doBox h 3 n nm to hN)
  obtain ⟨e0, e1, e2, e3, -⟩ := HB.out.deed (N := N) (k := 3) (n := n) (nm := nm) (to := to) (by simp)
  obtain ⟨t0, t1, tz0, tz1⟩ := HB.out.told (N := N + 1) (nm := ⟨#[]⟩) (n := 0) (by simp)
  obtain ⟨u0, u1, -, -⟩ := HB.out.told (N := N + 2) (nm := ⟨#[]⟩) (n := 0) (by simp)
  clear h
  have HCN := Lib.hid (halNamed nm (((w.alloc (.cells #[.int .i64 3, .int .i64 n, .string nm, .string to] 28)).alloc (.cells #[.string ⟨#[]⟩, .int .i64 0] 35)).alloc (.cells #[.string ⟨#[]⟩, .int .i64 0] 35)) hs)
  rw [hn] at HCN
  go_enter Try.func28, Try.ntmps28
  go_wp2_with fail
  refine HCN.out.mono ?_; rintro e w1 ⟨rfl, hf1⟩
  have HB1 := Lib.hid (HB.out.keep hf1.bel)
  obtain ⟨am, cm, c0, hS, hHl⟩ := HB1.out.hall
  obtain ⟨-, -, e2', -, -⟩ := HB1.out.deed (N := N) (k := 3) (n := n) (nm := nm) (to := to) (by simp)
  have HCF := Lib.hid (halFind s.M s.M.length am cm nm H _ hS rfl (by omega) c0 hHl)
  clear hf1 HB HCN e0 e1 e2 e3 t0 t1 tz0 tz1 u0 u1 hS hHl
  go_wp2_with fail
  refine HCF.out.mono ?_; rintro e w2 ⟨rfl, hf2⟩
  have HB2 := Lib.hid (HB1.out.keep hf2.bel)
  obtain ⟨t0, t1, tz0, tz1⟩ := HB2.out.told (N := N + 1) (nm := ⟨#[]⟩) (n := 0) (by simp)
  obtain ⟨u0, u1, -, -⟩ := HB2.out.told (N := N + 2) (nm := ⟨#[]⟩) (n := 0) (by simp)
  obtain ⟨e0, e1, e2, e3, -⟩ := HB2.out.deed (N := N) (k := 3) (n := n) (nm := nm) (to := to) (by simp)
  clear hf2 HCF e2' c0 HB1
  rw [show fiV nm s.M = -1 by unfold fiV; rw [if_neg (by omega)]]
  have d3 : decide ((-1 : Int) < 0) = true := rfl
  go_wp2_with fail
  have h3 := Hw.setTold (nm' := ⟨#[]⟩) (n' := 0) HB2.out
  generalize (World.setCell (w2) ⟨N + 1, 0, none⟩ (.string ⟨#[]⟩)).setCell ⟨N + 1, 1, none⟩ (.int .i64 0) = WF at h3 ⊢
  obtain ⟨q0, q1, -, -⟩ := h3.told (N := N + 1) (nm := ⟨#[]⟩) (n := 0) List.mem_cons_self
  have h4 : ToldW w0 H s B ⟨#[]⟩ 0 4 (.returned (.tuple #[.agg #[.string ⟨#[]⟩, .int .i64 0], .int .i64 4])) WF := ⟨rfl, h3.sub (List.sublist_append_right [_, _, _] B)⟩
  refine bodyPost_ret (v := .tuple #[.agg #[.string ⟨#[]⟩, .int .i64 0], .int .i64 4]) ?_ ?_ ?_
  rotate_left
  · rfl
  · exact h4
  simp [results, Try.results28, go_sem, q0, q1]
set_option maxRecDepth 100000 in
set_option maxHeartbeats 8000000 in
theorem halDoM4 {w0 w : World} (H : Nat) (s : HSt) (B : List Big) (n : Int) (nm to : ByteArray) (h : Hw w0 w H s B) (hs : nm.size ≤ maxLen) (hn : namedB nm = true) (h8 : s.M.length ≤ 8) (hm : s.M.length ≤ findM nm s.M) :
    Calls Try.prog 28 #[.pointer (some ⟨H, 0, .none⟩), .agg #[.int .i64 4, .int .i64 n, .string nm, .string to]] w (ToldW w0 H s B ⟨#[]⟩ 0 4) := by
  obtain ⟨N, hN⟩ : ∃ N, w.heap.size = N := ⟨_, rfl⟩
  have HB := Lib.hid (doBox h 4 n nm to hN)
  obtain ⟨e0, e1, e2, e3, -⟩ := HB.out.deed (N := N) (k := 4) (n := n) (nm := nm) (to := to) (by simp)
  obtain ⟨t0, t1, tz0, tz1⟩ := HB.out.told (N := N + 1) (nm := ⟨#[]⟩) (n := 0) (by simp)
  obtain ⟨u0, u1, -, -⟩ := HB.out.told (N := N + 2) (nm := ⟨#[]⟩) (n := 0) (by simp)
  clear h
  have HCN := Lib.hid (halNamed nm (((w.alloc (.cells #[.int .i64 4, .int .i64 n, .string nm, .string to] 28)).alloc (.cells #[.string ⟨#[]⟩, .int .i64 0] 35)).alloc (.cells #[.string ⟨#[]⟩, .int .i64 0] 35)) hs)
  rw [hn] at HCN
  go_enter Try.func28, Try.ntmps28
  go_wp2_with fail
  refine HCN.out.mono ?_; rintro e w1 ⟨rfl, hf1⟩
  have HB1 := Lib.hid (HB.out.keep hf1.bel)
  obtain ⟨am, cm, c0, hS, hHl⟩ := HB1.out.hall
  obtain ⟨-, -, e2', -, -⟩ := HB1.out.deed (N := N) (k := 4) (n := n) (nm := nm) (to := to) (by simp)
  have HCF := Lib.hid (halFind s.M s.M.length am cm nm H _ hS rfl (by omega) c0 hHl)
  clear hf1 HB HCN e0 e1 e2 e3 t0 t1 tz0 tz1 u0 u1 hS hHl
  go_wp2_with fail
  refine HCF.out.mono ?_; rintro e w2 ⟨rfl, hf2⟩
  have HB2 := Lib.hid (HB1.out.keep hf2.bel)
  obtain ⟨t0, t1, tz0, tz1⟩ := HB2.out.told (N := N + 1) (nm := ⟨#[]⟩) (n := 0) (by simp)
  obtain ⟨u0, u1, -, -⟩ := HB2.out.told (N := N + 2) (nm := ⟨#[]⟩) (n := 0) (by simp)
  obtain ⟨e0, e1, e2, e3, -⟩ := HB2.out.deed (N := N) (k := 4) (n := n) (nm := nm) (to := to) (by simp)
  clear hf2 HCF e2' c0 HB1
  rw [show fiV nm s.M = -1 by unfold fiV; rw [if_neg (by omega)]]
  have d3 : decide ((-1 : Int) < 0) = true := rfl
  go_wp2_with fail
  have h3 := Hw.setTold (nm' := ⟨#[]⟩) (n' := 0) HB2.out
  generalize (World.setCell (w2) ⟨N + 1, 0, none⟩ (.string ⟨#[]⟩)).setCell ⟨N + 1, 1, none⟩ (.int .i64 0) = WF at h3 ⊢
  obtain ⟨q0, q1, -, -⟩ := h3.told (N := N + 1) (nm := ⟨#[]⟩) (n := 0) List.mem_cons_self
  have h4 : ToldW w0 H s B ⟨#[]⟩ 0 4 (.returned (.tuple #[.agg #[.string ⟨#[]⟩, .int .i64 0], .int .i64 4])) WF := ⟨rfl, h3.sub (List.sublist_append_right [_, _, _] B)⟩
  refine bodyPost_ret (v := .tuple #[.agg #[.string ⟨#[]⟩, .int .i64 0], .int .i64 4]) ?_ ?_ ?_
  rotate_left
  · rfl
  · exact h4
  simp [results, Try.results28, go_sem, q0, q1]
set_option maxRecDepth 100000 in
set_option maxHeartbeats 8000000 in
theorem halDoM6 {w0 w : World} (H : Nat) (s : HSt) (B : List Big) (n : Int) (nm to : ByteArray) (h : Hw w0 w H s B) (hs : nm.size ≤ maxLen) (hn : namedB nm = true) (h8 : s.M.length ≤ 8) (hm : s.M.length ≤ findM nm s.M) :
    Calls Try.prog 28 #[.pointer (some ⟨H, 0, .none⟩), .agg #[.int .i64 6, .int .i64 n, .string nm, .string to]] w (ToldW w0 H s B ⟨#[]⟩ 0 4) := by
  obtain ⟨N, hN⟩ : ∃ N, w.heap.size = N := ⟨_, rfl⟩
  have HB := Lib.hid (doBox h 6 n nm to hN)
  obtain ⟨e0, e1, e2, e3, -⟩ := HB.out.deed (N := N) (k := 6) (n := n) (nm := nm) (to := to) (by simp)
  obtain ⟨t0, t1, tz0, tz1⟩ := HB.out.told (N := N + 1) (nm := ⟨#[]⟩) (n := 0) (by simp)
  obtain ⟨u0, u1, -, -⟩ := HB.out.told (N := N + 2) (nm := ⟨#[]⟩) (n := 0) (by simp)
  clear h
  have HCN := Lib.hid (halNamed nm (((w.alloc (.cells #[.int .i64 6, .int .i64 n, .string nm, .string to] 28)).alloc (.cells #[.string ⟨#[]⟩, .int .i64 0] 35)).alloc (.cells #[.string ⟨#[]⟩, .int .i64 0] 35)) hs)
  rw [hn] at HCN
  go_enter Try.func28, Try.ntmps28
  go_wp2_with fail
  refine HCN.out.mono ?_; rintro e w1 ⟨rfl, hf1⟩
  have HB1 := Lib.hid (HB.out.keep hf1.bel)
  obtain ⟨am, cm, c0, hS, hHl⟩ := HB1.out.hall
  obtain ⟨-, -, e2', -, -⟩ := HB1.out.deed (N := N) (k := 6) (n := n) (nm := nm) (to := to) (by simp)
  have HCF := Lib.hid (halFind s.M s.M.length am cm nm H _ hS rfl (by omega) c0 hHl)
  clear hf1 HB HCN e0 e1 e2 e3 t0 t1 tz0 tz1 u0 u1 hS hHl
  go_wp2_with fail
  refine HCF.out.mono ?_; rintro e w2 ⟨rfl, hf2⟩
  have HB2 := Lib.hid (HB1.out.keep hf2.bel)
  obtain ⟨t0, t1, tz0, tz1⟩ := HB2.out.told (N := N + 1) (nm := ⟨#[]⟩) (n := 0) (by simp)
  obtain ⟨u0, u1, -, -⟩ := HB2.out.told (N := N + 2) (nm := ⟨#[]⟩) (n := 0) (by simp)
  obtain ⟨e0, e1, e2, e3, -⟩ := HB2.out.deed (N := N) (k := 6) (n := n) (nm := nm) (to := to) (by simp)
  clear hf2 HCF e2' c0 HB1
  rw [show fiV nm s.M = -1 by unfold fiV; rw [if_neg (by omega)]]
  have d3 : decide ((-1 : Int) < 0) = true := rfl
  go_wp2_with fail
  have h3 := Hw.setTold (nm' := ⟨#[]⟩) (n' := 0) HB2.out
  generalize (World.setCell (w2) ⟨N + 1, 0, none⟩ (.string ⟨#[]⟩)).setCell ⟨N + 1, 1, none⟩ (.int .i64 0) = WF at h3 ⊢
  obtain ⟨q0, q1, -, -⟩ := h3.told (N := N + 1) (nm := ⟨#[]⟩) (n := 0) List.mem_cons_self
  have h4 : ToldW w0 H s B ⟨#[]⟩ 0 4 (.returned (.tuple #[.agg #[.string ⟨#[]⟩, .int .i64 0], .int .i64 4])) WF := ⟨rfl, h3.sub (List.sublist_append_right [_, _, _] B)⟩
  refine bodyPost_ret (v := .tuple #[.agg #[.string ⟨#[]⟩, .int .i64 0], .int .i64 4]) ?_ ?_ ?_
  rotate_left
  · rfl
  · exact h4
  simp [results, Try.results28, go_sem, q0, q1]
end Go.Proofs.Ytjplnkkcmkpkbaa
