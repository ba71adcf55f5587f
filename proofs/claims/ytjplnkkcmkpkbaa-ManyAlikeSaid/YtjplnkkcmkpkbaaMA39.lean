/- Several of my texts in one: Hal11, HalB. -/
import Derived.Test.YtjplnkkcmkpkbaaMA38
set_option linter.unusedSimpArgs false
set_option linter.unusedVariables false
/- Contract of lend, where it may be. -/
namespace Go.Proofs.Ytjplnkkcmkpkbaa
open Go.RowKit

set_option maxRecDepth 100000 in
set_option maxHeartbeats 8000000 in
theorem halLend_yes {w0 w : World} (H : Nat) (s : HSt) (B : List Big) (i : Nat) (k n : Int) (nm to : ByteArray) (h : Hw w0 w H s B) (hi : i < s.M.length) (h8 : TkOk (tksL s.M)) (hL : (s.L.length + 1) * 40 ≤ 140737488355328) (hE : lendE s i n to = 0) :
    Calls Try.prog 46 #[.pointer (some ⟨H, 0, .none⟩), .int .i64 i, .agg #[.int .i64 k, .int .i64 n, .string nm, .string to]] w (ErrW w0 H (lendW s i n nm to) B 0) := by
  obtain ⟨am, cm, al, cl, hf⟩ := h
  have hl8 : s.M.length ≤ 8 := by have := h8.1; rw [tksL_len] at this; exact this
  obtain ⟨j, hj⟩ : ∃ j, findM to s.M = j := ⟨_, rfl⟩
  have HW := Lib.hid (show lendW s i n nm to = ⟨bumpM (bumpM s.M i (-n)) j n, s.L ++ [⟨nm, to, n⟩]⟩ by unfold lendW; rw [if_pos hE, hj])
  have hjl : j < s.M.length := by
    rcases Nat.lt_or_ge j s.M.length with h | h
    · exact h
    · unfold lendE at hE; rw [hj, if_pos h] at hE; exact absurd hE (by decide)
  have hji : j ≠ i ∧ 1 ≤ n := by
    refine Decidable.byContradiction fun h => ?_
    unfold lendE at hE; rw [hj, if_neg (by omega), if_pos (by omega)] at hE
    exact absurd hE (by decide)
  have HOK := Lib.hid ((lendE_val s i n to hi (by rw [hj]; exact hjl) (by rw [hj]; exact hji.1) hji.2).1 hE)
  rw [hj] at HOK
  obtain ⟨m, hm⟩ : ∃ m, s.M[i]? = some m := ⟨_, List.getElem?_eq_getElem hi⟩
  obtain ⟨mj, hmj⟩ : ∃ m, s.M[j]? = some m := ⟨_, List.getElem?_eq_getElem hjl⟩
  have t1 := tksL_nth hm
  have t2 := tksL_nth hmj
  have X1 := Lib.hid (show nth (lendL (tksL s.M) i j n) i = m.tk + -n by unfold lendL; rw [nth_set_ne _ _ _ _ hji.1, nth_set _ _ _ _ (by rw [tksL_len]; exact hi), if_pos rfl, t1]; omega)
  have X2 := Lib.hid (show nth (lendL (tksL s.M) i j n) j = mj.tk + n by unfold lendL; rw [nth_set _ _ _ _ (by simp [tksL_len]; exact hjl), if_pos rfl, nth_set_ne _ _ _ _ (fun e => hji.1 e.symm), t2])
  have HM := Lib.hid hm
  have HMJ := Lib.hid (show (s.M.set i ⟨m.nm, m.tk + -n, m.wn⟩)[j]? = some mj by rw [List.getElem?_set_ne (fun e => hji.1 e.symm)]; exact hmj)
  have HBU := Lib.hid (show bumpM (bumpM s.M i (-n)) j n = (s.M.set i ⟨m.nm, m.tk + -n, m.wn⟩).set j ⟨mj.nm, mj.tk + n, mj.wn⟩ by rw [bumpM_at hm, bumpM_at (by rw [List.getElem?_set_ne (fun e => hji.1 e.symm)]; exact hmj)])
  have HI3 := Lib.hid hmj
  have hf1 := hf.new 28 #[.int .i64 k, .int .i64 n, .string nm, .string to] [.int .i64 k, .int .i64 n, .string nm, .string to] rfl w.heap.size rfl 4 rfl (by omega)
  obtain ⟨N, hN⟩ : ∃ N, w.heap.size = N := ⟨_, rfl⟩
  rw [hN] at hf1
  have hf1 : Fg w0 _ (eD N k n nm to :: hallE H am cm al cl s B) := hf1
  obtain ⟨e0, e1, e2, e3, -⟩ := hf1.deed List.mem_cons_self
  obtain ⟨c0, -, hHl, -, -⟩ := hf1.hall (H := H) (vm := .slice am s.M.length cm) (vl := .slice al s.L.length cl) (by simp [hallE])
  have hS := hf1.sa (T := 90) (c := 3) (n := s.M.length) (cap := cm) (ad := am) (xs := rowsC memC s.M) (by simp [hallE, eM])
  have HF1 := Lib.hid hf1
  have HCF := Lib.hid (halFind s.M s.M.length am cm to H _ hS rfl (by omega) c0 hHl)
  have H8 := Lib.hid h8
  have HLL := Lib.hid hL
  have hfi : fiV to s.M = (j : Int) := by unfold fiV; rw [hj, if_pos hjl]
  rw [hfi] at HCF
  have d3 : decide ((j : Int) < 0) = false := decide_eq_false (by omega)
  have q1 : ((j : Int) == (i : Int)) = false := by rw [beq_eq_false_iff_ne]; omega
  have d4 : decide (n < 1) = false := decide_eq_false (by omega)
  clear hf hf1 hS h8 hE hfi hj hm hmj t1 t2
  go_enter Try.func46, Try.ntmps46
  go_wp2_with fail
  refine HCF.out.mono ?_; rintro e w2 ⟨rfl, hf2⟩
  have HF2 := Lib.hid (HF1.out.keep hf2.bel)
  obtain ⟨e0', e1', e2', e3', -⟩ := HF2.out.deed List.mem_cons_self
  clear hf2 HF1 HCF c0 e0 e1 e2 e3
  obtain ⟨c0, -, hHl, -, -⟩ := HF2.out.hall (H := H) (vm := .slice am s.M.length cm) (vl := .slice al s.L.length cl) (by simp [hallE])
  have HS := Lib.hid (HF2.out.sa (T := 90) (c := 3) (n := s.M.length) (cap := cm) (ad := am) (xs := rowsC memC s.M) (by simp [hallE, eM]))
  have HC0 := Lib.hid c0
  go_wp2_with fail
  go_region_with (first
    | (go_at_call 40; go_loud (refine (halTickets s.M s.M.length am cm H w2.drew HS.out rfl (by omega) HC0.out).mono ?_; rintro e w3 ⟨ad, cp, rfl, hcp, hf3⟩; have HF3 := Lib.hid (HF2.out.drew.call hf3); obtain ⟨-, y1, -, -, -⟩ := HF3.out.deed (N := N) (k := k) (n := n) (nm := nm) (to := to) (by simp); have HS3 := Lib.hid (HF3.out.sa (T := 3) (c := 1) (n := (ints (tksL s.M)).length) (cap := cp) (ad := ad) (xs := ints (tksL s.M)) (by simp [Ent.big, tksL_len, ints_len])); clear hf3))
    | (go_at_call 57; go_loud (refine (lotLend_yes (tksL s.M) s.M.length ad cp i j n i j w3 HS3.out (tksL_len _) H8.out HOK.out).mono ?_; rintro e w4 ⟨ad2, cp2, rfl, hcp2, hf4⟩; have HF4 := Lib.hid (HF3.out.call hf4); have HO4 := Lib.hid hf4; clear hf4)))
  all_goals
    obtain ⟨g2, rfl, -, x1, -⟩ := HO4.out.openI i (by rw [lendL_len, tksL_len]; exact hi)
    obtain ⟨g2', ee, -, x2, -⟩ := HO4.out.openI j (by rw [lendL_len, tksL_len]; exact hjl)
    cases ee
    rw [X1.out] at x1
    rw [X2.out] at x2
    have hf4 := HF4.out.tail.tail.drew
    obtain ⟨c0', -, -, -, -⟩ := hf4.hall (H := H) (vm := .slice am s.M.length cm) (vl := .slice al s.L.length cl) (by simp [hallE])
    obtain ⟨g, rfl, -, -, ci, -, fz⟩ := hf4.mem3 (ad := am) (cap := cm) (M := s.M) (by simp [hallE]) i _ HM.out
    have z1 := fz (i * 3 + 1)
    have z2 := fz (j * 3 + 1)
    have z1' : w4.frozen? ⟨g, i * 3 + 1, none⟩ = false := z1
    have z2' : w4.frozen? ⟨g, j * 3 + 1, none⟩ = false := z2
    have hf5 := hf4.setM (B1 := [_, _]) i 1 m ⟨m.nm, m.tk + -n, m.wn⟩ HM.out (by omega) (.int .i64 (m.tk + -n)) rfl
    obtain ⟨gj, ee, -, -, cj, -, -⟩ := hf4.mem3 (ad := some ⟨g, 0, none⟩) (cap := cm) (M := s.M) (by simp [hallE]) j _ HI3.out
    cases ee
    obtain ⟨g', ee, -, -, cj', -, fz'⟩ := hf5.mem3 (ad := some ⟨g, 0, none⟩) (cap := cm) (M := s.M.set i ⟨m.nm, m.tk + -n, m.wn⟩) (by simp) j _ HMJ.out
    cases ee
    have ci' : w4.cell? ⟨g, i * 3 + 1, none⟩ = _ := ci
    have cj2 : w4.cell? ⟨g, j * 3 + 1, none⟩ = _ := cj
    have hf6 := hf5.setM (B1 := [_, _]) j 1 mj ⟨mj.nm, mj.tk + n, mj.wn⟩ HMJ.out (by omega) (.int .i64 (mj.tk + n)) rfl
    have HF6 := Lib.hid hf6
    have d5 : (0 : Int) ≤ (i : Int) := by omega
    have d6 : (i : Int) < (s.M.length : Int) := by omega
    have d7 : (0 : Int) ≤ (j : Int) := by omega
    have d8 : (j : Int) < (s.M.length : Int) := by omega
    clear hf4 hf5 hf6 fz fz'
    go_wp2_with fail
    go_region
    go_wp2_with fail
    have hf7 : Fg w0 ((w4.setCell ⟨g, i * 3 + 1, .none⟩ (.int .i64 (m.tk + -n))).setCell ⟨g, j * 3 + 1, .none⟩ (.int .i64 (mj.tk + n))).drew ([eD N k n nm to, eH H (.slice (some ⟨g, 0, none⟩) s.M.length cm) (.slice al s.L.length cl)] ++ eM (some ⟨g, 0, none⟩) cm ((s.M.set i ⟨m.nm, m.tk + -n, m.wn⟩).set j ⟨mj.nm, mj.tk + n, mj.wn⟩) :: eL al cl s.L :: B) := HF6.out
    generalize ((w4.setCell ⟨g, i * 3 + 1, .none⟩ (.int .i64 (m.tk + -n))).setCell ⟨g, j * 3 + 1, .none⟩ (.int .i64 (mj.tk + n))).drew = W at hf7 ⊢
    rw [← HBU.out] at hf7
    obtain ⟨M', hM'⟩ : ∃ M', bumpM (bumpM s.M i (-n)) j n = M' := ⟨_, rfl⟩
    have HM' := Lib.hid hM'
    have hML : s.M.length = M'.length := by rw [← hM', bumpM_len, bumpM_len]
    rw [hM'] at hf7
    obtain ⟨-, q0, hHW, -, -⟩ := hf7.hall (H := H) (vm := .slice (some ⟨g, 0, none⟩) s.M.length cm) (vl := .slice al s.L.length cl) (by simp)
    obtain ⟨-, u1, u2, u3, hNW⟩ := hf7.deed (N := N) (k := k) (n := n) (nm := nm) (to := to) (by simp)
    have hf8 : Fg w0 W (eL al cl s.L :: eD N k n nm to :: eH H (.slice (some ⟨g, 0, none⟩) s.M.length cm) (.slice al s.L.length cl) :: eM (some ⟨g, 0, none⟩) cm M' :: B) := hf7.perm (List.perm_middle (a := eL al cl s.L) (l₁ := [eD N k n nm to, eH H (.slice (some ⟨g, 0, none⟩) s.M.length cm) (.slice al s.L.length cl), eM (some ⟨g, 0, none⟩) cm M']) (l₂ := B))
    have HKS : Hid (∀ w', Below W.heap.size W w' → w'.cell? ⟨H, 1, .none⟩ = some (.slice al s.L.length cl) ∧ w'.cell? ⟨N, 2, .none⟩ = some (.string nm) ∧ w'.cell? ⟨N, 3, .none⟩ = some (.string to) ∧ w'.cell? ⟨N, 1, .none⟩ = some (.int .i64 n)) := Lib.hid fun w' hB => ⟨(hB.cell (p := ⟨H, 1, .none⟩) hHW).trans q0, (hB.cell (p := ⟨N, 2, .none⟩) hNW).trans u2, (hB.cell (p := ⟨N, 3, .none⟩) hNW).trans u3, (hB.cell (p := ⟨N, 1, .none⟩) hNW).trans u1⟩
    have HSS := Lib.hid (HKS.out W (Below.refl _ _))
    have HF8 := Lib.hid (hf8.alloc (.cells #[.string nm, .string to, .int .i64 n] 106))
    have HCN : Hid (∀ (j : Nat) (u : Value), (loanC ⟨nm, to, n⟩)[j]? = some u → (W.alloc (.cells #[.string nm, .string to, .int .i64 n] 106)).drew.cell? ⟨W.heap.size, j, .none⟩ = some u) := Lib.hid fun j u hj => by
      have := cell_new W #[.string nm, .string to, .int .i64 n] 106 j
      rw [Nat.zero_add] at this
      show (W.alloc (.cells #[.string nm, .string to, .int .i64 n] 106)).cell? _ = _
      rw [this, ← Array.getElem?_toList]; exact hj
    clear hf7 hf8 q0 u1 u2 u3 c0' ci z1 z2 z1' z2' cj cj' ci' cj2 HF6 hM' x1 x2 HO4 HF4 HF3 HS3 y1 c0 e0' e1' e2' e3' HS HC0 HF2 hf1
    refine wp_region_U [13] (fun w' : World => w'.cell? ⟨H, 1, .none⟩ = some (.slice al s.L.length cl) ∧ w'.cell? ⟨N, 2, .none⟩ = some (.string nm) ∧ w'.cell? ⟨N, 3, .none⟩ = some (.string to) ∧ w'.cell? ⟨N, 1, .none⟩ = some (.int .i64 n)) (by kernel_rfl) ?_
    have hSd : (fun w' : World => w'.cell? ⟨H, 1, .none⟩ = some (.slice al s.L.length cl) ∧ w'.cell? ⟨N, 2, .none⟩ = some (.string nm) ∧ w'.cell? ⟨N, 3, .none⟩ = some (.string to) ∧ w'.cell? ⟨N, 1, .none⟩ = some (.int .i64 n)) W.drew := HSS.out
    refine wpAnyU_takeY (i := 0) (v := ?_) rfl (by kernel_rfl) (by kernel_rfl) (by kernel_rfl) (by kernel_rfl) (fun _ _ _ h => h) (Or.inl ⟨by rfl, ?_⟩) (by assumption) ?_
    rotate_left
    · intro w _; go_simp; try with_reducible rfl
    try simp only [Act.put]
    try simp only [List.setIfInBounds_toArray]
    try simp only [List.set_cons_succ]
    try simp only [List.set_cons_zero]
    refine wpAnyU_takeY (i := 1) (v := ?_) rfl (by kernel_rfl) (by kernel_rfl) (by kernel_rfl) (by kernel_rfl) (fun _ _ _ h => h) (Or.inl ⟨by rfl, ?_⟩) (by assumption) ?_
    rotate_left
    · intro w _; go_simp; try with_reducible rfl
    try simp only [Act.put]
    try simp only [List.setIfInBounds_toArray]
    try simp only [List.set_cons_succ]
    try simp only [List.set_cons_zero]
    refine wpAnyU_takeY (i := 2) (v := ?_) rfl (by kernel_rfl) (by kernel_rfl) (by kernel_rfl) (by kernel_rfl) (fun _ _ _ h => h) (Or.inl ⟨by rfl, ?_⟩) (by assumption) ?_
    rotate_left
    · intro w _; go_simp; try with_reducible rfl
    try simp only [Act.put]
    try simp only [List.setIfInBounds_toArray]
    try simp only [List.set_cons_succ]
    try simp only [List.set_cons_zero]
    refine wpAnyU_takeY (i := 3) (v := ?_) rfl (by kernel_rfl) (by kernel_rfl) (by kernel_rfl) (by kernel_rfl) (fun _ _ _ h => h) (Or.inl ⟨by rfl, ?_⟩) (by assumption) ?_
    rotate_left
    · intro w _; go_simp; try with_reducible rfl
    try simp only [Act.put]
    try simp only [List.setIfInBounds_toArray]
    try simp only [List.set_cons_succ]
    try simp only [List.set_cons_zero]
    refine wpAnyU_take (i := 4) (v := ?_) rfl (by kernel_rfl) (by kernel_rfl) (by kernel_rfl) (by kernel_rfl) (by kernel_rfl) (by kernel_rfl) (fun _ _ _ h => h) (Or.inl ⟨by rfl, ?_⟩) (by assumption) ?_
    rotate_left
    · intro w hSw; obtain ⟨s1, s2, s3, s4⟩ := hSw; go_simp; try with_reducible rfl
    try simp only [Act.put]
    try simp only [List.setIfInBounds_toArray]
    try simp only [List.set_cons_succ]
    try simp only [List.set_cons_zero]
    refine wpAnyU_takeY (i := 5) (v := ?_) rfl (by kernel_rfl) (by kernel_rfl) (by kernel_rfl) (by kernel_rfl) (fun _ _ _ h => h) (Or.inl ⟨by rfl, ?_⟩) (by assumption) ?_
    rotate_left
    · intro w _; go_simp; try with_reducible rfl
    try simp only [Act.put]
    try simp only [List.setIfInBounds_toArray]
    try simp only [List.set_cons_succ]
    try simp only [List.set_cons_zero]
    refine wpAnyU_take (i := 6) (v := ?_) rfl (by kernel_rfl) (by kernel_rfl) (by kernel_rfl) (by kernel_rfl) (by kernel_rfl) (by kernel_rfl) (fun _ _ _ h => h) (Or.inl ⟨by rfl, ?_⟩) (by assumption) ?_
    rotate_left
    · intro w hSw; obtain ⟨s1, s2, s3, s4⟩ := hSw; go_simp; try with_reducible rfl
    try simp only [Act.put]
    try simp only [List.setIfInBounds_toArray]
    try simp only [List.set_cons_succ]
    try simp only [List.set_cons_zero]
    refine wpAnyU_takeY (i := 7) (v := ?_) rfl (by kernel_rfl) (by kernel_rfl) (by kernel_rfl) (by kernel_rfl) (fun _ _ _ h => h) (Or.inl ⟨by rfl, ?_⟩) (by assumption) ?_
    rotate_left
    · intro w _; go_simp; try with_reducible rfl
    try simp only [Act.put]
    try simp only [List.setIfInBounds_toArray]
    try simp only [List.set_cons_succ]
    try simp only [List.set_cons_zero]
    refine wpAnyU_take (i := 8) (v := ?_) rfl (by kernel_rfl) (by kernel_rfl) (by kernel_rfl) (by kernel_rfl) (by kernel_rfl) (by kernel_rfl) (fun _ _ _ h => h) (Or.inl ⟨by rfl, ?_⟩) (by assumption) ?_
    rotate_left
    · intro w hSw; obtain ⟨s1, s2, s3, s4⟩ := hSw; go_simp; try with_reducible rfl
    try simp only [Act.put]
    try simp only [List.setIfInBounds_toArray]
    try simp only [List.set_cons_succ]
    try simp only [List.set_cons_zero]
    refine wpAnyU_takeY (i := 9) (v := ?_) rfl (by kernel_rfl) (by kernel_rfl) (by kernel_rfl) (by kernel_rfl) (fun _ _ _ h => h) (Or.inl ⟨by rfl, ?_⟩) (by assumption) ?_
    rotate_left
    · intro w _; go_simp; try with_reducible rfl
    try simp only [Act.put]
    try simp only [List.setIfInBounds_toArray]
    try simp only [List.set_cons_succ]
    try simp only [List.set_cons_zero]
    refine wpAnyU_take (i := 10) (v := ?_) rfl (by kernel_rfl) (by kernel_rfl) (by kernel_rfl) (by kernel_rfl) (by kernel_rfl) (by kernel_rfl) (fun _ _ _ h => h) (Or.inl ⟨by rfl, ?_⟩) (by assumption) ?_
    rotate_left
    · intro w hSw; obtain ⟨s1, s2, s3, s4⟩ := hSw; go_simp; try with_reducible rfl
    try simp only [Act.put]
    try simp only [List.setIfInBounds_toArray]
    try simp only [List.set_cons_succ]
    try simp only [List.set_cons_zero]
    refine wpAnyU_takeY (i := 11) (v := ?_) rfl (by kernel_rfl) (by kernel_rfl) (by kernel_rfl) (by kernel_rfl) (fun _ _ _ h => h) (Or.inl ⟨by rfl, ?_⟩) (by assumption) ?_
    rotate_left
    · intro w _; go_simp; try with_reducible rfl
    try simp only [Act.put]
    try simp only [List.setIfInBounds_toArray]
    try simp only [List.set_cons_succ]
    try simp only [List.set_cons_zero]
    refine wpAnyU_ready (rs := [12]) (by kernel_rfl) (by simp) ?_
    refine AllReadyU.cons rfl (fun K hK => ?_) AllReadyU.nil
    go_simp
    refine hK.out _ _ (fun _ => HKS.out _ (kin_alloc (Below.refl _ _) _).drew) ?_
    clear hK K
    try simp only [Act.put]
    try simp only [List.setIfInBounds_toArray]
    try simp only [List.set_cons_succ]
    try simp only [List.set_cons_zero]
    refine wpAnyU_ready (rs := [13]) (by kernel_rfl) (by simp) ?_
    refine AllReadyU.cons rfl (fun K hK => ?_) AllReadyU.nil
    refine step_pushG rfl (.tmp 63) (.tmp 71) 81 106 (.agg #[.string ByteArray.empty, .string ByteArray.empty, .int .i64 0]) 3 40 Try.underlying81 loanInfo rfl (by omega) (by omega) (by rfl) al s.L.length cl W.heap.size (rowsC loanC s.L) (loanC ⟨nm, to, n⟩) (eD N k n nm to :: eH H (.slice (some ⟨g, 0, none⟩) s.M.length cm) (.slice al s.L.length cl) :: eM (some ⟨g, 0, none⟩) cm M' :: B) (by rfl) HF8.out.drew (by rfl) HCN.out rfl (by simp [loanC, Value.oneCell']) HLL.out ?_
    intro ad' cp' w5 hf hsz
    obtain ⟨-, q1', -, -, z1⟩ := hf.hall (H := H) (vm := .slice (some ⟨g, 0, none⟩) s.M.length cm) (vl := .slice al s.L.length cl) (by simp)
    have HF9 := Lib.hid hf
    clear hf hsz
    refine hK.out _ _ (fun h => absurd h (by decide +kernel)) ?_
    clear hK K
    try simp only [Act.put]
    try simp only [List.setIfInBounds_toArray]
    try simp only [List.set_cons_succ]
    try simp only [List.set_cons_zero]
    refine wpAnyU_ready (rs := [14]) (by kernel_rfl) (by simp) ?_
    refine AllReadyU.cons rfl (fun K hK => ?_) AllReadyU.nil
    go_simp
    refine hK.out _ _ (fun h => absurd h (by decide +kernel)) ?_
    clear hK K
    try simp only [Act.put]
    try simp only [List.setIfInBounds_toArray]
    try simp only [List.set_cons_succ]
    try simp only [List.set_cons_zero]
    refine wpAnyU_ready (rs := [15]) (by kernel_rfl) (by simp) ?_
    refine AllReadyU.cons rfl (fun K hK => ?_) AllReadyU.nil
    go_simp
    refine hK.out _ _ (fun h => absurd h (by decide +kernel)) ?_
    clear hK K
    try simp only [Act.put]
    try simp only [List.setIfInBounds_toArray]
    try simp only [List.set_cons_succ]
    try simp only [List.set_cons_zero]
    refine wpAnyU_ready (rs := [16]) (by kernel_rfl) (by simp) ?_
    refine AllReadyU.cons rfl (fun K hK => ?_) AllReadyU.nil
    go_simp
    refine hK.out _ _ (fun h => absurd h (by decide +kernel)) ?_
    clear hK K
    try simp only [Act.put]
    try simp only [List.setIfInBounds_toArray]
    try simp only [List.set_cons_succ]
    try simp only [List.set_cons_zero]
    refine wpAnyU_done (by kernel_rfl) ?_ _
    go_wp2_with fail
    go_ret
    refine ⟨rfl, some ⟨g, 0, none⟩, cm, ad', cp', ?_⟩
    rw [HW.out, HM'.out]
    have h5 : Fg w0 w5 ([⟨106, 3, s.L.length + 1, .slice ad' (s.L.length + 1) cp', rowsC loanC s.L ++ loanC ⟨nm, to, n⟩⟩, eD N k n nm to] ++ eH H (.slice (some ⟨g, 0, none⟩) s.M.length cm) (.slice al s.L.length cl) :: (eM (some ⟨g, 0, none⟩) cm M' :: B)) := HF9.out
    have h6 := h5.setIn 1 (.slice ad' (s.L.length + 1) cp')
    have h7 := h6.perm (show List.Perm _ (eD N k n nm to :: hallE H (some ⟨g, 0, none⟩) cm ad' cp' ⟨M', s.L ++ [⟨nm, to, n⟩]⟩ B) by
      unfold hallE eM eL
      simp only [List.length_append, List.length_cons, List.length_nil, Nat.zero_add]
      rw [rowsC_app, rowsC_one, hML]
      refine (List.Perm.swap _ _ _).trans (.cons _ ?_)
      refine (List.Perm.swap _ _ _).trans (.cons _ ?_)
      exact .swap _ _ _)
    exact h7.tail
end Go.Proofs.Ytjplnkkcmkpkbaa
/- Giving back, in plain words. -/
namespace Go.Proofs.Ytjplnkkcmkpkbaa
open Go.RowKit

def nmsM (M : List Mem) : List ByteArray := M.map (·.nm)
theorem findM_lt {nm : ByteArray} : ∀ {M : List Mem}, nm ∈ nmsM M → findM nm M < M.length
  | [], h => by simp [nmsM] at h
  | m :: M, h => by
    rw [findM, List.length_cons]
    split
    · omega
    · rename_i h1
      have : nm ∈ nmsM M := by
        rcases List.mem_cons.1 h with h | h
        · exact absurd h.symm h1
        · exact h
      have := findM_lt this
      omega
theorem findM_mem {nm : ByteArray} : ∀ {M : List Mem}, findM nm M < M.length → nm ∈ nmsM M
  | [], h => by simp [findM] at h
  | m :: M, h => by
    rw [findM, List.length_cons] at h
    by_cases h1 : m.nm = nm
    · exact List.mem_cons.2 (.inl h1.symm)
    · rw [if_neg h1] at h
      exact List.mem_cons_of_mem _ (findM_mem (M := M) (by omega))
theorem findM_nms (nm : ByteArray) : ∀ (M M' : List Mem), nmsM M = nmsM M' → findM nm M = findM nm M'
  | [], [], _ => rfl
  | [], _ :: _, h => by simp [nmsM] at h
  | _ :: _, [], h => by simp [nmsM] at h
  | m :: M, m' :: M', h => by
    have h' : m.nm = m'.nm ∧ nmsM M = nmsM M' := by simpa [nmsM] using h
    rw [findM, findM, h'.1, findM_nms nm M M' h'.2]
theorem findM_nm {nm : ByteArray} : ∀ {M : List Mem} {m : Mem}, M[findM nm M]? = some m → m.nm = nm
  | [], m, h => by simp at h
  | x :: M, m, h => by
    rw [findM] at h
    by_cases h1 : x.nm = nm
    · rw [if_pos h1] at h
      have : x = m := by simpa using h
      rw [← this]; exact h1
    · rw [if_neg h1] at h
      exact findM_nm (M := M) (by simpa using h)
theorem nmsM_bumpM (M : List Mem) (i : Nat) (x : Int) : nmsM (bumpM M i x) = nmsM M := by
  unfold bumpM
  split
  · rename_i m h
    unfold nmsM
    rw [List.map_set]
    apply List.ext_getElem?
    intro j
    rw [List.getElem?_set]
    split
    · rename_i e; subst e
      split
      · rw [List.getElem?_map, h]; rfl
      · rename_i h2; rw [List.length_map] at h2; rw [List.getElem?_eq_none (by rw [List.length_map]; omega)]
    · rfl
  · rfl
theorem findM_bumpM (nm : ByteArray) (M : List Mem) (i : Nat) (x : Int) : findM nm (bumpM M i x) = findM nm M := findM_nms nm _ _ (nmsM_bumpM M i x)
theorem tksL_bumpM (M : List Mem) (i : Nat) (x : Int) (h : i < M.length) : tksL (bumpM M i x) = (tksL M).set i (nth (tksL M) i + x) := by
  obtain ⟨m, hm⟩ : ∃ m, M[i]? = some m := ⟨_, List.getElem?_eq_getElem h⟩
  rw [bumpM_at hm, tksL_nth hm]
  unfold tksL
  rw [List.map_set]
/-- all tickets -/
def tkSum (M : List Mem) : Int := isum (tksL M)
theorem tkSum_bumpM (M : List Mem) (i : Nat) (x : Int) (h : i < M.length) : tkSum (bumpM M i x) = tkSum M + x := by
  unfold tkSum
  rw [tksL_bumpM M i x h, isum_set _ _ _ (by rw [tksL_len]; exact h)]
  omega
structure BSt where
  M : List Mem
  L : List Loan
  t : Int
/-- what goes back of one loan -/
def backX (M : List Mem) (l : Loan) : Int := min (min l.n (nth (tksL M) (findM l.to M))) (100 - nth (tksL M) (findM l.fr M))
def backS (nm : ByteArray) (i : Nat) (s : BSt) : BSt :=
  match s.L[i]? with
  | none => s
  | some l => if l.fr = nm then
      ⟨bumpM (bumpM s.M (findM l.to s.M) (- backX s.M l)) (findM l.fr s.M) (backX s.M l),
       if l.n - backX s.M l = 0 then s.L.eraseIdx i else s.L.set i ⟨l.fr, l.to, l.n - backX s.M l⟩, s.t + backX s.M l⟩
    else s
def backN (nm : ByteArray) : Nat → BSt → BSt
  | 0, s => s
  | i + 1, s => backN nm i (backS nm i s)
def backA (nm : ByteArray) (s : HSt) : BSt := backN nm s.L.length ⟨s.M, s.L, 0⟩
/-- a loan that may stand -/
structure LnOk (M : List Mem) (l : Loan) : Prop where
  fr : l.fr ∈ nmsM M
  to : l.to ∈ nmsM M
  ne : l.fr ≠ l.to
  n1 : 1 ≤ l.n
  n2 : l.n ≤ 100
structure BOk (s : BSt) : Prop where
  tk : TkOk (tksL s.M)
  ln : ∀ l ∈ s.L, LnOk s.M l
theorem findM_ne {a b : ByteArray} {M : List Mem} (ha : a ∈ nmsM M) (h : a ≠ b) : findM a M ≠ findM b M := by
  intro e
  have h1 := findM_lt ha
  obtain ⟨m, hm⟩ : ∃ m, M[findM a M]? = some m := ⟨_, List.getElem?_eq_getElem h1⟩
  have h2 := findM_nm hm
  rw [e] at hm
  have h3 := findM_nm hm
  exact h (h2.symm.trans h3)
theorem LnOk.nms {M M' : List Mem} {l : Loan} (h : LnOk M l) (e : nmsM M' = nmsM M) : LnOk M' l := ⟨by rw [e]; exact h.fr, by rw [e]; exact h.to, h.ne, h.n1, h.n2⟩
theorem backX_ok {M : List Mem} {l : Loan} (h : TkOk (tksL M)) (hl : LnOk M l) : 0 ≤ backX M l ∧ backX M l ≤ l.n ∧ backX M l ≤ nth (tksL M) (findM l.to M) ∧ backX M l ≤ 100 - nth (tksL M) (findM l.fr M) := by
  have h1 := h.2 (findM l.to M) (by rw [tksL_len]; exact findM_lt hl.to)
  have h2 := h.2 (findM l.fr M) (by rw [tksL_len]; exact findM_lt hl.fr)
  have := hl.n1
  unfold backX
  omega
theorem TkOk.bumpM {M : List Mem} {i : Nat} {x : Int} (h : TkOk (tksL M)) (hi : i < M.length) (h0 : 0 ≤ nth (tksL M) i + x) (h1 : nth (tksL M) i + x ≤ 100) : TkOk (tksL (bumpM M i x)) := by
  rw [tksL_bumpM M i x hi]
  refine ⟨by rw [List.length_set]; exact h.1, fun k hk => ?_⟩
  rw [List.length_set] at hk
  rw [nth_set _ _ _ _ (by rw [tksL_len]; exact hi)]
  split
  · exact ⟨h0, h1⟩
  · exact h.2 k hk
theorem backS_ok {s : BSt} (h : BOk s) (nm : ByteArray) (i : Nat) : BOk (backS nm i s) ∧ nmsM (backS nm i s).M = nmsM s.M ∧ tkSum (backS nm i s).M = tkSum s.M ∧ s.t ≤ (backS nm i s).t ∧ (backS nm i s).t ≤ s.t + 100 := by
  unfold backS
  cases hL : s.L[i]? with
  | none => exact ⟨h, rfl, rfl, Int.le_refl _, by show s.t ≤ s.t + 100; omega⟩
  | some l =>
    by_cases hf : l.fr = nm
    · simp only [hf, if_true]
      have hl := h.ln l (List.mem_of_getElem? hL)
      have hx := backX_ok h.tk hl
      have a1 := findM_lt hl.to
      have a2 := findM_lt hl.fr
      have ane := findM_ne hl.to hl.ne.symm
      rw [hf] at hx a2 ane
      have hn := hl.n2
      generalize backX s.M l = x at hx ⊢
      have b1 := h.tk.2 (findM l.to s.M) (by rw [tksL_len]; exact a1)
      have b2 := h.tk.2 (findM nm s.M) (by rw [tksL_len]; exact a2)
      have e1 : nmsM (bumpM (bumpM s.M (findM l.to s.M) (-x)) (findM nm s.M) x) = nmsM s.M := by rw [nmsM_bumpM, nmsM_bumpM]
      refine ⟨⟨?_, fun l' hl' => ?_⟩, e1, ?_, by omega, by omega⟩
      · refine TkOk.bumpM (TkOk.bumpM h.tk a1 (by omega) (by omega)) (by rw [bumpM_len]; exact a2) ?_ ?_
        all_goals
          rw [tksL_bumpM _ _ _ a1, nth_set_ne _ _ _ _ ane]
          omega
      · have : ∀ l' ∈ (if l.n - x = 0 then s.L.eraseIdx i else s.L.set i ⟨nm, l.to, l.n - x⟩), LnOk s.M l' := by
          intro l' hl'
          split at hl'
          · exact h.ln l' (List.mem_of_mem_eraseIdx hl')
          · rcases List.mem_or_eq_of_mem_set hl' with h2 | h2
            · exact h.ln l' h2
            · subst h2
              exact ⟨by rw [← hf]; exact hl.fr, hl.to, by rw [← hf]; exact hl.ne, by show 1 ≤ l.n - x; omega, by show l.n - x ≤ 100; omega⟩
        exact (this l' hl').nms e1
      · rw [tkSum_bumpM _ _ _ (by rw [bumpM_len]; exact a2), tkSum_bumpM _ _ _ a1]; omega
    · simp only [if_neg hf]
      exact ⟨h, by first | trivial | rfl, by first | trivial | rfl, by first | trivial | omega, by omega⟩
theorem backS_len (nm : ByteArray) (i : Nat) (s : BSt) (h : i + 1 ≤ s.L.length) : i ≤ (backS nm i s).L.length ∧ (backS nm i s).L.length ≤ s.L.length := by
  unfold backS
  cases hL : s.L[i]? with
  | none => simp only; omega
  | some l =>
    by_cases hf : l.fr = nm
    · simp only [hf, if_true]
      split
      · rw [List.length_eraseIdx_of_lt (by omega)]; omega
      · rw [List.length_set]; omega
    · simp only [if_neg hf]; omega
end Go.Proofs.Ytjplnkkcmkpkbaa
