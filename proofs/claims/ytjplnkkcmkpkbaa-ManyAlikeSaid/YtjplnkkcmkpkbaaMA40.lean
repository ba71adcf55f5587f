/- Several of my texts in one: Hal12. -/
import Derived.Test.YtjplnkkcmkpkbaaMA39
import Derived.Deep.QuietTactic
import Derived.BigQuiet
set_option linter.unusedSimpArgs false
set_option linter.unusedVariables false
/- Contract of back. -/
namespace Go.Proofs.Ytjplnkkcmkpkbaa
open Go.RowKit

theorem run_min3i (ts : Array TypeId) (t : TypeId) (x y z : Int) (w : World) :
    Sem.run Try.prog (Builtin.min_ ts t #[.int .i64 x, .int .i64 y, .int .i64 z]) w = .ok (.int .i64 (min (min x y) z)) w := by
  simp only [Builtin.min_, List.foldlM_cons, List.foldlM_nil, Builtin.min2, pure_bind]
  rw [show (if z < (if y < x then y else x) then z else (if y < x then y else x)) = min (min x y) z from by split <;> split <;> omega]
  rfl
def eT (N : Nat) (nm : ByteArray) (n : Int) : Big := ⟨35, 1, 2, .slice (some ⟨N, 0, none⟩) 2 2, [.string nm, .int .i64 n]⟩
def eN (N : Nat) (l : Loan) : Big := ⟨106, 1, 3, .slice (some ⟨N, 0, none⟩) 3 3, [.string l.fr, .string l.to, .int .i64 l.n]⟩
theorem Fg.ln {w0 w : World} {B : List Big} (h : Fg w0 w B) {N : Nat} {l : Loan} (he : eN N l ∈ B) :
    w.cell? ⟨N, 0, .none⟩ = some (.string l.fr) ∧ w.cell? ⟨N, 1, .none⟩ = some (.string l.to) ∧ w.cell? ⟨N, 2, .none⟩ = some (.int .i64 l.n) := by
  obtain ⟨g, e, _, h1, h2, h3⟩ := h.open he (by show 0 < 3; omega)
  cases e
  exact ⟨h2 0 (by show 0 < 3; omega), h2 1 (by show 1 < 3; omega), h2 2 (by show 2 < 3; omega)⟩
theorem Fg.setL {w0 w : World} {B1 B2 : List Big} {g cap : Nat} {M : List Loan} (h : Fg w0 w (B1 ++ eL (some ⟨g, 0, none⟩) cap M :: B2)) (i j : Nat) (m m' : Loan) (hi : M[i]? = some m) (hj : j < 3) (v : Value) (e : (loanC m).set j v = loanC m') :
    Fg w0 (w.setCell ⟨g, i * 3 + j, none⟩ v) (B1 ++ eL (some ⟨g, 0, none⟩) cap (M.set i m') :: B2) := by
  have := h.setIn (i * 3 + j) v
  rw [rowsC_set loanC_len M i j m m' v hi hj e] at this
  unfold eL
  rw [List.length_set]
  exact this
def BackW (w0 : World) (H : Nat) (s : HSt) (B : List Big) (nm : ByteArray) (e : Ending) (w' : World) : Prop :=
  e = .returned (.agg #[.string nm, .int .i64 (backA nm s).t]) ∧ Hw w0 w' H ⟨(backA nm s).M, (backA nm s).L⟩ B
set_option maxRecDepth 100000 in
set_option maxHeartbeats 16000000 in
theorem halBack {w0 w : World} (H : Nat) (s : HSt) (B : List Big) (nm : ByteArray) (h : Hw w0 w H s B) (hs : BOk ⟨s.M, s.L, 0⟩) (hL : s.L.length ≤ 90000000000000000) :
    Calls Try.prog 47 #[.pointer (some ⟨H, 0, .none⟩), .string nm] w (BackW w0 H s B nm) := by
  obtain ⟨am, cm, al, cl, hf⟩ := h
  have hf1 := hf.new 35 #[.string ⟨#[]⟩, .int .i64 0] [.string ⟨#[]⟩, .int .i64 0] rfl w.heap.size rfl 2 rfl (by omega)
  obtain ⟨N, hN⟩ : ∃ N, w.heap.size = N := ⟨_, rfl⟩
  rw [hN] at hf1
  have hf1 : Fg w0 _ (eT N ⟨#[]⟩ 0 :: hallE H am cm al cl s B) := hf1
  obtain ⟨-, c1, hHl, -, -⟩ := hf1.hall (H := H) (vm := .slice am s.M.length cm) (vl := .slice al s.L.length cl) (by simp [hallE])
  have HF1 := Lib.hid hf1
  have HS := Lib.hid hs
  clear hf hf1 hs
  go_enter Try.func47, Try.ntmps47
  go_wp2_with fail
  go_loopw [5, 6] (fun o q wr => ∃ (k : Nat) (st : BSt), k ≤ st.L.length ∧ st.L.length ≤ s.L.length ∧ q = .int .i64 ((k : Int) - 1) ∧ o = .int .i64 st.t ∧ 0 ≤ st.t ∧ st.t ≤ 100 * ((s.L.length : Int) - k) ∧ Hid (backN nm k st = backA nm s ∧ nmsM st.M = nmsM s.M ∧ BOk st) ∧ Hid (Fg w0 wr (eT N ⟨#[]⟩ 0 :: hallE H am cm al cl ⟨st.M, st.L⟩ B))) (fun _ q _ => (intOf q + 1).toNat)
  case atStart => exact ⟨s.L.length, ⟨s.M, s.L, 0⟩, Nat.le_refl _, Nat.le_refl _, rfl, rfl, by simp, by simp, Lib.hid ⟨rfl, rfl, HS.out⟩, HF1⟩
  case round =>
    obtain ⟨k, st, hk, hk2, rfl, rfl, ht0, ht1, HB, HF⟩ := hrel
    cases k with
    | zero =>
      have d1 : decide ((0 : Int) ≤ ((0 : Nat) : Int) - 1) = false := rfl
      have hf2 := HF.out
      have HF2 : Hid (Fg w0 _ (eT N ⟨#[]⟩ 0 :: hallE H am cm al cl ⟨st.M, st.L⟩ B)) := Lib.hid hf2
      obtain ⟨gt, e, -, -, t1, t2⟩ := hf2.open (T := 35) (c := 1) (n := 2) (cap := 2) (ad := some ⟨N, 0, none⟩) (xs := [.string ⟨#[]⟩, .int .i64 0]) List.mem_cons_self (by simp)
      cases e
      have c0 := t1 0 (by simp)
      have c1 := t1 1 (by simp)
      have f0 := t2 0
      have f1 := t2 1
      simp at c0 c1
      clear hf2 t1 t2
      go_wp2_with fail
      have h3 : Fg w0 _ (eT N nm st.t :: hallE H am cm al cl ⟨st.M, st.L⟩ B) := (HF2.out.set 0 (.string nm)).set 1 (.int .i64 st.t)
      generalize (wr.setCell ⟨N, 0, none⟩ (.string nm)).setCell ⟨N, 1, none⟩ (.int .i64 st.t) = WF at h3 ⊢
      obtain ⟨gt, e, -, -, t1, -⟩ := h3.open (T := 35) (c := 1) (n := 2) (cap := 2) (ad := some ⟨N, 0, none⟩) (xs := [.string nm, .int .i64 st.t]) List.mem_cons_self (by simp)
      cases e
      have t10 : WF.cell? ⟨N, 0, none⟩ = some (.string nm) := t1 0 (by simp)
      have t11 : WF.cell? ⟨N, 1, none⟩ = some (.int .i64 st.t) := t1 1 (by simp)
      have h4 : BackW w0 H s B nm (.returned (.agg #[.string nm, .int .i64 st.t])) WF := by
        have e := HB.out.1
        unfold backN at e
        unfold BackW
        rw [← e]
        exact ⟨rfl, am, cm, al, cl, h3.tail⟩
      refine bodyPost_ret (v := .agg #[.string nm, .int .i64 st.t]) ?_ ?_ ?_
      rotate_left
      · rfl
      · exact h4
      simp [results, Try.results47, go_sem, t10, t11]
    | succ k =>
      have ek : ((k + 1 : Nat) : Int) - 1 = (k : Int) := by omega
      rw [ek]
      obtain ⟨l, hl⟩ : ∃ l, st.L[k]? = some l := ⟨_, List.getElem?_eq_getElem hk⟩
      have d1 : decide ((0 : Int) ≤ (k : Int)) = true := decide_eq_true (by omega)
      have d2 : (0 : Int) ≤ (k : Int) := by omega
      have d3 : (k : Int) < (st.L.length : Int) := by omega
      have hf2 := HF.out
      obtain ⟨-, c1, hHl, -, -⟩ := hf2.hall (H := H) (vm := .slice am st.M.length cm) (vl := .slice al st.L.length cl) (by simp [hallE])
      obtain ⟨gl, rfl, -, x1, x2, x3, -⟩ := hf2.loan3 (ad := al) (cap := cl) (L := st.L) (by simp [hallE]) k l hl
      have g := str_eq l.fr nm
      by_cases hfn : l.fr = nm
      · rw [decide_eq_true hfn] at g
        have HF2 : Hid (Fg w0 _ (eN wr.heap.size ⟨nm, l.to, l.n⟩ :: eT N ⟨#[]⟩ 0 :: hallE H am cm (some ⟨gl, 0, none⟩) cl ⟨st.M, st.L⟩ B)) := Lib.hid (hf2.new 106 #[.string nm, .string l.to, .int .i64 l.n] [.string nm, .string l.to, .int .i64 l.n] rfl wr.heap.size rfl 3 rfl (by omega))
        obtain ⟨y1, y2, y3⟩ := HF2.out.ln List.mem_cons_self
        obtain ⟨cc0, -, hHl2, -, -⟩ := HF2.out.hall (H := H) (vm := .slice am st.M.length cm) (vl := .slice (some ⟨gl, 0, none⟩) st.L.length cl) (by simp [hallE])
        have HS2 := Lib.hid (HF2.out.sa (T := 90) (c := 3) (n := st.M.length) (cap := cm) (ad := am) (xs := rowsC memC st.M) (by simp [hallE, eM]))
        have HC2 := Lib.hid cc0
        have HH2 := Lib.hid hHl2
        have hln := HB.out.2.2.ln l (List.mem_of_getElem? hl)
        have hm8 : st.M.length ≤ 8 := by have := HB.out.2.2.tk.1; rw [tksL_len] at this; exact this
        have hfr := findM_lt hln.fr
        have hto := findM_lt hln.to
        have hne := findM_ne hln.to hln.ne.symm
        rw [hfn] at hfr hne
        have hX := backX_ok HB.out.2.2.tk hln
        obtain ⟨ma, hma⟩ : ∃ m, st.M[findM nm st.M]? = some m := ⟨_, List.getElem?_eq_getElem hfr⟩
        obtain ⟨mb, hmb⟩ : ∃ m, st.M[findM l.to st.M]? = some m := ⟨_, List.getElem?_eq_getElem hto⟩
        have hxv : backX st.M l = min (min l.n mb.tk) (100 - ma.tk) := by unfold backX; rw [hfn, tksL_nth hma, tksL_nth hmb]
        rw [hfn, tksL_nth hma, tksL_nth hmb] at hX
        have hma0 := HB.out.2.2.tk.2 (findM nm st.M) (by rw [tksL_len]; exact hfr)
        have hmb0 := HB.out.2.2.tk.2 (findM l.to st.M) (by rw [tksL_len]; exact hto)
        rw [tksL_nth hma] at hma0
        rw [tksL_nth hmb] at hmb0
        have hn2 := hln.n2
        have E1 : fiV nm st.M = (findM nm st.M : Nat) := by unfold fiV; rw [if_pos hfr]
        have E2 : fiV l.to st.M = (findM l.to st.M : Nat) := by unfold fiV; rw [if_pos hto]
        have HE1 := Lib.hid E1; have HE2 := Lib.hid E2
        have HBS := Lib.hid (show backS nm k st = ⟨bumpM (bumpM st.M (findM l.to st.M) (- backX st.M l)) (findM nm st.M) (backX st.M l), if l.n - backX st.M l = 0 then st.L.eraseIdx k else st.L.set k ⟨nm, l.to, l.n - backX st.M l⟩, st.t + backX st.M l⟩ by unfold backS; rw [hl]; simp only [hfn, if_true])
        have HBO := Lib.hid (backS_ok HB.out.2.2 nm k)
        have HBL := Lib.hid (backS_len nm k st hk)
        have hBU : bumpM (bumpM st.M (findM l.to st.M) (- backX st.M l)) (findM nm st.M) (backX st.M l) = (st.M.set (findM l.to st.M) ⟨mb.nm, mb.tk - backX st.M l, mb.wn⟩).set (findM nm st.M) ⟨ma.nm, ma.tk + backX st.M l, ma.wn⟩ := by
          rw [bumpM_at hmb, bumpM_at (by rw [List.getElem?_set_ne hne]; exact hma), Int.sub_eq_add_neg]
        have HMJ := Lib.hid (show (st.M.set (findM l.to st.M) ⟨mb.nm, mb.tk - backX st.M l, mb.wn⟩)[findM nm st.M]? = some ma by rw [List.getElem?_set_ne hne]; exact hma)
        rw [hBU] at HBS
        generalize backX st.M l = x at *
        generalize hfa : findM nm st.M = a at *
        generalize hfb : findM l.to st.M = b at *
        have HXV := Lib.hid hxv
        have HMA := Lib.hid hma; have HMB := Lib.hid hmb; have HLL := Lib.hid hl
        obtain ⟨hx0, hx1, hx2, hx3⟩ := hX
        obtain ⟨hma0, hma1⟩ := hma0
        obtain ⟨hmb0, hmb1⟩ := hmb0
        clear hf2 E1 E2 hBU hln hfa hfb hxv hma hmb hl HF1 hf1 HS hHl2 cc0
        go_wp2_with fail
        have HLF := Lib.hid hfn
        clear c1 x1 x2 x3 hHl g hfn
        have HKS : Hid (∀ w', Below (wr.alloc (.cells #[.string nm, .string l.to, .int .i64 l.n] 106)).drew.heap.size (wr.alloc (.cells #[.string nm, .string l.to, .int .i64 l.n] 106)).drew w' → w'.cell? ⟨wr.heap.size, 0, .none⟩ = some (.string nm) ∧ w'.cell? ⟨wr.heap.size, 1, .none⟩ = some (.string l.to)) := Lib.hid fun w' hB => ⟨(hB.cell (p := ⟨wr.heap.size, 0, .none⟩) (by show wr.heap.size < (wr.alloc _).heap.size; simp)).trans y1, (hB.cell (p := ⟨wr.heap.size, 1, .none⟩) (by show wr.heap.size < (wr.alloc _).heap.size; simp)).trans y2⟩
        refine wp_region_U [7] (fun w' : World => w'.cell? ⟨wr.heap.size, 0, .none⟩ = some (.string nm) ∧ w'.cell? ⟨wr.heap.size, 1, .none⟩ = some (.string l.to)) (by kernel_rfl) ?_
        have hSd : (fun w' : World => w'.cell? ⟨wr.heap.size, 0, .none⟩ = some (.string nm) ∧ w'.cell? ⟨wr.heap.size, 1, .none⟩ = some (.string l.to)) (wr.alloc (.cells #[.string nm, .string l.to, .int .i64 l.n] 106)).drew := ⟨y1, y2⟩
        refine wpAnyU_takeY (i := 0) (v := ?_) rfl (by kernel_rfl) (by kernel_rfl) (by kernel_rfl) (by kernel_rfl) (fun _ _ _ h => h) (Or.inl ⟨by rfl, ?_⟩) (by assumption) ?_
        rotate_left
        · intro w _; go_simp; try with_reducible rfl
        try simp only [Act.put]
        try simp only [List.setIfInBounds_toArray]
        try simp only [List.set_cons_succ]
        try simp only [List.set_cons_zero]
        refine wpAnyU_takeY (i := 1) (v := ?_) rfl (by kernel_rfl) (by kernel_rfl) (by kernel_rfl) (by kernel_rfl) (fun _ _ _ h => h) (Or.inl ⟨by rfl, ?_⟩) (by assumption) ?_
        rotate_left
        · intro w _; go_simp; try with_reducible rfl
        try simp only [Act.put]
        try simp only [List.setIfInBounds_toArray]
        try simp only [List.set_cons_succ]
        try simp only [List.set_cons_zero]
        refine wpAnyU_take (i := 2) (v := ?_) rfl (by kernel_rfl) (by kernel_rfl) (by kernel_rfl) (by kernel_rfl) (by kernel_rfl) (by kernel_rfl) (fun _ _ _ h => h) (Or.inl ⟨by rfl, ?_⟩) (by assumption) ?_
        rotate_left
        · intro w hSw; obtain ⟨s1, s2⟩ := hSw; go_simp; try with_reducible rfl
        try simp only [Act.put]
        try simp only [List.setIfInBounds_toArray]
        try simp only [List.set_cons_succ]
        try simp only [List.set_cons_zero]
        refine wpAnyU_takeY (i := 4) (v := ?_) rfl (by kernel_rfl) (by kernel_rfl) (by kernel_rfl) (by kernel_rfl) (fun _ _ _ h => h) (Or.inl ⟨by rfl, ?_⟩) (by assumption) ?_
        rotate_left
        · intro w _; go_simp; try with_reducible rfl
        try simp only [Act.put]
        try simp only [List.setIfInBounds_toArray]
        try simp only [List.set_cons_succ]
        try simp only [List.set_cons_zero]
        refine wpAnyU_takeY (i := 5) (v := ?_) rfl (by kernel_rfl) (by kernel_rfl) (by kernel_rfl) (by kernel_rfl) (fun _ _ _ h => h) (Or.inl ⟨by rfl, ?_⟩) (by assumption) ?_
        rotate_left
        · intro w _; go_simp; try with_reducible rfl
        try simp only [Act.put]
        try simp only [List.setIfInBounds_toArray]
        try simp only [List.set_cons_succ]
        try simp only [List.set_cons_zero]
        refine wpAnyU_take (i := 6) (v := ?_) rfl (by kernel_rfl) (by kernel_rfl) (by kernel_rfl) (by kernel_rfl) (by kernel_rfl) (by kernel_rfl) (fun _ _ _ h => h) (Or.inl ⟨by rfl, ?_⟩) (by assumption) ?_
        rotate_left
        · intro w hSw; obtain ⟨s1, s2⟩ := hSw; go_simp; try with_reducible rfl
        try simp only [Act.put]
        try simp only [List.setIfInBounds_toArray]
        try simp only [List.set_cons_succ]
        try simp only [List.set_cons_zero]
        refine wpAnyU_ready (rs := [3]) (by kernel_rfl) (by simp) ?_
        refine AllReadyU.cons rfl (fun K hK => ?_) AllReadyU.nil
        go_simp
        refine (halFind st.M st.M.length am cm nm H (wr.alloc (.cells #[.string nm, .string l.to, .int .i64 l.n] 106)).drew HS2.out rfl (by omega) HC2.out HH2.out).mono ?_; rintro e w3 ⟨rfl, hf3⟩
        have HF3 := Lib.hid (HF2.out.drew.keep hf3.bel)
        obtain ⟨-, y2', -⟩ := HF3.out.ln List.mem_cons_self
        obtain ⟨cc3, -, hHl3, -, -⟩ := HF3.out.hall (H := H) (vm := .slice am st.M.length cm) (vl := .slice (some ⟨gl, 0, none⟩) st.L.length cl) (by simp [hallE])
        have HS3 := Lib.hid (HF3.out.sa (T := 90) (c := 3) (n := st.M.length) (cap := cm) (ad := am) (xs := rowsC memC st.M) (by simp [hallE, eM]))
        have HC3 := Lib.hid cc3; have HH3 := Lib.hid hHl3
        have HB3 := Lib.hid hf3.bel
        clear hf3 cc3 hHl3
        rw [HE1.out]
        refine hK.out _ _ (fun _ => HKS.out _ HB3.out) ?_
        clear hK K
        try simp only [Act.put]
        try simp only [List.setIfInBounds_toArray]
        try simp only [List.set_cons_succ]
        try simp only [List.set_cons_zero]
        refine wpAnyU_ready (rs := [7]) (by kernel_rfl) (by simp) ?_
        refine AllReadyU.cons rfl (fun K hK => ?_) AllReadyU.nil
        go_simp
        refine (halFind st.M st.M.length am cm l.to H w3 HS3.out rfl (by omega) HC3.out HH3.out).mono ?_; rintro e w4 ⟨rfl, hf4⟩
        have HF4 := Lib.hid (HF3.out.keep hf4.bel)
        clear hf4
        rw [HE2.out]
        refine hK.out _ _ (fun h => absurd h (by decide +kernel)) ?_
        clear hK K
        try simp only [Act.put]
        try simp only [List.setIfInBounds_toArray]
        try simp only [List.set_cons_succ]
        try simp only [List.set_cons_zero]
        refine wpAnyU_ready (rs := [8]) (by kernel_rfl) (by simp) ?_
        refine AllReadyU.cons rfl (fun K hK => ?_) AllReadyU.nil
        go_simp
        refine hK.out _ _ (fun h => absurd h (by decide +kernel)) ?_
        clear hK K
        try simp only [Act.put]
        try simp only [List.setIfInBounds_toArray]
        try simp only [List.set_cons_succ]
        try simp only [List.set_cons_zero]
        refine wpAnyU_ready (rs := [9]) (by kernel_rfl) (by simp) ?_
        refine AllReadyU.cons rfl (fun K hK => ?_) AllReadyU.nil
        go_simp
        refine hK.out _ _ (fun h => absurd h (by decide +kernel)) ?_
        clear hK K
        try simp only [Act.put]
        try simp only [List.setIfInBounds_toArray]
        try simp only [List.set_cons_succ]
        try simp only [List.set_cons_zero]
        refine wpAnyU_done (by kernel_rfl) ?_ _
        obtain ⟨-, -, z3⟩ := HF4.out.ln List.mem_cons_self
        have hf5 : Fg w0 w4.drew (hallE H am cm (some ⟨gl, 0, none⟩) cl ⟨st.M, st.L⟩ (eT N ⟨#[]⟩ 0 :: B)) := HF4.out.tail.drew.perm (List.perm_middle (a := eT N ⟨#[]⟩ 0) (l₁ := [_, _, _]) (l₂ := B)).symm
        obtain ⟨c0, c1, -, fh0, fh1⟩ := hf5.hall (H := H) (vm := .slice am st.M.length cm) (vl := .slice (some ⟨gl, 0, none⟩) st.L.length cl) (by simp [hallE])
        obtain ⟨g, rfl, -, -, ca, -, fz⟩ := hf5.mem3 (ad := am) (cap := cm) (M := st.M) (by simp [hallE]) a _ HMA.out
        obtain ⟨g', ee, -, -, cb, -, -⟩ := hf5.mem3 (ad := some ⟨g, 0, none⟩) (cap := cm) (M := st.M) (by simp [hallE]) b _ HMB.out
        cases ee
        have z1 := fz (a * 3 + 1)
        have z2 := fz (b * 3 + 1)
        have q0 : w4.cell? ⟨H, 0, none⟩ = some (.slice (some ⟨g, 0, none⟩) st.M.length cm) := c0
        have q1 : w4.cell? ⟨H, 1, none⟩ = some (.slice (some ⟨gl, 0, none⟩) st.L.length cl) := c1
        have qa : w4.cell? ⟨g, a * 3 + 1, none⟩ = some (.int .i64 ma.tk) := ca
        have qb : w4.cell? ⟨g, b * 3 + 1, none⟩ = some (.int .i64 mb.tk) := cb
        have qz1 : w4.frozen? ⟨g, a * 3 + 1, none⟩ = false := z1
        have qz2 : w4.frozen? ⟨g, b * 3 + 1, none⟩ = false := z2
        have hHg : H ≠ g := by
          rcases (List.pairwise_cons.1 hf5.far).1 (eM (some ⟨g, 0, none⟩) cm st.M) (by simp) with h | h
          · exact absurd h (by simp [eH, Value.ownBlock])
          · exact fun e => h (by rw [show (eH H (.slice (some ⟨g, 0, none⟩) st.M.length cm) (.slice (some ⟨gl, 0, none⟩) st.L.length cl)).v.ownBlock = some H from rfl, show (eM (some ⟨g, 0, none⟩) cm st.M).v.ownBlock = some g from rfl, e])
        obtain ⟨gl', ee, -, -, -, x3, fl⟩ := hf5.loan3 (ad := some ⟨gl, 0, none⟩) (cap := cl) (L := st.L) (by simp [hallE]) k l HLL.out
        cases ee
        have qx3 : w4.cell? ⟨gl, k * 3 + 2, none⟩ = some (.int .i64 l.n) := x3
        have qfl : w4.frozen? ⟨gl, k * 3 + 2, none⟩ = false := fl (k * 3 + 2)
        have hHl : H ≠ gl := by
          rcases (List.pairwise_cons.1 hf5.far).1 (eL (some ⟨gl, 0, none⟩) cl st.L) (by simp) with h | h
          · exact absurd h (by simp [eH, Value.ownBlock])
          · exact fun e => h (by rw [show (eH H (.slice (some ⟨g, 0, none⟩) st.M.length cm) (.slice (some ⟨gl, 0, none⟩) st.L.length cl)).v.ownBlock = some H from rfl, show (eL (some ⟨gl, 0, none⟩) cl st.L).v.ownBlock = some gl from rfl, e])
        have hgl : g ≠ gl := by
          rcases (List.pairwise_cons.1 (List.pairwise_cons.1 hf5.far).2).1 (eL (some ⟨gl, 0, none⟩) cl st.L) (by simp) with h | h
          · exact absurd h (by simp [eM, Value.ownBlock])
          · exact fun e => h (by rw [show (eM (some ⟨g, 0, none⟩) cm st.M).v.ownBlock = some g from rfl, show (eL (some ⟨gl, 0, none⟩) cl st.L).v.ownBlock = some gl from rfl, e])
        have hHg' := hHg.symm; have hHl' := hHl.symm; have hgl' := hgl.symm
        have hf6 := hf5.setM (B1 := [_]) b 1 mb ⟨mb.nm, mb.tk - x, mb.wn⟩ HMB.out (by omega) (.int .i64 (mb.tk - x)) rfl
        have HF6 := Lib.hid hf6
        have HCL := Lib.hid (hf5.cap (T := 106) (c := 3) (n := st.L.length) (cap := cl) (ad := some ⟨gl, 0, none⟩) (xs := rowsC loanC st.L) (by simp [hallE, eL]))
        have d5 : (0 : Int) ≤ (a : Int) := by omega
        have d6 : (a : Int) < (st.M.length : Int) := by omega
        have d7 : (0 : Int) ≤ (b : Int) := by omega
        have d8 : (b : Int) < (st.M.length : Int) := by omega
        have hmin := run_min3i #[3, 3, 3] 3 l.n mb.tk (100 - ma.tk)
        rw [← HXV.out] at hmin
        clear hf5 hf6 fz HF3 HS3 HC3 HH3 HB3 y2' y1 y2 y3 HS2 HC2 HH2 HKS hSd c1 HF2 c0 ca cb z1 z2 x3 fl
        go_wp2_with fail
        go_region
        have hk6 := HF6.out.setM (B1 := [_]) a 1 ma ⟨ma.nm, ma.tk + x, ma.wn⟩ HMJ.out (by omega) (.int .i64 (ma.tk + x)) rfl
        have hk7 := hk6.setL (B1 := [_, _]) k 2 l ⟨nm, l.to, l.n - x⟩ HLL.out (by omega) (.int .i64 (l.n - x)) (by rw [← HLF.out]; rfl)
        have HK7 : Hid (Fg w0 (((w4.setCell ⟨g, b * 3 + 1, none⟩ (.int .i64 (mb.tk - x))).setCell ⟨g, a * 3 + 1, none⟩ (.int .i64 (ma.tk + x))).setCell ⟨gl, k * 3 + 2, none⟩ (.int .i64 (l.n - x))).drew _) := Lib.hid hk7
        have hbl := HBL.out
        have hbo := HBO.out
        clear hk6 hk7
        by_cases hz : l.n - x = 0
        · have z9 : ((l.n - x) == 0) = true := by rw [hz]; rfl
          have HK7z := HK7.out
          rw [hz] at HK7z
          have h8 := HK7z.perm (show List.Perm _ (eL (some ⟨gl, 0, none⟩) cl (st.L.set k ⟨nm, l.to, 0⟩) :: eH H (.slice (some ⟨g, 0, none⟩) st.M.length cm) (.slice (some ⟨gl, 0, none⟩) st.L.length cl) :: eM (some ⟨g, 0, none⟩) cm ((st.M.set b ⟨mb.nm, mb.tk - x, mb.wn⟩).set a ⟨ma.nm, ma.tk + x, ma.wn⟩) :: eT N ⟨#[]⟩ 0 :: B) from List.perm_middle (a := eL (some ⟨gl, 0, none⟩) cl (st.L.set k ⟨nm, l.to, 0⟩)) (l₁ := [_, _]) (l₂ := _))
          have HD := Lib.hid (delLoan _ gl cl k st.L.length _ h8 (by rw [List.length_set]) (by omega) HCL.out)
          rw [HBS.out] at hbl hbo
          have HBS2 := Lib.hid HBS.out
          rw [if_pos hz] at hbl hbo HBS2
          have HBL2 := Lib.hid hbl; have HBO2 := Lib.hid hbo
          clear h8 HK7z HK7 hbl hbo
          go_wp2_with fail
          refine HD.out.mono ?_; rintro e w5 ⟨rfl, hf9⟩
          obtain ⟨-, q1, -, -, f1⟩ := hf9.hall (H := H) (vm := .slice (some ⟨g, 0, none⟩) st.M.length cm) (vl := .slice (some ⟨gl, 0, none⟩) st.L.length cl) (by simp)
          have HF9 := Lib.hid hf9
          clear hf9
          go_wp2_with fail
          have e0 := HB.out.1
          rw [backN, HBS2.out] at e0
          obtain ⟨o1, o2, -, o4, o5⟩ := HBO2.out
          refine ⟨⟨k, _, HBL2.out.1, Nat.le_trans HBL2.out.2 hk2, rfl, rfl, Int.le_trans ht0 o4, ?_, Lib.hid ⟨e0, o2.trans HB.out.2.1, o1⟩, Lib.hid ?_⟩, by simp only [intOf]; omega⟩
          · simp only at o5 ⊢; omega
          · have h5 := Fg.setIn (B1 := [_]) HF9.out 1 (.slice (some ⟨gl, 0, none⟩) (st.L.length - 1) cl)
            have e2 : (st.L.set k ⟨nm, l.to, 0⟩).eraseIdx k = st.L.eraseIdx k := by rw [List.eraseIdx_set_eq]
            rw [e2] at h5
            unfold hallE
            simp only [List.length_set, List.length_eraseIdx_of_lt (show k < st.L.length by omega)]
            refine h5.perm ?_
            refine (List.Perm.swap _ _ _).trans ?_
            refine List.Perm.trans ?_ (List.perm_middle (a := eT N ⟨#[]⟩ 0) (l₁ := [_, _, _]) (l₂ := B))
            exact List.Perm.cons _ (.swap _ _ _)
        · have z9 : ((l.n - x) == 0) = false := by rw [beq_eq_false_iff_ne]; exact hz
          rw [HBS.out] at hbl hbo
          have HBS2 := Lib.hid HBS.out
          rw [if_neg hz] at hbl hbo HBS2
          have HBL2 := Lib.hid hbl; have HBO2 := Lib.hid hbo
          clear hbl hbo
          go_wp2_with fail
          have e0 := HB.out.1
          rw [backN, HBS2.out] at e0
          obtain ⟨o1, o2, -, o4, o5⟩ := HBO2.out
          refine ⟨⟨k, _, HBL2.out.1, Nat.le_trans HBL2.out.2 hk2, rfl, rfl, Int.le_trans ht0 o4, ?_, Lib.hid ⟨e0, o2.trans HB.out.2.1, o1⟩, Lib.hid ?_⟩, by simp only [intOf]; omega⟩
          · simp only at o5 ⊢; omega
          · unfold hallE
            simp only [List.length_set]
            exact HK7.out.perm (List.perm_middle (a := eT N ⟨#[]⟩ 0) (l₁ := [_, _, _]) (l₂ := B))
      · rw [decide_eq_false hfn] at g
        have HBS := Lib.hid (show backS nm k st = st by unfold backS; rw [hl]; simp only [if_neg hfn])
        have HFA := Lib.hid (hf2.alloc (.cells #[.string l.fr, .string l.to, .int .i64 l.n] 106))
        clear hf2
        go_wp2_with fail
        refine ⟨⟨k, st, by omega, hk2, rfl, rfl, ht0, by omega, Lib.hid ⟨?_, HB.out.2⟩, HFA⟩, by simp only [intOf]; omega⟩
        have := HB.out.1
        rw [backN, HBS.out] at this
        exact this
end Go.Proofs.Ytjplnkkcmkpkbaa
