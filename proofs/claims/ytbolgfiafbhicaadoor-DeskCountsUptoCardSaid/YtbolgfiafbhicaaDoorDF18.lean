/- Several of my texts in one: Hal4. -/
import Derived.Test.YtbolgfiafbhicaaDoorDF17
import Derived.RegionTactic
/- A hall in the memory; contract of won. -/
namespace Go.Proofs.YtbolgfiafbhicaaDoor
open Go.RowKit

/-- a store into one of them -/
theorem Fg.setIn {w0 w : World} {B1 B2 : List Big} {T : TypeId} {c g n cap : Nat} {xs : List Value} (h : Fg w0 w (B1 ++ ⟨T, c, n, .slice (some ⟨g, 0, none⟩) n cap, xs⟩ :: B2)) (i : Nat) (y : Value) :
    Fg w0 (w.setCell ⟨g, i, none⟩ y) (B1 ++ ⟨T, c, n, .slice (some ⟨g, 0, none⟩) n cap, xs.set i y⟩ :: B2) :=
  ((h.perm List.perm_middle).set i y).perm List.perm_middle.symm
def eH (H : Nat) (vm vl : Value) : Big := ⟨43, 1, 2, .slice (some ⟨H, 0, none⟩) 2 2, [vm, vl]⟩
def eM (ad : Option Addr) (cap : Nat) (M : List Mem) : Big := ⟨65, 3, M.length, .slice ad M.length cap, rowsC memC M⟩
def eL (ad : Option Addr) (cap : Nat) (L : List Loan) : Big := ⟨125, 3, L.length, .slice ad L.length cap, rowsC loanC L⟩
def hallE (H : Nat) (am : Option Addr) (cm : Nat) (al : Option Addr) (cl : Nat) (s : HSt) (B : List Big) : List Big :=
  eH H (.slice am s.M.length cm) (.slice al s.L.length cl) :: eM am cm s.M :: eL al cl s.L :: B
/-- the hall s lies at H, beside B -/
def Hw (w0 w : World) (H : Nat) (s : HSt) (B : List Big) : Prop := ∃ am cm al cl, Fg w0 w (hallE H am cm al cl s B)
theorem Fg.hall {w0 w : World} {B : List Big} (h : Fg w0 w B) {H : Nat} {vm vl : Value} (he : eH H vm vl ∈ B) :
    w.cell? ⟨H, 0, .none⟩ = some vm ∧ w.cell? ⟨H, 1, .none⟩ = some vl ∧ H < w.heap.size ∧ w.frozen? ⟨H, 0, .none⟩ = false ∧ w.frozen? ⟨H, 1, .none⟩ = false := by
  obtain ⟨g, e, _, h1, h2, h3⟩ := h.open he (by show 0 < 2; omega)
  cases e
  exact ⟨h2 0 (by show 0 < 2; omega), h2 1 (by show 1 < 2; omega), h1, h3 0, h3 1⟩
theorem Fg.mem3 {w0 w : World} {B : List Big} (h : Fg w0 w B) {ad : Option Addr} {cap : Nat} {M : List Mem} (he : eM ad cap M ∈ B) (i : Nat) (m : Mem) (hi : M[i]? = some m) :
    ∃ g, ad = some ⟨g, 0, none⟩ ∧ g < w.heap.size ∧ w.cell? ⟨g, i * 3, none⟩ = some (.string m.nm) ∧ w.cell? ⟨g, i * 3 + 1, none⟩ = some (.int .i64 m.tk) ∧ w.cell? ⟨g, i * 3 + 2, none⟩ = some (.int .i64 m.wn) ∧ ∀ j, w.frozen? ⟨g, j, none⟩ = false := by
  have hl : i < M.length := (List.getElem?_eq_some_iff.1 hi).1
  have hlen := rowsC_len memC_len M
  obtain ⟨g, e, _, h1, h2, h3⟩ := h.open he (by rw [hlen]; omega)
  have key : ∀ j, j < 3 → w.cell? ⟨g, i * 3 + j, none⟩ = (memC m)[j]? := fun j hj => by
    rw [h2 (i * 3 + j) (by rw [hlen]; omega), rowsC_get memC_len M i j m hi hj]
  exact ⟨g, e, h1, key 0 (by omega), key 1 (by omega), key 2 (by omega), h3⟩
theorem Fg.loan3 {w0 w : World} {B : List Big} (h : Fg w0 w B) {ad : Option Addr} {cap : Nat} {L : List Loan} (he : eL ad cap L ∈ B) (i : Nat) (m : Loan) (hi : L[i]? = some m) :
    ∃ g, ad = some ⟨g, 0, none⟩ ∧ g < w.heap.size ∧ w.cell? ⟨g, i * 3, none⟩ = some (.string m.fr) ∧ w.cell? ⟨g, i * 3 + 1, none⟩ = some (.string m.to) ∧ w.cell? ⟨g, i * 3 + 2, none⟩ = some (.int .i64 m.n) ∧ ∀ j, w.frozen? ⟨g, j, none⟩ = false := by
  have hl : i < L.length := (List.getElem?_eq_some_iff.1 hi).1
  have hlen := rowsC_len loanC_len L
  obtain ⟨g, e, _, h1, h2, h3⟩ := h.open he (by rw [hlen]; omega)
  have key : ∀ j, j < 3 → w.cell? ⟨g, i * 3 + j, none⟩ = (loanC m)[j]? := fun j hj => by
    rw [h2 (i * 3 + j) (by rw [hlen]; omega), rowsC_get loanC_len L i j m hi hj]
  exact ⟨g, e, h1, key 0 (by omega), key 1 (by omega), key 2 (by omega), h3⟩
theorem Fg.setM {w0 w : World} {B1 B2 : List Big} {g cap : Nat} {M : List Mem} (h : Fg w0 w (B1 ++ eM (some ⟨g, 0, none⟩) cap M :: B2)) (i j : Nat) (m m' : Mem) (hi : M[i]? = some m) (hj : j < 3) (v : Value) (e : (memC m).set j v = memC m') :
    Fg w0 (w.setCell ⟨g, i * 3 + j, none⟩ v) (B1 ++ eM (some ⟨g, 0, none⟩) cap (M.set i m') :: B2) := by
  have := h.setIn (i * 3 + j) v
  rw [rowsC_set memC_len M i j m m' v hi hj e] at this
  unfold eM
  rw [List.length_set]
  exact this
def setW (s : HSt) (i : Nat) (m : Mem) : HSt := ⟨s.M.set i m, s.L⟩
/-- what a call that says something of the hall leaves -/
def ToldW (w0 : World) (H : Nat) (s : HSt) (B : List Big) (nm : ByteArray) (n er : Int) (e : Ending) (w' : World) : Prop :=
  e = .returned (.tuple #[.agg #[.string nm, .int .i64 n], .int .i64 er]) ∧ Hw w0 w' H s B
set_option maxRecDepth 100000 in
set_option maxHeartbeats 8000000 in
theorem halWon {w0 w : World} (H : Nat) (s : HSt) (B : List Big) (i : Nat) (m : Mem) (h : Hw w0 w H s B) (hi : s.M[i]? = some m) (hw : 0 ≤ m.wn ∧ m.wn < 9223372036854775807) :
    Calls Tryd.prog 51 #[.pointer (some ⟨H, 0, .none⟩), .int .i64 i, .int .i64 0] w (ToldW w0 H (setW s i ⟨m.nm, m.tk, m.wn + 1⟩) B m.nm (m.wn + 1) 0) := by
  obtain ⟨am, cm, al, cl, hf⟩ := h
  obtain ⟨nm, tk, wn⟩ := m
  obtain ⟨hw1, hw2⟩ := hw
  simp only at hw1 hw2
  have HI := Lib.hid hi
  have hlt : i < s.M.length := (List.getElem?_eq_some_iff.1 hi).1
  have hf1 := hf.new 71 #[.string ⟨#[]⟩, .int .i64 0] [.string ⟨#[]⟩, .int .i64 0] rfl w.heap.size rfl 2 rfl (by omega)
  obtain ⟨N, hN⟩ : ∃ N, w.heap.size = N := ⟨_, rfl⟩
  rw [hN] at hf1
  obtain ⟨c0, -, -, -, -⟩ := hf1.hall (H := H) (vm := .slice am s.M.length cm) (vl := .slice al s.L.length cl) (by simp [hallE])
  obtain ⟨g, rfl, hg, x1, x2, x3, f3⟩ := hf1.mem3 (ad := am) (cap := cm) (M := s.M) (by simp [hallE]) i _ hi
  have z3 := f3 (i * 3 + 2)
  have hf2 := hf1.setM (B1 := [_, _]) i 2 _ ⟨nm, tk, wn + 1⟩ hi (by omega) (.int .i64 (wn + 1)) rfl
  have hi' : (s.M.set i ⟨nm, tk, wn + 1⟩)[i]? = some ⟨nm, tk, wn + 1⟩ := by rw [List.getElem?_set_self hlt]
  obtain ⟨c0', -, -, -, -⟩ := hf2.hall (H := H) (vm := .slice (some ⟨g, 0, none⟩) s.M.length cm) (vl := .slice al s.L.length cl) (by simp)
  obtain ⟨g', e, hg', x1', x2', x3', f3'⟩ := hf2.mem3 (ad := some ⟨g, 0, none⟩) (cap := cm) (M := s.M.set i ⟨nm, tk, wn + 1⟩) (by simp) i _ hi'
  cases e
  obtain ⟨gt, e, htl, t1, t2⟩ := hf2.open (T := 71) (c := 1) (n := 2) (cap := 2) (ad := some ⟨N, 0, none⟩) (xs := [.string ⟨#[]⟩, .int .i64 0]) (by simp) (by simp)
  cases e
  have u0 := t2.2 0
  have u1 := t2.2 1
  have HF2 := Lib.hid hf2
  have d1 : (0 : Int) ≤ (i : Int) := by omega
  have d2 : (i : Int) < (s.M.length : Int) := by omega
  clear hf hi f3 hf1 hf2 hi' f3' t2 t1 htl hg'
  go_enter Tryd.func51, Tryd.ntmps51
  go_wp2_with fail
  go_region
  go_wp2_with fail
  have h2 : Fg w0 _ (⟨71, 1, 2, .slice (some ⟨N, 0, none⟩) 2 2, [.string ⟨#[]⟩, .int .i64 0]⟩ :: eH H (.slice (some ⟨g, 0, none⟩) s.M.length cm) (.slice al s.L.length cl) :: eM (some ⟨g, 0, none⟩) cm (s.M.set i ⟨nm, tk, wn + 1⟩) :: eL al cl s.L :: B) := HF2.out
  have h3 := ((h2.set 0 (.string nm)).set 1 (.int .i64 (wn + 1))).drew
  generalize ((((w.alloc (.cells #[.string ⟨#[]⟩, .int .i64 0] 71)).setCell ⟨g, i * 3 + 2, none⟩ (.int .i64 (wn + 1))).setCell ⟨N, 0, none⟩ (.string nm)).setCell ⟨N, 1, none⟩ (.int .i64 (wn + 1))).drew = WF at h3 ⊢
  obtain ⟨gt, e, -, -, t1, -⟩ := h3.open (T := 71) (c := 1) (n := 2) (cap := 2) (ad := some ⟨N, 0, none⟩) (xs := [.string nm, .int .i64 (wn + 1)]) List.mem_cons_self (by simp)
  cases e
  have t10 : WF.cell? ⟨N, 0, none⟩ = some (.string nm) := t1 0 (by simp)
  have t11 : WF.cell? ⟨N, 1, none⟩ = some (.int .i64 (wn + 1)) := t1 1 (by simp)
  have h4 : ToldW w0 H (setW s i ⟨nm, tk, wn + 1⟩) B nm (wn + 1) 0 (.returned (.tuple #[.agg #[.string nm, .int .i64 (wn + 1)], .int .i64 0])) WF := by
    refine ⟨rfl, some ⟨g, 0, none⟩, cm, al, cl, ?_⟩
    have h4 := h3.tail
    unfold hallE setW
    simp only [List.length_set]
    exact h4
  refine bodyPost_ret (v := .tuple #[.agg #[.string nm, .int .i64 (wn + 1)], .int .i64 0]) ?_ ?_ ?_
  rotate_left
  · rfl
  · exact h4
  simp [results, Tryd.results51, go_sem, t10, t11]
end Go.Proofs.YtbolgfiafbhicaaDoor
