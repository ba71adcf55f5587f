/- Contract of leave. -/
import Derived.Test.YtfompfaepabpgaaHal7
namespace Go.Proofs.Ytfompfaepabpgaa
open Go.RowKit

def leaveE (s : HSt) (m : Mem) : Int := if anyT m.nm s.L then 7 else 0
def leaveW (s : HSt) (i : Nat) (m : Mem) : HSt := if anyT m.nm s.L then s else ⟨s.M.eraseIdx i, s.L⟩
set_option maxRecDepth 100000 in
set_option maxHeartbeats 8000000 in
theorem halLeave {w0 w : World} (H : Nat) (s : HSt) (B : List Big) (i : Nat) (m : Mem) (h : Hw w0 w H s B) (hi : s.M[i]? = some m) (h8 : s.M.length ≤ 1000) (hL : s.L.length ≤ maxLen) :
    Calls Try.prog 52 #[.pointer (some ⟨H, 0, .none⟩), .int .i64 i] w (ErrW w0 H (leaveW s i m) B (leaveE s m)) := by
  obtain ⟨am, cm, al, cl, hf⟩ := h
  have hlt : i < s.M.length := (List.getElem?_eq_some_iff.1 hi).1
  obtain ⟨c0, -, -, -, -⟩ := hf.hall (H := H) (vm := .slice am s.M.length cm) (vl := .slice al s.L.length cl) (by simp [hallE])
  obtain ⟨g, rfl, -, x1, -, -, -⟩ := hf.mem3 (ad := am) (cap := cm) (M := s.M) (by simp [hallE]) i _ hi
  have hcm := hf.cap (T := 90) (c := 3) (n := s.M.length) (cap := cm) (ad := some ⟨g, 0, .none⟩) (xs := rowsC memC s.M) (List.mem_cons_of_mem _ List.mem_cons_self)
  have hf1 := hf.alloc (.cells #[.string m.nm] 9)
  obtain ⟨c0', c1', -, -, -⟩ := hf1.hall (H := H) (vm := .slice (some ⟨g, 0, .none⟩) s.M.length cm) (vl := .slice al s.L.length cl) (by simp [hallE])
  have hS := hf1.sa (T := 130) (c := 3) (n := s.L.length) (cap := cl) (ad := al) (xs := rowsC loanC s.L) (List.mem_cons_of_mem _ (List.mem_cons_of_mem _ List.mem_cons_self))
  have HCL := Lib.hid (hasLoan s.L s.L.length al cl m.nm w.heap.size (w.alloc (.cells #[.string m.nm] 9)) hS rfl hL (by have := cell_new w #[.string m.nm] 9 0; rw [Nat.zero_add] at this; rw [this]; rfl) (by simp))
  have HF1 := Lib.hid hf1
  obtain ⟨n, hn⟩ : ∃ n, s.M.length = n := ⟨_, rfl⟩
  have HN := Lib.hid hn
  have d1 : (0 : Int) ≤ (i : Int) := by omega
  have d2 : (i : Int) < (s.M.length : Int) := by omega
  clear hf hf1 hS hi hn
  go_enter Try.func52, Try.ntmps52
  go_wp2_with fail
  refine HCL.out.mono ?_; rintro e w2 ⟨rfl, hf2⟩
  have HF2 := Lib.hid (HF1.out.keep hf2.bel)
  clear hf2 HF1 HCL c0 c0' c1' x1
  cases ha : anyT m.nm s.L
  · have e1 : leaveE s m = 0 := by unfold leaveE; rw [ha]; rfl
    have e2 : leaveW s i m = ⟨s.M.eraseIdx i, s.L⟩ := by unfold leaveW; rw [ha]; rfl
    obtain ⟨c0, -, -, -, -⟩ := HF2.out.hall (H := H) (vm := .slice (some ⟨g, 0, .none⟩) s.M.length cm) (vl := .slice al s.L.length cl) (by simp [hallE])
    have HD := Lib.hid (delMem s.M g cm i s.M.length (eH H (.slice (some ⟨g, 0, .none⟩) s.M.length cm) (.slice al s.L.length cl) :: eL al cl s.L :: B) (HF2.out.perm (.swap _ _ _)) rfl hlt hcm)
    have E1 := Lib.hid e1; have E2 := Lib.hid e2
    clear e1 e2 ha
    go_wp2_with fail
    refine HD.out.mono ?_; rintro e w3 ⟨rfl, hf3⟩
    obtain ⟨q0, -, -, f0, -⟩ := hf3.hall (H := H) (vm := .slice (some ⟨g, 0, .none⟩) s.M.length cm) (vl := .slice al s.L.length cl) (by simp)
    have HF3 := Lib.hid hf3
    clear hf3 HF2 HD c0
    go_wp2_with fail
    go_ret
    unfold ErrW
    rw [E1.out, E2.out]
    refine ⟨rfl, some ⟨g, 0, .none⟩, cm, al, cl, ?_⟩
    have h5 : Fg w0 w3 ([eM (some ⟨g, 0, .none⟩) cm (s.M.eraseIdx i)] ++ eH H (.slice (some ⟨g, 0, .none⟩) s.M.length cm) (.slice al s.L.length cl) :: (eL al cl s.L :: B)) := HF3.out
    have h6 := h5.setIn 0 (.slice (some ⟨g, 0, .none⟩) (s.M.length - 1) cm)
    unfold hallE
    simp only [List.length_eraseIdx_of_lt hlt]
    exact h6.perm (.swap _ _ _)
  · have e1 : leaveE s m = 7 := by unfold leaveE; rw [ha]; rfl
    have e2 : leaveW s i m = s := by unfold leaveW; rw [ha]; rfl
    have E1 := Lib.hid e1; have E2 := Lib.hid e2
    clear e1 e2 ha
    go_wp2_with fail
    go_ret
    unfold ErrW
    rw [E1.out, E2.out]
    exact ⟨rfl, _, _, _, _, HF2.out⟩
end Go.Proofs.Ytfompfaepabpgaa
