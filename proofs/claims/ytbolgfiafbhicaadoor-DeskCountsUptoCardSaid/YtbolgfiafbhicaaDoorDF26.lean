/- Several of my texts in one: HalB. -/
import Derived.Test.YtbolgfiafbhicaaDoorDF25
/- Giving back, in plain words. -/
namespace Go.Proofs.YtbolgfiafbhicaaDoor
open Go.RowKit

def nmsM (M : List Mem) : List ByteArray := M.map (·.nm)
theorem findM_lt {nm : ByteArray} : ∀ {M : List Mem}, nm ∈ nmsM M → findM nm M < M.length
  | [], h => by simp [nmsM] at h
  | m :: M, h => by
    rw [findM, List.length_cons]
    split
    · omega
    · rename_i h1
      have : nm ∈ nmsM M := by
        rcases List.mem_cons.1 h with h | h
        · exact absurd h.symm h1
        · exact h
      have := findM_lt this
      omega
theorem findM_mem {nm : ByteArray} : ∀ {M : List Mem}, findM nm M < M.length → nm ∈ nmsM M
  | [], h => by simp [findM] at h
  | m :: M, h => by
    rw [findM, List.length_cons] at h
    by_cases h1 : m.nm = nm
    · exact List.mem_cons.2 (.inl h1.symm)
    · rw [if_neg h1] at h
      exact List.mem_cons_of_mem _ (findM_mem (M := M) (by omega))
theorem findM_nms (nm : ByteArray) : ∀ (M M' : List Mem), nmsM M = nmsM M' → findM nm M = findM nm M'
  | [], [], _ => rfl
  | [], _ :: _, h => by simp [nmsM] at h
  | _ :: _, [], h => by simp [nmsM] at h
  | m :: M, m' :: M', h => by
    have h' : m.nm = m'.nm ∧ nmsM M = nmsM M' := by simpa [nmsM] using h
    rw [findM, findM, h'.1, findM_nms nm M M' h'.2]
theorem findM_nm {nm : ByteArray} : ∀ {M : List Mem} {m : Mem}, M[findM nm M]? = some m → m.nm = nm
  | [], m, h => by simp at h
  | x :: M, m, h => by
    rw [findM] at h
    by_cases h1 : x.nm = nm
    · rw [if_pos h1] at h
      have : x = m := by simpa using h
      rw [← this]; exact h1
    · rw [if_neg h1] at h
      exact findM_nm (M := M) (by simpa using h)
theorem nmsM_bumpM (M : List Mem) (i : Nat) (x : Int) : nmsM (bumpM M i x) = nmsM M := by
  unfold bumpM
  split
  · rename_i m h
    unfold nmsM
    rw [List.map_set]
    apply List.ext_getElem?
    intro j
    rw [List.getElem?_set]
    split
    · rename_i e; subst e
      split
      · rw [List.getElem?_map, h]; rfl
      · rename_i h2; rw [List.length_map] at h2; rw [List.getElem?_eq_none (by rw [List.length_map]; omega)]
    · rfl
  · rfl
theorem findM_bumpM (nm : ByteArray) (M : List Mem) (i : Nat) (x : Int) : findM nm (bumpM M i x) = findM nm M := findM_nms nm _ _ (nmsM_bumpM M i x)
theorem tksL_bumpM (M : List Mem) (i : Nat) (x : Int) (h : i < M.length) : tksL (bumpM M i x) = (tksL M).set i (nth (tksL M) i + x) := by
  obtain ⟨m, hm⟩ : ∃ m, M[i]? = some m := ⟨_, List.getElem?_eq_getElem h⟩
  rw [bumpM_at hm, tksL_nth hm]
  unfold tksL
  rw [List.map_set]
/-- all tickets -/
def tkSum (M : List Mem) : Int := isum (tksL M)
theorem tkSum_bumpM (M : List Mem) (i : Nat) (x : Int) (h : i < M.length) : tkSum (bumpM M i x) = tkSum M + x := by
  unfold tkSum
  rw [tksL_bumpM M i x h, isum_set _ _ _ (by rw [tksL_len]; exact h)]
  omega
structure BSt where
  M : List Mem
  L : List Loan
  t : Int
/-- what goes back of one loan -/
def backX (M : List Mem) (l : Loan) : Int := min (min l.n (nth (tksL M) (findM l.to M))) (100 - nth (tksL M) (findM l.fr M))
def backS (nm : ByteArray) (i : Nat) (s : BSt) : BSt :=
  match s.L[i]? with
  | none => s
  | some l => if l.fr = nm then
      ⟨bumpM (bumpM s.M (findM l.to s.M) (- backX s.M l)) (findM l.fr s.M) (backX s.M l),
       if l.n - backX s.M l = 0 then s.L.eraseIdx i else s.L.set i ⟨l.fr, l.to, l.n - backX s.M l⟩, s.t + backX s.M l⟩
    else s
def backN (nm : ByteArray) : Nat → BSt → BSt
  | 0, s => s
  | i + 1, s => backN nm i (backS nm i s)
def backA (nm : ByteArray) (s : HSt) : BSt := backN nm s.L.length ⟨s.M, s.L, 0⟩
/-- a loan that may stand -/
structure LnOk (M : List Mem) (l : Loan) : Prop where
  fr : l.fr ∈ nmsM M
  to : l.to ∈ nmsM M
  ne : l.fr ≠ l.to
  n1 : 1 ≤ l.n
  n2 : l.n ≤ 100
structure BOk (s : BSt) : Prop where
  tk : TkOk (tksL s.M)
  ln : ∀ l ∈ s.L, LnOk s.M l
theorem findM_ne {a b : ByteArray} {M : List Mem} (ha : a ∈ nmsM M) (h : a ≠ b) : findM a M ≠ findM b M := by
  intro e
  have h1 := findM_lt ha
  obtain ⟨m, hm⟩ : ∃ m, M[findM a M]? = some m := ⟨_, List.getElem?_eq_getElem h1⟩
  have h2 := findM_nm hm
  rw [e] at hm
  have h3 := findM_nm hm
  exact h (h2.symm.trans h3)
theorem LnOk.nms {M M' : List Mem} {l : Loan} (h : LnOk M l) (e : nmsM M' = nmsM M) : LnOk M' l := ⟨by rw [e]; exact h.fr, by rw [e]; exact h.to, h.ne, h.n1, h.n2⟩
theorem backX_ok {M : List Mem} {l : Loan} (h : TkOk (tksL M)) (hl : LnOk M l) : 0 ≤ backX M l ∧ backX M l ≤ l.n ∧ backX M l ≤ nth (tksL M) (findM l.to M) ∧ backX M l ≤ 100 - nth (tksL M) (findM l.fr M) := by
  have h1 := h.2 (findM l.to M) (by rw [tksL_len]; exact findM_lt hl.to)
  have h2 := h.2 (findM l.fr M) (by rw [tksL_len]; exact findM_lt hl.fr)
  have := hl.n1
  unfold backX
  omega
theorem TkOk.bumpM {M : List Mem} {i : Nat} {x : Int} (h : TkOk (tksL M)) (hi : i < M.length) (h0 : 0 ≤ nth (tksL M) i + x) (h1 : nth (tksL M) i + x ≤ 100) : TkOk (tksL (bumpM M i x)) := by
  rw [tksL_bumpM M i x hi]
  refine ⟨by rw [List.length_set]; exact h.1, fun k hk => ?_⟩
  rw [List.length_set] at hk
  rw [nth_set _ _ _ _ (by rw [tksL_len]; exact hi)]
  split
  · exact ⟨h0, h1⟩
  · exact h.2 k hk
theorem backS_ok {s : BSt} (h : BOk s) (nm : ByteArray) (i : Nat) : BOk (backS nm i s) ∧ nmsM (backS nm i s).M = nmsM s.M ∧ tkSum (backS nm i s).M = tkSum s.M ∧ s.t ≤ (backS nm i s).t ∧ (backS nm i s).t ≤ s.t + 100 := by
  unfold backS
  cases hL : s.L[i]? with
  | none => exact ⟨h, rfl, rfl, Int.le_refl _, by show s.t ≤ s.t + 100; omega⟩
  | some l =>
    by_cases hf : l.fr = nm
    · simp only [hf, if_true]
      have hl := h.ln l (List.mem_of_getElem? hL)
      have hx := backX_ok h.tk hl
      have a1 := findM_lt hl.to
      have a2 := findM_lt hl.fr
      have ane := findM_ne hl.to hl.ne.symm
      rw [hf] at hx a2 ane
      have hn := hl.n2
      generalize backX s.M l = x at hx ⊢
      have b1 := h.tk.2 (findM l.to s.M) (by rw [tksL_len]; exact a1)
      have b2 := h.tk.2 (findM nm s.M) (by rw [tksL_len]; exact a2)
      have e1 : nmsM (bumpM (bumpM s.M (findM l.to s.M) (-x)) (findM nm s.M) x) = nmsM s.M := by rw [nmsM_bumpM, nmsM_bumpM]
      refine ⟨⟨?_, fun l' hl' => ?_⟩, e1, ?_, by omega, by omega⟩
      · refine TkOk.bumpM (TkOk.bumpM h.tk a1 (by omega) (by omega)) (by rw [bumpM_len]; exact a2) ?_ ?_
        all_goals
          rw [tksL_bumpM _ _ _ a1, nth_set_ne _ _ _ _ ane]
          omega
      · have : ∀ l' ∈ (if l.n - x = 0 then s.L.eraseIdx i else s.L.set i ⟨nm, l.to, l.n - x⟩), LnOk s.M l' := by
          intro l' hl'
          split at hl'
          · exact h.ln l' (List.mem_of_mem_eraseIdx hl')
          · rcases List.mem_or_eq_of_mem_set hl' with h2 | h2
            · exact h.ln l' h2
            · subst h2
              exact ⟨by rw [← hf]; exact hl.fr, hl.to, by rw [← hf]; exact hl.ne, by show 1 ≤ l.n - x; omega, by show l.n - x ≤ 100; omega⟩
        exact (this l' hl').nms e1
      · rw [tkSum_bumpM _ _ _ (by rw [bumpM_len]; exact a2), tkSum_bumpM _ _ _ a1]; omega
    · simp only [if_neg hf]
      exact ⟨h, by first | trivial | rfl, by first | trivial | rfl, by first | trivial | omega, by omega⟩
theorem backS_len (nm : ByteArray) (i : Nat) (s : BSt) (h : i + 1 ≤ s.L.length) : i ≤ (backS nm i s).L.length ∧ (backS nm i s).L.length ≤ s.L.length := by
  unfold backS
  cases hL : s.L[i]? with
  | none => simp only; omega
  | some l =>
    by_cases hf : l.fr = nm
    · simp only [hf, if_true]
      split
      · rw [List.length_eraseIdx_of_lt (by omega)]; omega
      · rw [List.length_set]; omega
    · simp only [if_neg hf]; omega
end Go.Proofs.YtbolgfiafbhicaaDoor
