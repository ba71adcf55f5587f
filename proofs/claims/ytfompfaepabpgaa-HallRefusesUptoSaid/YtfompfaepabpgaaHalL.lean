/- Who lent what he had has all of it back: in plain words. -/
import Derived.Test.YtfompfaepabpgaaHalT
namespace Go.Proofs.Ytfompfaepabpgaa
open Go.RowKit

/-- the tickets of a name -/
def tkN (nm : ByteArray) (M : List Mem) : Int := nth (tksL M) (findM nm M)
theorem tkOf_some {nm : ByteArray} {M : List Mem} (h : nm ∈ nmsM M) : tkOf nm M = some (tkN nm M) := by
  have hl := findM_lt h
  obtain ⟨m, hm⟩ : ∃ m, M[findM nm M]? = some m := ⟨_, List.getElem?_eq_getElem hl⟩
  unfold tkOf tkN
  rw [hm, tksL_nth hm]; rfl
theorem tkN_bump (nm : ByteArray) (M : List Mem) (i : Nat) (x : Int) (hi : i < M.length) : tkN nm (bumpM M i x) = if findM nm M = i then tkN nm M + x else tkN nm M := by
  unfold tkN
  rw [findM_bumpM, tksL_bumpM _ _ _ hi]
  by_cases h : findM nm M = i
  · rw [if_pos h, h, nth_set _ _ _ _ (by rw [tksL_len]; exact hi), if_pos rfl]
  · rw [if_neg h, nth_set_ne _ _ _ _ (fun e => h e.symm)]
theorem backS_tk {s : BSt} (h : BOk s) {nm : ByteArray} (i : Nat) : tkN nm (backS nm i s).M = tkN nm s.M + ((backS nm i s).t - s.t) := by
  unfold backS
  cases hL : s.L[i]? with
  | none => simp only; omega
  | some l =>
    by_cases hf : l.fr = nm
    · simp only [if_pos hf]
      have hl := h.ln l (List.mem_of_getElem? hL)
      have a1 := findM_lt hl.to
      have a2 := findM_lt hl.fr
      have ane := findM_ne hl.to hl.ne.symm
      rw [hf] at a2 ane
      rw [hf, tkN_bump _ _ _ _ (by rw [bumpM_len]; exact a2), findM_bumpM, if_pos rfl, tkN_bump _ _ _ _ a1, if_neg (fun e => ane e.symm)]
      omega
    · simp only [if_neg hf]; omega
theorem backN_tk {nm : ByteArray} : ∀ (k : Nat) (s : BSt), BOk s → k ≤ s.L.length → tkN nm (backN nm k s).M = tkN nm s.M + ((backN nm k s).t - s.t) ∧ s.t ≤ (backN nm k s).t
  | 0, s, _, _ => by unfold backN; omega
  | k + 1, s, h, hk => by
    obtain ⟨o1, o2, o3, o4, o5⟩ := backS_ok h nm k
    obtain ⟨l1, l2⟩ := backS_len nm k s hk
    have h1 := backS_tk h (nm := nm) k
    have h2 := backN_tk (nm := nm) k (backS nm k s) o1 l1
    rw [backN]
    omega
theorem loans_law {s : HSt} {K : Nat} (h : HOk s K) {n : Int} {nm to : ByteArray} (hnm : nm ∈ nmsM s.M) (hE : lendE s (findM nm s.M) n to = 0) :
    tkN nm (lendW s (findM nm s.M) n nm to).M = tkN nm s.M - n ∧ anyT nm (lendW s (findM nm s.M) n nm to).L = true ∧ 1 ≤ n ∧ n ≤ 100 ∧ to ∈ nmsM s.M ∧
    n ≤ (backA nm (lendW s (findM nm s.M) n nm to)).t ∧ tkN nm s.M ≤ tkN nm (backA nm (lendW s (findM nm s.M) n nm to)).M := by
  have hi := findM_lt hnm
  have hok := lendW_ok h (n := n) (to := to) hi
  have hs : lendW s (findM nm s.M) n nm to = ⟨bumpM (bumpM s.M (findM nm s.M) (-n)) (findM to s.M) n, s.L ++ [⟨nm, to, n⟩]⟩ := by unfold lendW; rw [if_pos hE]
  unfold lendE at hE
  split at hE
  · cases hE
  · split at hE
    · cases hE
    · split at hE
      · cases hE
      · split at hE
        · cases hE
        · rename_i h1 h2 h3 h4
          have hto : findM to s.M < s.M.length := by omega
          have hij : findM to s.M ≠ findM nm s.M := fun e => h2 (.inl e)
          have hn1 : 1 ≤ n := by
            rcases Int.lt_or_le n 1 with h | h
            · exact absurd (.inr h) h2
            · exact h
          have b1 := h.tk.2 (findM nm s.M) (by rw [tksL_len]; exact hi)
          have b2 := h.tk.2 (findM to s.M) (by rw [tksL_len]; exact hto)
          have e1 : tkN nm (lendW s (findM nm s.M) n nm to).M = tkN nm s.M - n := by
            rw [hs]
            rw [tkN_bump _ _ _ _ (by rw [bumpM_len]; exact hto), findM_bumpM, if_neg (fun e => hij e.symm), tkN_bump _ _ _ _ hi, if_pos rfl]; omega
          have e2 : tkN to (lendW s (findM nm s.M) n nm to).M = tkN to s.M + n := by
            rw [hs]
            rw [tkN_bump _ _ _ _ (by rw [bumpM_len]; exact hto), findM_bumpM, if_pos rfl, tkN_bump _ _ _ _ hi, if_neg hij]
          have hx1 : tkN nm s.M = nth (tksL s.M) (findM nm s.M) := rfl
          have hx2 : tkN to s.M = nth (tksL s.M) (findM to s.M) := rfl
          have hlen : (lendW s (findM nm s.M) n nm to).L.length = s.L.length + 1 := by rw [hs]; simp
          have hlast : (lendW s (findM nm s.M) n nm to).L[s.L.length]? = some ⟨nm, to, n⟩ := by rw [hs]; simp
          have hany : anyT nm (lendW s (findM nm s.M) n nm to).L = true := anyT_yes hlast (by unfold tied; simp)
          refine ⟨e1, hany, hn1, by omega, findM_mem hto, ?_⟩
          generalize lendW s (findM nm s.M) n nm to = s2 at *
          have hb : BOk ⟨s2.M, s2.L, 0⟩ := ⟨hok.tk, hok.ln⟩
          have hstep : (backS nm s.L.length ⟨s2.M, s2.L, 0⟩).t = n := by
            unfold backS
            rw [show (BSt.mk s2.M s2.L 0).L[s.L.length]? = some ⟨nm, to, n⟩ from hlast]
            simp only [if_true]
            have : backX s2.M ⟨nm, to, n⟩ = n := by
              unfold backX
              show min (min n (tkN to s2.M)) (100 - tkN nm s2.M) = n
              rw [e1, e2]; omega
            rw [this]; omega
          have hA : backA nm s2 = backN nm s.L.length (backS nm s.L.length ⟨s2.M, s2.L, 0⟩) := by unfold backA; rw [hlen, backN]
          obtain ⟨o1, -, -, -, -⟩ := backS_ok hb nm s.L.length
          have l1 := backS_len nm s.L.length ⟨s2.M, s2.L, 0⟩ (by show _ ≤ s2.L.length; omega)
          have h5 := backN_tk (nm := nm) s.L.length _ o1 l1.1
          have h6 := backS_tk hb (nm := nm) s.L.length
          rw [← hA, hstep] at h5
          rw [hstep] at h6
          simp only at h6
          omega
end Go.Proofs.Ytfompfaepabpgaa
