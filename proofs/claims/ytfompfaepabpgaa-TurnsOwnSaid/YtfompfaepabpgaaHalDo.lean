/- Contract of Do, for every deed. -/
import Derived.Test.YtfompfaepabpgaaHal14
import Derived.Test.YtfompfaepabpgaaHal15
import Derived.Test.YtfompfaepabpgaaHal16
namespace Go.Proofs.Ytfompfaepabpgaa
open Go.RowKit

theorem wnsL_nth {M : List Mem} {i : Nat} {m : Mem} (h : M[i]? = some m) : nth (wnsL M) i = m.wn := by
  unfold nth wnsL
  rw [List.getD_eq_getElem?_getD, List.getElem?_map, h]; rfl
theorem HOk.wnAt {s : HSt} {K : Nat} (h : HOk s K) {i : Nat} {m : Mem} (hm : s.M[i]? = some m) : 0 ≤ m.wn ∧ m.wn ≤ K := h.wn m (List.mem_of_getElem? hm)
theorem HOk.l8 {s : HSt} {K : Nat} (h : HOk s K) : s.M.length ≤ 8 := by have := h.tk.1; rw [tksL_len] at this; exact this
theorem HOk.wnn {s : HSt} {K : Nat} (h : HOk s K) : ∀ j, j < s.M.length → 0 ≤ nth (wnsL s.M) j := fun j hj => by
  obtain ⟨m, hm⟩ : ∃ m, s.M[j]? = some m := ⟨_, List.getElem?_eq_getElem hj⟩
  rw [wnsL_nth hm]; exact (h.wnAt hm).1
theorem doS_at {s : HSt} {k n : Int} {nm to : ByteArray} {m : Mem} (hk : k = 2 ∨ k = 3 ∨ k = 4 ∨ k = 6) (hn : namedB nm = true) (hm : s.M[findM nm s.M]? = some m) : doS s k n nm to = atS s k n nm to (findM nm s.M) m := by
  unfold doS
  rw [if_neg (by omega), if_neg (by omega), if_pos (by omega), if_neg (by rw [hn]; simp), if_neg (by omega), hm]
theorem halDo {w0 w : World} (H : Nat) (s : HSt) (B : List Big) (K : Nat) (k n : Int) (nm to : ByteArray) (h : Hw w0 w H s B) (ok : HOk s K) (hK : (K + 1) * 40 ≤ 140737488355328) (hs : nm.size ≤ maxLen) :
    Calls Try.prog 15 #[.pointer (some ⟨H, 0, .none⟩), .agg #[.int .i64 k, .int .i64 n, .string nm, .string to]] w
      (ToldW w0 H (doS s k n nm to).s B (doS s k n nm to).nm (doS s k n nm to).n (doS s k n nm to).er) := by
  have hll := ok.ll
  by_cases k5 : k = 5
  · subst k5
    have e : doS s 5 n nm to = wonS s (winW (tksL s.M) n) := by unfold doS; rw [if_pos rfl]
    rw [e]
    obtain ⟨p, hp⟩ : ∃ p, winW (tksL s.M) n = p := ⟨_, rfl⟩
    rw [hp]
    unfold wonS
    by_cases he : p.2 = 0
    · have ha := winW_at (tksL s.M) n (by rw [hp]; exact he)
      rw [hp, tksL_len] at ha
      obtain ⟨m, hm⟩ : ∃ m, s.M[p.1.toNat]? = some m := ⟨_, List.getElem?_eq_getElem ha.2⟩
      rw [if_pos he, hm]
      have hw := ok.wnAt hm
      exact halDo5y H s B n nm to h ok.tk p.1.toNat m (by rw [hp]; exact Prod.ext (by simp only; omega) he) hm ⟨hw.1, by omega⟩
    · rw [if_neg he]
      exact halDo5n H s B n nm to h ok.tk p.1 p.2 hp he
  by_cases k7 : k = 7
  · subst k7
    have e : doS s 7 n nm to = wonS s (nextW (tksL s.M) (wnsL s.M)) := by unfold doS; rw [if_neg (by decide), if_pos rfl]
    rw [e]
    obtain ⟨p, hp⟩ : ∃ p, nextW (tksL s.M) (wnsL s.M) = p := ⟨_, rfl⟩
    rw [hp]
    unfold wonS
    by_cases he : p.2 = 0
    · have ha := nextW_at (tksL s.M) (wnsL s.M) (by rw [hp]; exact he)
      rw [hp, tksL_len] at ha
      obtain ⟨m, hm⟩ : ∃ m, s.M[p.1.toNat]? = some m := ⟨_, List.getElem?_eq_getElem ha.2⟩
      rw [if_pos he, hm]
      have hw := ok.wnAt hm
      exact halDo7y H s B n nm to h ok.tk ok.wnn p.1.toNat m (by rw [hp]; exact Prod.ext (by simp only; omega) he) hm ⟨hw.1, by omega⟩
    · rw [if_neg he]
      exact halDo7n H s B n nm to h ok.tk ok.wnn p.1 p.2 hp he
  by_cases kk : k = 1 ∨ k = 2 ∨ k = 3 ∨ k = 4 ∨ k = 6
  · cases hn : namedB nm
    · have e : doS s k n nm to = ⟨s, ⟨#[]⟩, 0, 3⟩ := by unfold doS; rw [if_neg k5, if_neg k7, if_pos kk, if_pos hn]
      rw [e]
      rcases kk with rfl | rfl | rfl | rfl | rfl
      · exact halDoN1 H s B n nm to h hs hn
      · exact halDoN2 H s B n nm to h hs hn
      · exact halDoN3 H s B n nm to h hs hn
      · exact halDoN4 H s B n nm to h hs hn
      · exact halDoN6 H s B n nm to h hs hn
    · by_cases k1 : k = 1
      · subst k1
        have e : doS s 1 n nm to = ⟨joinW s (fiV nm s.M) n nm, ⟨#[]⟩, 0, joinE s (fiV nm s.M) n⟩ := by unfold doS; rw [if_neg (by decide), if_neg (by decide), if_pos kk, if_neg (by rw [hn]; simp), if_pos rfl]
        rw [e]
        exact halDo1 H s B n nm to h hs hn ok.l8
      · have k4 : k = 2 ∨ k = 3 ∨ k = 4 ∨ k = 6 := by omega
        rcases Nat.lt_or_ge (findM nm s.M) s.M.length with hi | hi
        · obtain ⟨m, hm⟩ : ∃ m, s.M[findM nm s.M]? = some m := ⟨_, List.getElem?_eq_getElem hi⟩
          rw [doS_at k4 hn hm]
          unfold atS
          rcases k4 with rfl | rfl | rfl | rfl
          · exact halDo2 H s B n nm to h hs hn ok.l8 _ m rfl hi hm (by unfold maxLen; omega)
          · rw [if_neg (by decide), if_pos rfl]
            exact halDo3 H s B n nm to h hs hn ok.l8 _ rfl hi ok.tk (by omega)
          · rw [if_neg (by decide), if_neg (by decide), if_pos rfl]
            exact halDo4 H s B n nm to h hs hn ok.l8 _ rfl hi ⟨ok.tk, ok.ln⟩ (by omega)
          · rw [if_neg (by decide), if_neg (by decide), if_neg (by decide)]
            exact halDo6 H s B n nm to h hs hn ok.l8 _ m rfl hi hm
        · have e : doS s k n nm to = ⟨s, ⟨#[]⟩, 0, 4⟩ := by
            unfold doS
            rw [if_neg k5, if_neg k7, if_pos kk, if_neg (by rw [hn]; simp), if_neg k1, List.getElem?_eq_none hi]
          rw [e]
          rcases k4 with rfl | rfl | rfl | rfl
          · exact halDoM2 H s B n nm to h hs hn ok.l8 hi
          · exact halDoM3 H s B n nm to h hs hn ok.l8 hi
          · exact halDoM4 H s B n nm to h hs hn ok.l8 hi
          · exact halDoM6 H s B n nm to h hs hn ok.l8 hi
  · have e : doS s k n nm to = ⟨s, ⟨#[]⟩, 0, 1⟩ := by unfold doS; rw [if_neg k5, if_neg k7, if_neg kk]
    rw [e]
    exact halDoX H s B k n nm to h (by omega)
end Go.Proofs.Ytfompfaepabpgaa
