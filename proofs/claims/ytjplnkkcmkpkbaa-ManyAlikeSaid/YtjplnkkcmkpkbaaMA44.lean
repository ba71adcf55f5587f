/- Several of my texts in one: Hal16, HalDo. -/
import Derived.Test.YtjplnkkcmkpkbaaMA41
import Derived.Test.YtjplnkkcmkpkbaaMA43
set_option linter.unusedSimpArgs false
set_option linter.unusedVariables false
/- Do: fair. -/
namespace Go.Proofs.Ytjplnkkcmkpkbaa
open Go.RowKit

set_option maxRecDepth 100000 in
set_option maxHeartbeats 8000000 in
theorem halDo7y {w0 w : World} (H : Nat) (s : HSt) (B : List Big) (n : Int) (nm to : ByteArray) (h : Hw w0 w H s B) (h8 : TkOk (tksL s.M)) (hwa : ∀ j, j < s.M.length → 0 ≤ nth (wnsL s.M) j) (i : Nat) (m : Mem) (hp : nextW (tksL s.M) (wnsL s.M) = ((i : Int), 0)) (hm : s.M[i]? = some m) (hwn : 0 ≤ m.wn ∧ m.wn < 9223372036854775807) :
    Calls Try.prog 28 #[.pointer (some ⟨H, 0, .none⟩), .agg #[.int .i64 7, .int .i64 n, .string nm, .string to]] w (ToldW w0 H (setW s i ⟨m.nm, m.tk, m.wn + 1⟩) B m.nm (m.wn + 1) 0) := by
  obtain ⟨N, hN⟩ : ∃ N, w.heap.size = N := ⟨_, rfl⟩
  have HB := Lib.hid (doBox h 7 n nm to hN)
  obtain ⟨e0, e1, e2, e3, -⟩ := HB.out.deed (N := N) (k := 7) (n := n) (nm := nm) (to := to) (by simp)
  obtain ⟨t0, t1, tz0, tz1⟩ := HB.out.told (N := N + 1) (nm := ⟨#[]⟩) (n := 0) (by simp)
  obtain ⟨u0, u1, -, -⟩ := HB.out.told (N := N + 2) (nm := ⟨#[]⟩) (n := 0) (by simp)
  clear h
  have hl8 : s.M.length ≤ 8 := by have := h8.1; rw [tksL_len] at this; exact this
  obtain ⟨am, cm, c0, hS, hHl⟩ := HB.out.hall
  have HS := Lib.hid hS
  have HM := Lib.hid hm
  clear hS hm
  go_enter Try.func28, Try.ntmps28
  go_wp2_with fail
  generalize hW : (((w.alloc (.cells #[.int .i64 7, .int .i64 n, .string nm, .string to] 28)).alloc (.cells #[.string ⟨#[]⟩, .int .i64 0] 35)).alloc (.cells #[.string ⟨#[]⟩, .int .i64 0] 35)) = W at *
  obtain ⟨L, hL⟩ : ∃ L, s.M.length = L := ⟨_, rfl⟩
  have HLL := Lib.hid hL
  rw [hL] at c0 hl8 ⊢
  clear hW hL u0 u1
  go_loopw [7, 35] (fun o q wr => ∃ (k : Nat) (ad : Option Addr) (cp : Nat), k ≤ L ∧ q = .int .i64 k ∧ o = .slice ad k cp ∧ Fr W wr [⟨3, .slice ad k cp, ints (wnsL (s.M.take k))⟩]) (fun _ q _ => L - (intOf q).toNat)
  case atStart => exact ⟨0, none, 0, by omega, rfl, rfl, (Fr.start W).nilSlice _⟩
  case round =>
    obtain ⟨k, ad, cp, hk, rfl, rfl, hfr⟩ := hrel
    by_cases hlt : k < L
    · obtain ⟨x, hx2⟩ : ∃ m, s.M[k]? = some m := ⟨_, List.getElem?_eq_getElem (by rw [HLL.out]; exact hlt)⟩
      obtain ⟨b, off, rfl, -, x1, x2, x3⟩ := (hfr.old HS.out).memA k x hx2
      have HT := Lib.hid (take_succ_mem hx2)
      have d1 : (0 : Int) ≤ (k : Int) := by omega
      have d2 : (k : Int) < (L : Int) := by omega
      have HF := Lib.hid (hfr.alloc (.cells #[.string x.nm, .int .i64 x.tk, .int .i64 x.wn] 90))
      clear hfr hx2
      go_wp2_with (with_reducible refine at_slot 43 ?_; go_must (refine wpList_pushInt' rfl _ _ rfl ad k cp _ x.wn _ _ (by simp) rfl HF.out rfl ?_ ?_); rotate_left; intro ad' cp' w3 hf2 hlt2)
      · rw [show wnsL (s.M.take k) ++ [x.wn] = wnsL (s.M.take (k + 1)) from by rw [HT.out, wnsL, wnsL, List.map_append]; rfl] at hf2
        exact ⟨⟨k + 1, ad', cp', by omega, by simp, rfl, hf2⟩, by simp only [intOf]; omega⟩
      · omega
    · obtain rfl : k = L := by omega
      have HF := Lib.hid hfr
      have hwf : Fr W wr [⟨3, .slice ad k cp, ints (wnsL s.M)⟩] := by
        have := HF.out
        rw [List.take_of_length_le (by rw [HLL.out]; exact Nat.le_refl _)] at this
        exact this
      have HWF := Lib.hid hwf
      have HBX := Lib.hid (HB.out.call hwf)
      have c0' := (hwf.bel.cell (p := ⟨H, 0, .none⟩) hHl).trans c0
      have hSx := hwf.old HS.out
      have HSX := Lib.hid hSx
      clear hfr hwf HF hSx
      go_wp2_with fail
      refine (halTickets s.M k am cm H wr HSX.out HLL.out (by omega) c0').mono ?_; rintro e w3 ⟨ad2, cp2, rfl, hcp2, hf3⟩
      have HB3 := Lib.hid (HBX.out.call hf3)
      have HS3 := Lib.hid (hf3.get 0 rfl)
      have HW3 := Lib.hid (Sa.keep (w := wr) (HWF.out.get 0 rfl) hf3.bel)
      clear hf3
      go_wp2_with fail
      refine (strNextAny (tksL s.M) (wnsL s.M) k ad2 ad cp2 cp w3 HS3.out HW3.out (by rw [tksL_len]; exact HLL.out) (by rw [wnsL_len]; exact HLL.out) h8 (fun j hj => hwa j (by rw [HLL.out]; exact hj))).mono ?_; rintro e w4 ⟨rfl, hf4⟩
      have HB4 := Lib.hid (HB3.out.keep hf4.bel)
      clear hf4
      rw [hp]
      go_wp2_with fail
      refine (halWon H s _ i m HB4.out HM.out hwn).mono ?_; rintro e w5 ⟨rfl, hw5⟩
      have HW5 := Lib.hid hw5
      clear hw5
      obtain ⟨x0, x1, xz0, xz1⟩ := HW5.out.told (N := N + 1) (nm := ⟨#[]⟩) (n := 0) (by simp)
      go_wp2_with fail
      have hw6 := HW5.out.perm ((List.Perm.cons _ (List.Perm.swap _ _ _)).trans (List.Perm.swap _ _ _))
      have h3 := Hw.setTold (nm' := m.nm) (n' := (m.wn + 1)) hw6
      generalize (World.setCell (w5) ⟨N + 1, 0, none⟩ (.string m.nm)).setCell ⟨N + 1, 1, none⟩ (.int .i64 (m.wn + 1)) = WF at h3 ⊢
      obtain ⟨q0, q1, -, -⟩ := h3.told (N := N + 1) (nm := m.nm) (n := (m.wn + 1)) List.mem_cons_self
      have h4 : ToldW w0 H (setW s i ⟨m.nm, m.tk, m.wn + 1⟩) B m.nm (m.wn + 1) 0 (.returned (.tuple #[.agg #[.string m.nm, .int .i64 (m.wn + 1)], .int .i64 0])) WF := ⟨rfl, h3.sub (List.sublist_append_right [_, _, _, _, _] B)⟩
      refine bodyPost_ret (v := .tuple #[.agg #[.string m.nm, .int .i64 (m.wn + 1)], .int .i64 0]) ?_ ?_ ?_
      rotate_left
      · rfl
      · exact h4
      simp [results, Try.results28, go_sem, q0, q1]
set_option maxRecDepth 100000 in
set_option maxHeartbeats 8000000 in
theorem halDo7n {w0 w : World} (H : Nat) (s : HSt) (B : List Big) (n : Int) (nm to : ByteArray) (h : Hw w0 w H s B) (h8 : TkOk (tksL s.M)) (hwa : ∀ j, j < s.M.length → 0 ≤ nth (wnsL s.M) j) (q er : Int) (hp : nextW (tksL s.M) (wnsL s.M) = (q, er)) (he : er ≠ 0) :
    Calls Try.prog 28 #[.pointer (some ⟨H, 0, .none⟩), .agg #[.int .i64 7, .int .i64 n, .string nm, .string to]] w (ToldW w0 H s B ⟨#[]⟩ 0 er) := by
  obtain ⟨N, hN⟩ : ∃ N, w.heap.size = N := ⟨_, rfl⟩
  have HB := Lib.hid (doBox h 7 n nm to hN)
  obtain ⟨e0, e1, e2, e3, -⟩ := HB.out.deed (N := N) (k := 7) (n := n) (nm := nm) (to := to) (by simp)
  obtain ⟨t0, t1, tz0, tz1⟩ := HB.out.told (N := N + 1) (nm := ⟨#[]⟩) (n := 0) (by simp)
  obtain ⟨u0, u1, -, -⟩ := HB.out.told (N := N + 2) (nm := ⟨#[]⟩) (n := 0) (by simp)
  clear h
  have hl8 : s.M.length ≤ 8 := by have := h8.1; rw [tksL_len] at this; exact this
  obtain ⟨am, cm, c0, hS, hHl⟩ := HB.out.hall
  have HS := Lib.hid hS
  clear hS
  go_enter Try.func28, Try.ntmps28
  go_wp2_with fail
  generalize hW : (((w.alloc (.cells #[.int .i64 7, .int .i64 n, .string nm, .string to] 28)).alloc (.cells #[.string ⟨#[]⟩, .int .i64 0] 35)).alloc (.cells #[.string ⟨#[]⟩, .int .i64 0] 35)) = W at *
  obtain ⟨L, hL⟩ : ∃ L, s.M.length = L := ⟨_, rfl⟩
  have HLL := Lib.hid hL
  rw [hL] at c0 hl8 ⊢
  clear hW hL u0 u1
  go_loopw [7, 35] (fun o q wr => ∃ (k : Nat) (ad : Option Addr) (cp : Nat), k ≤ L ∧ q = .int .i64 k ∧ o = .slice ad k cp ∧ Fr W wr [⟨3, .slice ad k cp, ints (wnsL (s.M.take k))⟩]) (fun _ q _ => L - (intOf q).toNat)
  case atStart => exact ⟨0, none, 0, by omega, rfl, rfl, (Fr.start W).nilSlice _⟩
  case round =>
    obtain ⟨k, ad, cp, hk, rfl, rfl, hfr⟩ := hrel
    by_cases hlt : k < L
    · obtain ⟨x, hx2⟩ : ∃ m, s.M[k]? = some m := ⟨_, List.getElem?_eq_getElem (by rw [HLL.out]; exact hlt)⟩
      obtain ⟨b, off, rfl, -, x1, x2, x3⟩ := (hfr.old HS.out).memA k x hx2
      have HT := Lib.hid (take_succ_mem hx2)
      have d1 : (0 : Int) ≤ (k : Int) := by omega
      have d2 : (k : Int) < (L : Int) := by omega
      have HF := Lib.hid (hfr.alloc (.cells #[.string x.nm, .int .i64 x.tk, .int .i64 x.wn] 90))
      clear hfr hx2
      go_wp2_with (with_reducible refine at_slot 43 ?_; go_must (refine wpList_pushInt' rfl _ _ rfl ad k cp _ x.wn _ _ (by simp) rfl HF.out rfl ?_ ?_); rotate_left; intro ad' cp' w3 hf2 hlt2)
      · rw [show wnsL (s.M.take k) ++ [x.wn] = wnsL (s.M.take (k + 1)) from by rw [HT.out, wnsL, wnsL, List.map_append]; rfl] at hf2
        exact ⟨⟨k + 1, ad', cp', by omega, by simp, rfl, hf2⟩, by simp only [intOf]; omega⟩
      · omega
    · obtain rfl : k = L := by omega
      have HF := Lib.hid hfr
      have hwf : Fr W wr [⟨3, .slice ad k cp, ints (wnsL s.M)⟩] := by
        have := HF.out
        rw [List.take_of_length_le (by rw [HLL.out]; exact Nat.le_refl _)] at this
        exact this
      have HWF := Lib.hid hwf
      have HBX := Lib.hid (HB.out.call hwf)
      have c0' := (hwf.bel.cell (p := ⟨H, 0, .none⟩) hHl).trans c0
      have hSx := hwf.old HS.out
      have HSX := Lib.hid hSx
      clear hfr hwf HF hSx
      go_wp2_with fail
      refine (halTickets s.M k am cm H wr HSX.out HLL.out (by omega) c0').mono ?_; rintro e w3 ⟨ad2, cp2, rfl, hcp2, hf3⟩
      have HB3 := Lib.hid (HBX.out.call hf3)
      have HS3 := Lib.hid (hf3.get 0 rfl)
      have HW3 := Lib.hid (Sa.keep (w := wr) (HWF.out.get 0 rfl) hf3.bel)
      clear hf3
      go_wp2_with fail
      refine (strNextAny (tksL s.M) (wnsL s.M) k ad2 ad cp2 cp w3 HS3.out HW3.out (by rw [tksL_len]; exact HLL.out) (by rw [wnsL_len]; exact HLL.out) h8 (fun j hj => hwa j (by rw [HLL.out]; exact hj))).mono ?_; rintro e w4 ⟨rfl, hf4⟩
      have HB4 := Lib.hid (HB3.out.keep hf4.bel)
      clear hf4
      rw [hp]
      go_wp2_with fail
      refine (halWonE H s _ q er HB4.out he).mono ?_; rintro e w5 ⟨rfl, hw5⟩
      have HW5 := Lib.hid hw5
      clear hw5
      obtain ⟨x0, x1, xz0, xz1⟩ := HW5.out.told (N := N + 1) (nm := ⟨#[]⟩) (n := 0) (by simp)
      go_wp2_with fail
      have hw6 := HW5.out.perm ((List.Perm.cons _ (List.Perm.swap _ _ _)).trans (List.Perm.swap _ _ _))
      have h3 := Hw.setTold (nm' := ⟨#[]⟩) (n' := 0) hw6
      generalize (World.setCell (w5) ⟨N + 1, 0, none⟩ (.string ⟨#[]⟩)).setCell ⟨N + 1, 1, none⟩ (.int .i64 0) = WF at h3 ⊢
      obtain ⟨q0, q1, -, -⟩ := h3.told (N := N + 1) (nm := ⟨#[]⟩) (n := 0) List.mem_cons_self
      have h4 : ToldW w0 H s B ⟨#[]⟩ 0 er (.returned (.tuple #[.agg #[.string ⟨#[]⟩, .int .i64 0], .int .i64 er])) WF := ⟨rfl, h3.sub (List.sublist_append_right [_, _, _, _, _] B)⟩
      refine bodyPost_ret (v := .tuple #[.agg #[.string ⟨#[]⟩, .int .i64 0], .int .i64 er]) ?_ ?_ ?_
      rotate_left
      · rfl
      · exact h4
      simp [results, Try.results28, go_sem, q0, q1]
end Go.Proofs.Ytjplnkkcmkpkbaa
/- Contract of Do, for every deed. -/
namespace Go.Proofs.Ytjplnkkcmkpkbaa
open Go.RowKit

theorem wnsL_nth {M : List Mem} {i : Nat} {m : Mem} (h : M[i]? = some m) : nth (wnsL M) i = m.wn := by
  unfold nth wnsL
  rw [List.getD_eq_getElem?_getD, List.getElem?_map, h]; rfl
theorem HOk.wnAt {s : HSt} {K : Nat} (h : HOk s K) {i : Nat} {m : Mem} (hm : s.M[i]? = some m) : 0 ≤ m.wn ∧ m.wn ≤ K := h.wn m (List.mem_of_getElem? hm)
theorem HOk.l8 {s : HSt} {K : Nat} (h : HOk s K) : s.M.length ≤ 8 := by have := h.tk.1; rw [tksL_len] at this; exact this
theorem HOk.wnn {s : HSt} {K : Nat} (h : HOk s K) : ∀ j, j < s.M.length → 0 ≤ nth (wnsL s.M) j := fun j hj => by
  obtain ⟨m, hm⟩ : ∃ m, s.M[j]? = some m := ⟨_, List.getElem?_eq_getElem hj⟩
  rw [wnsL_nth hm]; exact (h.wnAt hm).1
theorem doS_at {s : HSt} {k n : Int} {nm to : ByteArray} {m : Mem} (hk : k = 2 ∨ k = 3 ∨ k = 4 ∨ k = 6) (hn : namedB nm = true) (hm : s.M[findM nm s.M]? = some m) : doS s k n nm to = atSH s k n nm to (findM nm s.M) m := by
  unfold doS
  rw [if_neg (by omega), if_neg (by omega), if_pos (by omega), if_neg (by rw [hn]; simp), if_neg (by omega), hm]
theorem halDo {w0 w : World} (H : Nat) (s : HSt) (B : List Big) (K : Nat) (k n : Int) (nm to : ByteArray) (h : Hw w0 w H s B) (ok : HOk s K) (hK : (K + 1) * 40 ≤ 140737488355328) (hs : nm.size ≤ maxLen) :
    Calls Try.prog 28 #[.pointer (some ⟨H, 0, .none⟩), .agg #[.int .i64 k, .int .i64 n, .string nm, .string to]] w
      (ToldW w0 H (doS s k n nm to).s B (doS s k n nm to).nm (doS s k n nm to).n (doS s k n nm to).er) := by
  have hll := ok.ll
  by_cases k5 : k = 5
  · subst k5
    have e : doS s 5 n nm to = wonS s (winW (tksL s.M) n) := by unfold doS; rw [if_pos rfl]
    rw [e]
    obtain ⟨p, hp⟩ : ∃ p, winW (tksL s.M) n = p := ⟨_, rfl⟩
    rw [hp]
    unfold wonS
    by_cases he : p.2 = 0
    · have ha := winW_at (tksL s.M) n (by rw [hp]; exact he)
      rw [hp, tksL_len] at ha
      obtain ⟨m, hm⟩ : ∃ m, s.M[p.1.toNat]? = some m := ⟨_, List.getElem?_eq_getElem ha.2⟩
      rw [if_pos he, hm]
      have hw := ok.wnAt hm
      exact halDo5y H s B n nm to h ok.tk p.1.toNat m (by rw [hp]; exact Prod.ext (by simp only; omega) he) hm ⟨hw.1, by omega⟩
    · rw [if_neg he]
      exact halDo5n H s B n nm to h ok.tk p.1 p.2 hp he
  by_cases k7 : k = 7
  · subst k7
    have e : doS s 7 n nm to = wonS s (nextW (tksL s.M) (wnsL s.M)) := by unfold doS; rw [if_neg (by decide), if_pos rfl]
    rw [e]
    obtain ⟨p, hp⟩ : ∃ p, nextW (tksL s.M) (wnsL s.M) = p := ⟨_, rfl⟩
    rw [hp]
    unfold wonS
    by_cases he : p.2 = 0
    · have ha := nextW_at (tksL s.M) (wnsL s.M) (by rw [hp]; exact he)
      rw [hp, tksL_len] at ha
      obtain ⟨m, hm⟩ : ∃ m, s.M[p.1.toNat]? = some m := ⟨_, List.getElem?_eq_getElem ha.2⟩
      rw [if_pos he, hm]
      have hw := ok.wnAt hm
      exact halDo7y H s B n nm to h ok.tk ok.wnn p.1.toNat m (by rw [hp]; exact Prod.ext (by simp only; omega) he) hm ⟨hw.1, by omega⟩
    · rw [if_neg he]
      exact halDo7n H s B n nm to h ok.tk ok.wnn p.1 p.2 hp he
  by_cases kk : k = 1 ∨ k = 2 ∨ k = 3 ∨ k = 4 ∨ k = 6
  · cases hn : namedB nm
    · have e : doS s k n nm to = ⟨s, ⟨#[]⟩, 0, 3⟩ := by unfold doS; rw [if_neg k5, if_neg k7, if_pos kk, if_pos hn]
      rw [e]
      rcases kk with rfl | rfl | rfl | rfl | rfl
      · exact halDoN1 H s B n nm to h hs hn
      · exact halDoN2 H s B n nm to h hs hn
      · exact halDoN3 H s B n nm to h hs hn
      · exact halDoN4 H s B n nm to h hs hn
      · exact halDoN6 H s B n nm to h hs hn
    · by_cases k1 : k = 1
      · subst k1
        have e : doS s 1 n nm to = ⟨joinW s (fiV nm s.M) n nm, ⟨#[]⟩, 0, joinE s (fiV nm s.M) n⟩ := by unfold doS; rw [if_neg (by decide), if_neg (by decide), if_pos kk, if_neg (by rw [hn]; simp), if_pos rfl]
        rw [e]
        exact halDo1 H s B n nm to h hs hn ok.l8
      · have k4 : k = 2 ∨ k = 3 ∨ k = 4 ∨ k = 6 := by omega
        rcases Nat.lt_or_ge (findM nm s.M) s.M.length with hi | hi
        · obtain ⟨m, hm⟩ : ∃ m, s.M[findM nm s.M]? = some m := ⟨_, List.getElem?_eq_getElem hi⟩
          rw [doS_at k4 hn hm]
          unfold atSH
          rcases k4 with rfl | rfl | rfl | rfl
          · exact halDo2 H s B n nm to h hs hn ok.l8 _ m rfl hi hm (by unfold maxLen; omega)
          · rw [if_neg (by decide), if_pos rfl]
            exact halDo3 H s B n nm to h hs hn ok.l8 _ rfl hi ok.tk (by omega)
          · rw [if_neg (by decide), if_neg (by decide), if_pos rfl]
            exact halDo4 H s B n nm to h hs hn ok.l8 _ rfl hi ⟨ok.tk, ok.ln⟩ (by omega)
          · rw [if_neg (by decide), if_neg (by decide), if_neg (by decide)]
            exact halDo6 H s B n nm to h hs hn ok.l8 _ m rfl hi hm
        · have e : doS s k n nm to = ⟨s, ⟨#[]⟩, 0, 4⟩ := by
            unfold doS
            rw [if_neg k5, if_neg k7, if_pos kk, if_neg (by rw [hn]; simp), if_neg k1, List.getElem?_eq_none hi]
          rw [e]
          rcases k4 with rfl | rfl | rfl | rfl
          · exact halDoM2 H s B n nm to h hs hn ok.l8 hi
          · exact halDoM3 H s B n nm to h hs hn ok.l8 hi
          · exact halDoM4 H s B n nm to h hs hn ok.l8 hi
          · exact halDoM6 H s B n nm to h hs hn ok.l8 hi
  · have e : doS s k n nm to = ⟨s, ⟨#[]⟩, 0, 1⟩ := by unfold doS; rw [if_neg k5, if_neg k7, if_neg kk]
    rw [e]
    exact halDoX H s B k n nm to h (by omega)
end Go.Proofs.Ytjplnkkcmkpkbaa
