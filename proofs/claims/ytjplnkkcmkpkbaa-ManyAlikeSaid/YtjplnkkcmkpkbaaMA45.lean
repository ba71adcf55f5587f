/- Several of my texts in one: HalK, HalW. -/
import Derived.Test.YtjplnkkcmkpkbaaMA44
set_option linter.unusedSimpArgs false
set_option linter.unusedVariables false
/- What every deed keeps, in plain words. -/
namespace Go.Proofs.Ytjplnkkcmkpkbaa
open Go.RowKit

theorem nth_getD (l : List Int) (i : Nat) : nth l i = l.getD i 0 := rfl
theorem tksL_set (M : List Mem) (i : Nat) (m m' : Mem) (h : M[i]? = some m) (e : m'.tk = m.tk) : tksL (M.set i m') = tksL M := by
  unfold tksL
  apply List.ext_getElem?
  intro j
  rw [List.getElem?_map, List.getElem?_map, List.getElem?_set]
  by_cases hj : i = j
  · subst hj
    have hi := (List.getElem?_eq_some_iff.1 h).1
    rw [if_pos rfl, if_pos hi, h]
    simp [e]
  · rw [if_neg hj]
theorem nmsM_set (M : List Mem) (i : Nat) (m m' : Mem) (h : M[i]? = some m) (e : m'.nm = m.nm) : nmsM (M.set i m') = nmsM M := by
  unfold nmsM
  apply List.ext_getElem?
  intro j
  rw [List.getElem?_map, List.getElem?_map, List.getElem?_set]
  by_cases hj : i = j
  · subst hj
    have hi := (List.getElem?_eq_some_iff.1 h).1
    rw [if_pos rfl, if_pos hi, h]
    simp [e]
  · rw [if_neg hj]
theorem HOk.le {s : HSt} {K K' : Nat} (h : HOk s K) (hk : K ≤ K') : HOk s K' :=
  ⟨h.tk, fun m hm => ⟨(h.wn m hm).1, by have := (h.wn m hm).2; omega⟩, h.ln, Nat.le_trans h.ll hk, h.nd⟩
theorem wonS_ok {s : HSt} {K : Nat} (h : HOk s K) (r : Int × Int) : HOk (wonS s r).s (K + 1) := by
  unfold wonS
  split
  · cases hm : s.M[r.1.toNat]? with
    | none => exact h.le (by omega)
    | some m =>
      simp only [setW]
      refine ⟨?_, fun m' hm' => ?_, fun l hl => ?_, Nat.le_trans h.ll (by omega), ?_⟩
      · rw [tksL_set _ _ _ _ hm (by rfl)]; exact h.tk
      · rcases List.mem_or_eq_of_mem_set hm' with h1 | h1
        · have := h.wn m' h1; exact ⟨this.1, by omega⟩
        · subst h1; have := h.wnAt hm; simp only; omega
      · exact (h.ln l hl).nms (nmsM_set _ _ _ _ hm (by rfl))
      · rw [nmsM_set _ _ _ _ hm (by rfl)]; exact h.nd
  · exact h.le (by omega)
theorem tkSum_app (M : List Mem) (m : Mem) : tkSum (M ++ [m]) = tkSum M + m.tk := by
  unfold tkSum tksL
  rw [List.map_append]
  induction M with
  | nil => simp [isum]
  | cons x M ih => simp only [List.map_cons, List.cons_append, isum] at ih ⊢; omega
theorem TkOk_app {M : List Mem} {m : Mem} (h : TkOk (tksL M)) (hl : M.length < 8) (h0 : 0 ≤ m.tk) (h1 : m.tk ≤ 100) : TkOk (tksL (M ++ [m])) := by
  refine ⟨by rw [tksL_len, List.length_append]; simp; omega, fun k hk => ?_⟩
  rw [tksL_len, List.length_append, List.length_singleton] at hk
  rcases Nat.lt_or_ge k M.length with hk2 | hk2
  · have := h.2 k (by rw [tksL_len]; exact hk2)
    obtain ⟨x, hx⟩ : ∃ x, M[k]? = some x := ⟨_, List.getElem?_eq_getElem hk2⟩
    rw [tksL_nth hx] at this
    rw [tksL_nth (m := x) (by rw [List.getElem?_append_left hk2]; exact hx)]
    exact this
  · have : k = M.length := by omega
    subst this
    rw [tksL_nth (m := m) (by rw [List.getElem?_append_right (by omega)]; simp)]
    exact ⟨h0, h1⟩
theorem not_mem_of_fiV {nm : ByteArray} {M : List Mem} (h : ¬ 0 ≤ fiV nm M) : nm ∉ nmsM M := fun hm => by
  have := findM_lt hm
  unfold fiV at h
  rw [if_pos this] at h
  omega
theorem joinW_ok {s : HSt} {K : Nat} (h : HOk s K) (n : Int) (nm : ByteArray) : HOk (joinW s (fiV nm s.M) n nm) (K + 1) := by
  unfold joinW
  split
  · rename_i hE
    unfold joinE at hE
    split at hE
    · cases hE
    · split at hE
      · cases hE
      · split at hE
        · cases hE
        · rename_i h1 h2 h3
          have h8 := h.l8
          have hn := not_mem_of_fiV h1
          refine ⟨TkOk_app h.tk (by omega) (by simp only; omega) (by simp only; omega), fun m hm => ?_, fun l hl => ?_, Nat.le_trans h.ll (by omega), ?_⟩
          · rcases List.mem_append.1 hm with hm | hm
            · have := h.wn m hm; exact ⟨this.1, by omega⟩
            · have : m = ⟨nm, n, 0⟩ := by simpa using hm
              subst this
              exact ⟨Int.le_refl _, by simp only; omega⟩
          · have := h.ln l hl
            exact ⟨by unfold nmsM; rw [List.map_append]; exact List.mem_append_left _ this.fr, by unfold nmsM; rw [List.map_append]; exact List.mem_append_left _ this.to, this.ne, this.n1, this.n2⟩
          · unfold nmsM
            rw [List.map_append]
            refine List.nodup_append.2 ⟨h.nd, by simp, fun a ha b hb => ?_⟩
            have : b = nm := by simpa using hb
            rw [this]
            exact fun e => hn (e ▸ ha)
  · exact h.le (by omega)
theorem tkSum_erase : ∀ (M : List Mem) (i : Nat) (m : Mem), M[i]? = some m → tkSum (M.eraseIdx i) = tkSum M - m.tk
  | [], i, m, h => by simp at h
  | x :: M, 0, m, h => by
    have : x = m := by simpa using h
    subst this
    show isum (tksL M) = isum (x.tk :: tksL M) - x.tk
    rw [isum]; omega
  | x :: M, i + 1, m, h => by
    have ih := tkSum_erase M i m (by simpa using h)
    show isum (x.tk :: tksL (M.eraseIdx i)) = isum (x.tk :: tksL M) - m.tk
    have ih' : isum (tksL (M.eraseIdx i)) = isum (tksL M) - m.tk := ih
    rw [isum, isum, ih']; omega
theorem mem_erase_nm {M : List Mem} {i : Nat} {m : Mem} (h : M[i]? = some m) {a : ByteArray} (ha : a ∈ nmsM M) (hne : a ≠ m.nm) : a ∈ nmsM (M.eraseIdx i) := by
  obtain ⟨x, hx, rfl⟩ := List.mem_map.1 ha
  obtain ⟨j, hj, hx2⟩ := List.getElem_of_mem hx
  refine List.mem_map.2 ⟨x, ?_, rfl⟩
  rw [List.mem_eraseIdx_iff_getElem?]
  refine ⟨j, fun e => ?_, by rw [List.getElem?_eq_getElem hj, hx2]⟩
  subst e
  rw [List.getElem?_eq_getElem hj, hx2] at h
  cases h
  exact hne rfl
theorem leaveW_ok {s : HSt} {K : Nat} (h : HOk s K) {i : Nat} {m : Mem} (hm : s.M[i]? = some m) : HOk (leaveW s i m) (K + 1) := by
  unfold leaveW
  cases ha : anyT m.nm s.L
  · simp only [Bool.false_eq_true, if_false]
    have hi := (List.getElem?_eq_some_iff.1 hm).1
    have hsub := List.eraseIdx_sublist s.M i
    have ht : ∀ l ∈ s.L, tied m.nm l = false := fun l hl => by
      cases htl : tied m.nm l with
      | false => rfl
      | true =>
        have : anyT m.nm s.L = true := List.any_eq_true.2 ⟨l, hl, htl⟩
        rw [this] at ha; cases ha
    refine ⟨⟨?_, fun k hk => ?_⟩, fun x hx => ?_, fun l hl => ?_, Nat.le_trans h.ll (by omega), ?_⟩
    · rw [tksL_len]; exact Nat.le_trans hsub.length_le h.l8
    · rw [tksL_len] at hk
      obtain ⟨x, hx⟩ : ∃ x, (s.M.eraseIdx i)[k]? = some x := ⟨_, List.getElem?_eq_getElem hk⟩
      rw [tksL_nth hx]
      obtain ⟨j, hj, hj2⟩ := List.getElem_of_mem (hsub.mem (List.mem_of_getElem? hx))
      have := h.tk.2 j (by rw [tksL_len]; exact hj)
      rw [tksL_nth (m := x) (by rw [List.getElem?_eq_getElem hj, hj2])] at this
      exact this
    · have := h.wn x (hsub.mem hx); exact ⟨this.1, by omega⟩
    · have := h.ln l hl
      have ht2 := ht l hl
      unfold tied at ht2
      rw [Bool.or_eq_false_iff] at ht2
      exact ⟨mem_erase_nm hm this.fr (by simpa using ht2.1), mem_erase_nm hm this.to (by simpa using ht2.2), this.ne, this.n1, this.n2⟩
    · exact h.nd.sublist (hsub.map _)
  · exact h.le (by omega)
theorem wn_bumpM {M : List Mem} {K : Nat} (h : ∀ m ∈ M, 0 ≤ m.wn ∧ m.wn ≤ K) (i : Nat) (x : Int) : ∀ m ∈ bumpM M i x, 0 ≤ m.wn ∧ m.wn ≤ K := by
  unfold bumpM
  cases hm : M[i]? with
  | none => exact h
  | some y =>
    intro m hm'
    rcases List.mem_or_eq_of_mem_set hm' with h1 | h1
    · exact h m h1
    · subst h1; exact h y (List.mem_of_getElem? hm)
theorem lendW_ok {s : HSt} {K : Nat} (h : HOk s K) {n : Int} {nm to : ByteArray} (hnm : findM nm s.M < s.M.length) : HOk (lendW s (findM nm s.M) n nm to) (K + 1) := by
  unfold lendW
  split
  · rename_i hE
    unfold lendE at hE
    split at hE
    · cases hE
    · split at hE
      · cases hE
      · split at hE
        · cases hE
        · split at hE
          · cases hE
          · rename_i h1 h2 h3 h4
            have hto : findM to s.M < s.M.length := by omega
            have hij : findM to s.M ≠ findM nm s.M := fun e => h2 (.inl e)
            have hn1 : 1 ≤ n := by
              rcases Int.lt_or_le n 1 with h | h
              · exact absurd (.inr h) h2
              · exact h
            have b1 := h.tk.2 (findM nm s.M) (by rw [tksL_len]; exact hnm)
            have b2 := h.tk.2 (findM to s.M) (by rw [tksL_len]; exact hto)
            have e1 : nmsM (bumpM (bumpM s.M (findM nm s.M) (-n)) (findM to s.M) n) = nmsM s.M := by rw [nmsM_bumpM, nmsM_bumpM]
            refine ⟨?_, ?_, fun l hl => ?_, ?_, ?_⟩
            · refine TkOk.bumpM (TkOk.bumpM h.tk hnm (by omega) (by omega)) (by rw [bumpM_len]; exact hto) ?_ ?_
              all_goals
                rw [tksL_bumpM _ _ _ hnm, nth_set_ne _ _ _ _ (fun e => hij e.symm)]
                omega
            · exact wn_bumpM (wn_bumpM (fun m hm => ⟨(h.wn m hm).1, by have := (h.wn m hm).2; omega⟩) _ _) _ _
            · refine LnOk.nms ?_ e1
              rcases List.mem_append.1 hl with hl | hl
              · exact h.ln l hl
              · have : l = ⟨nm, to, n⟩ := by simpa using hl
                subst this
                exact ⟨findM_mem hnm, findM_mem hto, fun e => hij (by simp only at e; rw [e]), hn1, by simp only; omega⟩
            · rw [List.length_append]; have := h.ll; simp; omega
            · rw [e1]; exact h.nd
  · exact h.le (by omega)
theorem backS_wn {s : BSt} {K : Nat} (h : ∀ m ∈ s.M, 0 ≤ m.wn ∧ m.wn ≤ K) (nm : ByteArray) (i : Nat) : ∀ m ∈ (backS nm i s).M, 0 ≤ m.wn ∧ m.wn ≤ K := by
  unfold backS
  cases s.L[i]? with
  | none => exact h
  | some l =>
    by_cases hf : l.fr = nm
    · simp only [if_pos hf]; exact wn_bumpM (wn_bumpM h _ _) _ _
    · simp only [if_neg hf]; exact h
structure BackOk (s t : BSt) (K : Nat) : Prop where
  ok : BOk t
  nms : nmsM t.M = nmsM s.M
  sum : tkSum t.M = tkSum s.M
  wn : ∀ m ∈ t.M, 0 ≤ m.wn ∧ m.wn ≤ K
  len : t.L.length ≤ s.L.length
theorem backN_ok (nm : ByteArray) {K : Nat} : ∀ (k : Nat) (s : BSt), BOk s → (∀ m ∈ s.M, 0 ≤ m.wn ∧ m.wn ≤ K) → k ≤ s.L.length → BackOk s (backN nm k s) K
  | 0, s, h, hw, _ => ⟨h, rfl, rfl, hw, Nat.le_refl _⟩
  | k + 1, s, h, hw, hk => by
    obtain ⟨o1, o2, o3, -, -⟩ := backS_ok h nm k
    obtain ⟨l1, l2⟩ := backS_len nm k s hk
    obtain ⟨r1, r2, r3, r4, r5⟩ := backN_ok nm k (backS nm k s) o1 (backS_wn hw nm k) l1
    rw [backN]
    exact ⟨r1, r2.trans o2, r3.trans o3, r4, Nat.le_trans r5 l2⟩
theorem backA_ok {s : HSt} {K : Nat} (h : HOk s K) (nm : ByteArray) : BackOk ⟨s.M, s.L, 0⟩ (backA nm s) K := backN_ok nm s.L.length _ ⟨h.tk, h.ln⟩ h.wn (Nat.le_refl _)
theorem doS_ok {s : HSt} {K : Nat} (h : HOk s K) (k n : Int) (nm to : ByteArray) : HOk (doS s k n nm to).s (K + 1) := by
  unfold doS
  split
  · exact wonS_ok h _
  · split
    · exact wonS_ok h _
    · split
      · split
        · exact h.le (by omega)
        · split
          · exact joinW_ok h n nm
          · cases hm : s.M[findM nm s.M]? with
            | none => exact h.le (by omega)
            | some m =>
              have hi := (List.getElem?_eq_some_iff.1 hm).1
              simp only [atSH]
              split
              · exact leaveW_ok h hm
              · split
                · exact lendW_ok h hi
                · split
                  · have hb := backA_ok h nm
                    exact HOk.le ⟨hb.ok.tk, hb.wn, hb.ok.ln, Nat.le_trans hb.len h.ll, by rw [hb.nms]; exact h.nd⟩ (by omega)
                  · exact h.le (by omega)
      · exact h.le (by omega)
/-- a deed that is refused turns nothing -/
theorem doS_refused {s : HSt} {k n : Int} {nm to : ByteArray} (h : (doS s k n nm to).er ≠ 0) : (doS s k n nm to).s = s := by
  revert h
  unfold doS
  split
  · unfold wonS; split
    · split <;> simp
    · intro _; rfl
  · split
    · unfold wonS; split
      · split <;> simp
      · intro _; rfl
    · split
      · split
        · intro _; rfl
        · split
          · intro h; simp only at h ⊢; unfold joinW; rw [if_neg h]
          · split
            · simp only [atSH]
              split
              · intro h; simp only [leaveE] at h; simp only [leaveW]; split
                · rfl
                · rename_i h2; simp [h2] at h
              · split
                · intro h; simp only at h ⊢; unfold lendW; rw [if_neg h]
                · split
                  · intro h; exact absurd rfl h
                  · intro _; rfl
            · intro _; rfl
      · intro _; rfl
/-- the tickets of all -/
theorem doS_sum {s : HSt} {K : Nat} (h : HOk s K) (k n : Int) (nm to : ByteArray) (he : (doS s k n nm to).er = 0) :
    tkSum (doS s k n nm to).s.M = tkSum s.M + (if k = 1 then n else if k = 2 then - ((tkOf nm s.M).getD 0) else 0) ∧ (k = 2 → (tkOf nm s.M).isSome = true) := by
  have won : ∀ r, tkSum (wonS s r).s.M = tkSum s.M := fun r => by
    unfold wonS
    split
    · cases hm : s.M[r.1.toNat]? with
      | none => rfl
      | some m => simp only [setW, tkSum]; rw [tksL_set _ _ _ _ hm (by rfl)]
    · rfl
  revert he
  unfold doS
  split
  · rename_i hk; intro _; rw [won, if_neg (by omega), if_neg (by omega)]; exact ⟨by omega, fun e => by omega⟩
  · split
    · rename_i hk; intro _; rw [won, if_neg (by omega), if_neg (by omega)]; exact ⟨by omega, fun e => by omega⟩
    · split
      · split
        · intro he; cases he
        · split
          · rename_i hk1
            intro he
            simp only at he ⊢
            unfold joinW
            rw [if_pos he, tkSum_app]
            exact ⟨rfl, fun e => by omega⟩
          · rename_i hk1
            cases hm : s.M[findM nm s.M]? with
            | none => intro he; cases he
            | some m =>
              have hi := (List.getElem?_eq_some_iff.1 hm).1
              have htk : tkOf nm s.M = some m.tk := by unfold tkOf; rw [hm]; rfl
              simp only [atSH]
              split
              · rename_i hk2
                intro he
                simp only [leaveE] at he
                have ha : anyT m.nm s.L = false := by
                  cases hb : anyT m.nm s.L with
                  | false => rfl
                  | true => rw [hb] at he; cases he
                simp only [leaveW, ha, Bool.false_eq_true, if_false]
                rw [tkSum_erase _ _ _ hm, htk]
                exact ⟨by simp only [Option.getD_some]; omega, fun _ => rfl⟩
              · rename_i hk2
                split
                · intro he
                  simp only at he ⊢
                  have hto : findM to s.M < s.M.length := by
                    rcases Nat.lt_or_ge (findM to s.M) s.M.length with h | h
                    · exact h
                    · unfold lendE at he; rw [if_pos h] at he; cases he
                  unfold lendW
                  rw [if_pos he]
                  simp only
                  rw [tkSum_bumpM _ _ _ (by rw [bumpM_len]; exact hto), tkSum_bumpM _ _ _ hi]
                  exact ⟨by omega, fun e => by omega⟩
                · split
                  · intro _
                    simp only
                    rw [(backA_ok h nm).sum]
                    exact ⟨by simp only; omega, fun e => by omega⟩
                  · intro _; exact ⟨by simp only; omega, fun e => by omega⟩
      · intro he; cases he
end Go.Proofs.Ytjplnkkcmkpkbaa
/- castkeep.halls, worked, ticketsOf; hall.New. -/
namespace Go.Proofs.Ytjplnkkcmkpkbaa
open Go.RowKit

def NewW (w : World) (e : Ending) (w' : World) : Prop := ∃ H, e = .returned (.pointer (some ⟨H, 0, .none⟩)) ∧ Hw w w' H ⟨[], []⟩ []
set_option maxRecDepth 100000 in
theorem halNew (w : World) : Calls Try.prog 27 #[] w (NewW w) := by
  have b1 := (Fg.start w).new 83 #[.slice none 0 0, .slice none 0 0] [.slice none 0 0, .slice none 0 0] rfl w.heap.size rfl 2 rfl (by omega)
  have b2 := (b1.nilSlice 106 3).nilSlice 90 3
  have HB : Hid (Hw w (w.alloc (.cells #[.slice none 0 0, .slice none 0 0] 83)) w.heap.size ⟨[], []⟩ []) := Lib.hid ⟨none, 0, none, 0, b2.perm ((List.Perm.cons _ (.swap _ _ _)).trans (.swap _ _ _))⟩
  clear b1 b2
  go_enter Try.func27, Try.ntmps27
  go_wp2_with fail
  go_ret
  exact ⟨_, rfl, HB.out⟩
theorem hok0 (K : Nat) : HOk ⟨[], []⟩ K := by
  refine ⟨⟨?_, fun k hk => ?_⟩, fun m hm => ?_, fun l hl => ?_, Nat.zero_le _, List.nodup_nil⟩
  · exact Nat.zero_le _
  · exact absurd hk (Nat.not_lt_zero k)
  · cases hm
  · cases hl
theorem Hw.below {w0 w : World} {H : Nat} {s : HSt} {B : List Big} (h : Hw w0 w H s B) : Below w0.heap.size w0 w := by
  obtain ⟨am, cm, al, cl, hf⟩ := h
  exact hf.bel
theorem Hw.alloc {w0 w : World} {H : Nat} {s : HSt} {B : List Big} (h : Hw w0 w H s B) (o : Obj) : Hw w0 (w.alloc o) H s B := h.keep ((Fr.start w).alloc o).bel
theorem Hw.newTold {w0 w : World} {H : Nat} {s : HSt} {B : List Big} (h : Hw w0 w H s B) (nm : ByteArray) (n : Int) {N : Nat} (hN : w.heap.size = N) : Hw w0 (w.alloc (.cells #[.string nm, .int .i64 n] 35)) H s (eT N nm n :: B) := by
  obtain ⟨am, cm, al, cl, hf⟩ := h
  exact Hw.into (hf.new 35 #[.string nm, .int .i64 n] [.string nm, .int .i64 n] rfl N hN 2 rfl (by omega))
def aS : ByteArray := ⟨#[97]⟩
theorem do1 : doS ⟨[], []⟩ 1 2 ⟨#[97]⟩ ⟨#[]⟩ = ⟨⟨[⟨⟨#[97]⟩, 2, 0⟩], []⟩, ⟨#[]⟩, 0, 0⟩ := by kernel_rfl
theorem do2 : doS ⟨[⟨⟨#[97]⟩, 2, 0⟩], []⟩ 5 1 ⟨#[]⟩ ⟨#[]⟩ = ⟨⟨[⟨⟨#[97]⟩, 2, 1⟩], []⟩, ⟨#[97]⟩, 1, 0⟩ := by kernel_rfl
structure Deed where
  k : Int
  n : Int
  nm : ByteArray
  to : ByteArray
def deedC (d : Deed) : List Value := [.int .i64 d.k, .int .i64 d.n, .string d.nm, .string d.to]
def doD (s : HSt) (d : Deed) : DR := doS s d.k d.n d.nm d.to
def runD (D : List Deed) (s : HSt) : HSt := D.foldl (fun s d => (doD s d).s) s
theorem runD_take {D : List Deed} {k : Nat} {d : Deed} (h : D[k]? = some d) (s : HSt) : runD (D.take (k + 1)) s = (doD (runD (D.take k) s) d).s := by
  unfold runD
  rw [List.take_add_one, h, List.foldl_append]; rfl
theorem runD_ok (D : List Deed) : ∀ (s : HSt) (K : Nat), HOk s K → HOk (runD D s) (K + D.length) := by
  induction D with
  | nil => intro s K h; exact h
  | cons d D ih =>
    intro s K h
    have := ih _ _ (doS_ok h d.k d.n d.nm d.to)
    show HOk (runD D (doD s d).s) _
    rw [List.length_cons, show K + (D.length + 1) = K + 1 + D.length by omega]
    exact this
theorem Sa.deedA {w : World} {a : Option Addr} {l : List Deed} (h : Sa w a (rowsC deedC l)) (i : Nat) (m : Deed) (hi : l[i]? = some m) : ∃ b off, a = some ⟨b, off, none⟩ ∧ b < w.heap.size ∧
    w.cell? ⟨b, off + i * 4, none⟩ = some (.int .i64 m.k) ∧ w.cell? ⟨b, off + i * 4 + 1, none⟩ = some (.int .i64 m.n) ∧ w.cell? ⟨b, off + i * 4 + 2, none⟩ = some (.string m.nm) ∧ w.cell? ⟨b, off + i * 4 + 3, none⟩ = some (.string m.to) := by
  have hl : i < l.length := (List.getElem?_eq_some_iff.1 hi).1
  have hlen := rowsC_len (f := deedC) (c := 4) (fun _ => rfl) l
  obtain ⟨b, off, e, hb, hc⟩ := h (by rw [hlen]; omega)
  have key : ∀ j, j < 4 → w.cell? ⟨b, off + i * 4 + j, none⟩ = (deedC m)[j]? := fun j hj => by
    rw [Nat.add_assoc, hc (i * 4 + j) (by rw [hlen]; omega), rowsC_get (f := deedC) (c := 4) (fun _ => rfl) l i j m hi hj]
  exact ⟨b, off, e, hb, key 0 (by omega), key 1 (by omega), key 2 (by omega), key 3 (by omega)⟩
/-- deeds that came in -/
structure Deeds (w : World) (a : Option Addr) (n : Nat) (D : List Deed) : Prop where
  len : D.length = n
  sa : Sa w a (rowsC deedC D)
  nm : ∀ d ∈ D, d.nm.size ≤ maxLen
theorem Deeds.below {w w' : World} {a : Option Addr} {n : Nat} {D : List Deed} (h : Deeds w a n D) (b : Below w.heap.size w w') : Deeds w' a n D := ⟨h.len, h.sa.keep b, h.nm⟩
end Go.Proofs.Ytjplnkkcmkpkbaa
