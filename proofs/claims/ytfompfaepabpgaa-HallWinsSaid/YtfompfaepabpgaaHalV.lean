/- Wins: in plain words. -/
import Derived.Test.YtfompfaepabpgaaHalT
namespace Go.Proofs.Ytfompfaepabpgaa
open Go.RowKit

def updB (f : ByteArray → Int) (x : ByteArray) (v : Int) : ByteArray → Int := fun y => if y = x then v else f y
def WinsOk (s : HSt) (mp : ByteArray → Int) : Prop := ∀ m ∈ s.M, mp m.nm = m.wn
theorem pairs_bumpM {M : List Mem} {i : Nat} {x : Int} {m : Mem} (h : m ∈ bumpM M i x) : ∃ m' ∈ M, m'.nm = m.nm ∧ m'.wn = m.wn := by
  unfold bumpM at h
  cases hm : M[i]? with
  | none => rw [hm] at h; exact ⟨m, h, rfl, rfl⟩
  | some y =>
    rw [hm] at h
    rcases List.mem_or_eq_of_mem_set h with h1 | h1
    · exact ⟨m, h1, rfl, rfl⟩
    · subst h1; exact ⟨y, List.mem_of_getElem? hm, rfl, rfl⟩
theorem pairs_backS {s : BSt} {nm : ByteArray} {i : Nat} {m : Mem} (h : m ∈ (backS nm i s).M) : ∃ m' ∈ s.M, m'.nm = m.nm ∧ m'.wn = m.wn := by
  unfold backS at h
  cases hl : s.L[i]? with
  | none => rw [hl] at h; exact ⟨m, h, rfl, rfl⟩
  | some l =>
    rw [hl] at h
    by_cases hf : l.fr = nm
    · simp only [if_pos hf] at h
      obtain ⟨m1, h1, e1, e2⟩ := pairs_bumpM h
      obtain ⟨m2, h2, e3, e4⟩ := pairs_bumpM h1
      exact ⟨m2, h2, e3.trans e1, e4.trans e2⟩
    · simp only [if_neg hf] at h; exact ⟨m, h, rfl, rfl⟩
theorem pairs_backN {nm : ByteArray} : ∀ {k : Nat} {s : BSt} {m : Mem}, m ∈ (backN nm k s).M → ∃ m' ∈ s.M, m'.nm = m.nm ∧ m'.wn = m.wn
  | 0, s, m, h => ⟨m, h, rfl, rfl⟩
  | k + 1, s, m, h => by
    rw [backN] at h
    obtain ⟨m1, h1, e1, e2⟩ := pairs_backN h
    obtain ⟨m2, h2, e3, e4⟩ := pairs_backS h1
    exact ⟨m2, h2, e3.trans e1, e4.trans e2⟩
theorem WinsOk.of {s s' : HSt} {mp : ByteArray → Int} (h : WinsOk s mp) (hs : ∀ m ∈ s'.M, ∃ m' ∈ s.M, m'.nm = m.nm ∧ m'.wn = m.wn) : WinsOk s' mp := fun m hm => by
  obtain ⟨m', h1, h2, h3⟩ := hs m hm
  rw [← h2, ← h3]; exact h m' h1
theorem wins_won {s : HSt} {K : Nat} (h : HOk s K) {mp : ByteArray → Int} (hw : WinsOk s mp) (r : Int × Int) (hr : r.2 = 0 → 0 ≤ r.1 ∧ r.1.toNat < s.M.length) (he : (wonS s r).er = 0) :
    (wonS s r).nm ∈ nmsM s.M ∧ (wonS s r).nm ∈ nmsM (wonS s r).s.M ∧ (wonS s r).n = mp (wonS s r).nm + 1 ∧ WinsOk (wonS s r).s (updB mp (wonS s r).nm (mp (wonS s r).nm + 1)) := by
  have hr0 : r.2 = 0 := by
    unfold wonS at he
    split at he
    · assumption
    · exact he
  obtain ⟨m, hm⟩ : ∃ m, s.M[r.1.toNat]? = some m := ⟨_, List.getElem?_eq_getElem (hr hr0).2⟩
  have e : wonS s r = ⟨setW s r.1.toNat ⟨m.nm, m.tk, m.wn + 1⟩, m.nm, m.wn + 1, 0⟩ := by unfold wonS; rw [if_pos hr0, hm]
  rw [e]
  have hin := List.mem_of_getElem? hm
  have hmp := hw m hin
  refine ⟨List.mem_map.2 ⟨m, hin, rfl⟩, ?_, by simp only; rw [hmp], ?_⟩
  · simp only [setW]
    rw [nmsM_set _ _ _ _ hm (by rfl)]
    exact List.mem_map.2 ⟨m, hin, rfl⟩
  · intro x hx
    simp only [setW] at hx
    obtain ⟨j, hj, hx2⟩ := List.getElem_of_mem hx
    have hx3 : (s.M.set r.1.toNat ⟨m.nm, m.tk, m.wn + 1⟩)[j]? = some x := by rw [List.getElem?_eq_getElem hj, hx2]
    rw [List.getElem?_set] at hx3
    unfold updB
    split at hx3
    · split at hx3
      · cases hx3; simp only [if_true]; rw [hmp]
      · cases hx3
    · rename_i hne
      have hnm : x.nm ≠ m.nm := fun e => hne (by
        have h1 := findM_nodup h.nd hm
        have h2 := findM_nodup h.nd hx3
        rw [e] at h2
        exact h1.symm.trans h2)
      rw [if_neg hnm]
      exact hw x (List.mem_of_getElem? hx3)
theorem wins_law {s : HSt} {K : Nat} (h : HOk s K) {mp : ByteArray → Int} (hw : WinsOk s mp) (k n : Int) (nm to : ByteArray) (he : (doS s k n nm to).er = 0) :
    (k = 1 → namedB nm = true ∧ WinsOk (doS s k n nm to).s (updB mp nm 0)) ∧
    (k = 5 ∨ k = 7 → (doS s k n nm to).nm ∈ nmsM s.M ∧ (doS s k n nm to).nm ∈ nmsM (doS s k n nm to).s.M ∧ (doS s k n nm to).n = mp (doS s k n nm to).nm + 1 ∧ WinsOk (doS s k n nm to).s (updB mp (doS s k n nm to).nm (mp (doS s k n nm to).nm + 1))) ∧
    (k = 6 → nm ∈ nmsM s.M ∧ (doS s k n nm to).nm = nm ∧ (doS s k n nm to).n = mp nm) ∧
    (k ≠ 1 → k ≠ 5 → k ≠ 7 → WinsOk (doS s k n nm to).s mp) := by
  by_cases k5 : k = 5
  · have e : doS s k n nm to = wonS s (winW (tksL s.M) n) := by unfold doS; rw [if_pos k5]
    rw [e] at he ⊢
    have := wins_won h hw _ (fun hr => by have := winW_at _ _ hr; rw [tksL_len] at this; exact this) he
    exact ⟨fun e => by omega, fun _ => this, fun e => by omega, fun _ h5 => absurd k5 h5⟩
  by_cases k7 : k = 7
  · have e : doS s k n nm to = wonS s (nextW (tksL s.M) (wnsL s.M)) := by unfold doS; rw [if_neg k5, if_pos k7]
    rw [e] at he ⊢
    have := wins_won h hw _ (fun hr => by have := nextW_at _ _ hr; rw [tksL_len] at this; exact this) he
    exact ⟨fun e => by omega, fun _ => this, fun e => by omega, fun _ _ h7 => absurd k7 h7⟩
  refine ⟨fun k1 => ?_, fun e => by omega, fun k6 => ?_, fun k1 _ _ => ?_⟩
  · unfold doS at he ⊢
    rw [if_neg k5, if_neg k7, if_pos (.inl k1)] at he ⊢
    split at he
    · cases he
    · rename_i hn
      rw [if_neg hn]
      simp only [k1, if_true] at he ⊢
      have hfi : ¬ 0 ≤ fiV nm s.M := fun h0 => by unfold joinE at he; rw [if_pos h0] at he; cases he
      have hnm := not_mem_of_fiV hfi
      refine ⟨by cases hb : namedB nm <;> simp_all, fun m hm => ?_⟩
      unfold joinW at hm
      rw [if_pos he] at hm
      unfold updB
      rcases List.mem_append.1 hm with hm | hm
      · have hne : m.nm ≠ nm := fun e => hnm (by rw [← e]; exact List.mem_map.2 ⟨m, hm, rfl⟩)
        rw [if_neg hne]; exact hw m hm
      · have : m = ⟨nm, n, 0⟩ := by simpa using hm
        subst this; simp
  · unfold doS at he ⊢
    rw [if_neg k5, if_neg k7, if_pos (by omega)] at he ⊢
    split at he
    · cases he
    · rename_i hn
      rw [if_neg hn]
      rw [if_neg (by omega)] at he ⊢
      cases hm : s.M[findM nm s.M]? with
      | none => rw [hm] at he; cases he
      | some m =>
        simp only [atS]
        rw [if_neg (by omega), if_neg (by omega), if_neg (by omega)]
        have hin := List.mem_of_getElem? hm
        have e := findM_nm hm
        refine ⟨List.mem_map.2 ⟨m, hin, e⟩, rfl, ?_⟩
        simp only
        rw [← hw m hin, e]
  · unfold doS
    rw [if_neg k5, if_neg k7]
    split
    · split
      · exact hw
      · cases hm : s.M[findM nm s.M]? with
        | none => exact hw
        | some m =>
          simp only [atS]
          split
          · refine hw.of fun x hx => ?_
            unfold leaveW at hx
            split at hx
            · exact ⟨x, hx, rfl, rfl⟩
            · exact ⟨x, (List.eraseIdx_sublist _ _).mem hx, rfl, rfl⟩
          · split
            · refine hw.of fun x hx => ?_
              unfold lendW at hx
              split at hx
              · obtain ⟨m1, h1, e1, e2⟩ := pairs_bumpM hx
                obtain ⟨m2, h2, e3, e4⟩ := pairs_bumpM h1
                exact ⟨m2, h2, e3.trans e1, e4.trans e2⟩
              · exact ⟨x, hx, rfl, rfl⟩
            · split
              · exact hw.of fun x hx => pairs_backN hx
              · exact hw
    · exact hw
/-- the names stay those that were there, or have just come -/
theorem doS_nms {s : HSt} {K : Nat} (h : HOk s K) (k n : Int) (nm to x : ByteArray) (hx : x ∈ nmsM (doS s k n nm to).s.M) : x ∈ nmsM s.M ∨ (x = nm ∧ namedB nm = true) := by
  have won : ∀ r, x ∈ nmsM (wonS s r).s.M → x ∈ nmsM s.M := fun r hx => by
    unfold wonS at hx
    split at hx
    · cases hm : s.M[r.1.toNat]? with
      | none => rw [hm] at hx; exact hx
      | some m => rw [hm] at hx; simp only [setW] at hx; rw [nmsM_set _ _ _ _ hm (by rfl)] at hx; exact hx
    · exact hx
  revert hx
  unfold doS
  split
  · exact fun hx => .inl (won _ hx)
  · split
    · exact fun hx => .inl (won _ hx)
    · split
      · split
        · exact fun hx => .inl hx
        · rename_i hn
          split
          · intro hx
            simp only [joinW] at hx
            split at hx
            · unfold nmsM at hx
              rw [List.map_append] at hx
              rcases List.mem_append.1 hx with hx | hx
              · exact .inl hx
              · exact .inr ⟨by simpa using hx, by cases hb : namedB nm <;> simp_all⟩
            · exact .inl hx
          · cases hm : s.M[findM nm s.M]? with
            | none => exact fun hx => .inl hx
            | some m =>
              simp only [atS]
              split
              · intro hx
                simp only [leaveW] at hx
                split at hx
                · exact .inl hx
                · exact .inl (((List.eraseIdx_sublist s.M (findM nm s.M)).map (fun m : Mem => m.nm)).mem hx)
              · split
                · intro hx
                  simp only [lendW] at hx
                  split at hx
                  · simp only at hx; rw [nmsM_bumpM, nmsM_bumpM] at hx; exact .inl hx
                  · exact .inl hx
                · split
                  · intro hx; simp only at hx; rw [(backA_ok h nm).nms] at hx; exact .inl hx
                  · exact fun hx => .inl hx
      · exact fun hx => .inl hx
end Go.Proofs.Ytfompfaepabpgaa
