/- castkeep.ticketsOf. -/
import Derived.Test.YtfompfaepabpgaaHalW
namespace Go.Proofs.Ytfompfaepabpgaa
open Go.RowKit

theorem findM_nodup : ∀ {M : List Mem} {k : Nat} {m : Mem}, (nmsM M).Nodup → M[k]? = some m → findM m.nm M = k
  | [], k, m, _, h => by simp at h
  | x :: M, 0, m, _, h => by
    have : x = m := by simpa using h
    subst this
    rw [findM, if_pos rfl]
  | x :: M, k + 1, m, hn, h => by
    have hn' : x.nm ∉ nmsM M ∧ (nmsM M).Nodup := List.nodup_cons.1 hn
    have h' : M[k]? = some m := by simpa using h
    have hne : x.nm ≠ m.nm := fun e => hn'.1 (by rw [e]; exact List.mem_map.2 ⟨m, List.mem_of_getElem? h', rfl⟩)
    rw [findM, if_neg hne, findM_nodup hn'.2 h']
theorem tkOf_nodup {M : List Mem} {k : Nat} {m : Mem} (hn : (nmsM M).Nodup) (h : M[k]? = some m) : tkOf m.nm M = some m.tk := by
  unfold tkOf; rw [findM_nodup hn h, h]; rfl
theorem isum_take_one {l : List Int} {k : Nat} (h : k < l.length) : isum (l.take (k + 1)) = isum (l.take k) + nth l k := by
  have e : l[k]? = some (nth l k) := by unfold nth; rw [List.getD_eq_getElem?_getD, List.getElem?_eq_getElem h]; rfl
  rw [List.take_add_one, e]
  have : ∀ (a : List Int) (x : Int), isum (a ++ [x]) = isum a + x := fun a x => by
    induction a with
    | nil => simp [isum]
    | cons y a ih => rw [List.cons_append, isum, isum, ih]; omega
  exact this _ _
set_option maxRecDepth 100000 in
set_option maxHeartbeats 8000000 in
theorem ticketsOk {w0 w : World} (H : Nat) (s : HSt) (B : List Big) (K : Nat) (h : Hw w0 w H s B) (ok : HOk s K) :
    Calls Try.prog 16 #[.pointer (some ⟨H, 0, .none⟩)] w fun e w' => e = .returned (.tuple #[.int .i64 (tkSum s.M), .bool true]) ∧ Hw w0 w' H s B := by
  have HN := Lib.hid (halNmW h ok.l8)
  have HOK := Lib.hid ok
  have HW := Lib.hid h
  clear h ok
  go_enter Try.func16, Try.ntmps16
  go_wp2_with fail
  refine HN.out.mono ?_; rintro e w1 ⟨ad, cp, rfl, hcp, hf1, hw1⟩
  obtain ⟨am, cm, c0, hS, hHl⟩ := hw1.hall
  have HNM := Lib.hid (hf1.get 0 rfl)
  have HW1 := Lib.hid hw1
  have HC0 := Lib.hid c0; have HS := Lib.hid hS; have HHL := Lib.hid hHl
  obtain ⟨n, hn⟩ : ∃ n, s.M.length = n := ⟨_, rfl⟩
  have HLN := Lib.hid hn
  have h8 := HOK.out.l8
  rw [hn] at h8 ⊢
  clear hf1 hw1 c0 hS hHl hn HN HW hcp
  go_wp2_with fail
  go_loopw [4, 12] (fun o q wr => ∃ k : Nat, k ≤ n ∧ q = .int .i64 k ∧ o = .int .i64 (isum ((tksL s.M).take k)) ∧ Fr w1 wr []) (fun _ q _ => n - (intOf q).toNat)
  case atStart => exact ⟨0, by omega, rfl, rfl, Fr.start w1⟩
  case round =>
    obtain ⟨k, hk, rfl, rfl, hfr⟩ := hrel
    by_cases hlt : k < n
    · obtain ⟨m, hm⟩ : ∃ m, s.M[k]? = some m := ⟨_, List.getElem?_eq_getElem (by rw [HLN.out]; exact hlt)⟩
      have hnm : (nmsM s.M)[k]? = some m.nm := by unfold nmsM; rw [List.getElem?_map, hm]; rfl
      obtain ⟨b, off, rfl, -, x1⟩ := (hfr.old HNM.out).strA k m.nm hnm
      have HCT := Lib.hid (halTk s.M n am cm m.nm H wr (hfr.old HS.out) HLN.out (by omega) ((hfr.bel.cell (p := ⟨H, 0, .none⟩) HHL.out).trans (by rw [← HLN.out]; exact HC0.out)) (Nat.lt_of_lt_of_le HHL.out hfr.bel.size))
      have ht := HOK.out.tk.2 k (by rw [tksL_len, HLN.out]; exact hlt)
      have hsum := HOK.out.tk.sum k (by rw [tksL_len, HLN.out]; exact hk)
      have htn := tkOf_nodup HOK.out.nd hm
      have HST := Lib.hid (isum_take_one (l := tksL s.M) (k := k) (by rw [tksL_len, HLN.out]; exact hlt))
      rw [tksL_nth hm] at ht HST
      obtain ⟨t, hmt⟩ : ∃ t, m.tk = t := ⟨_, rfl⟩
      rw [hmt] at ht HST htn
      have HTN := Lib.hid htn
      generalize isum ((tksL s.M).take k) = S at *
      obtain ⟨t0, t1⟩ := ht
      obtain ⟨s0, s1⟩ := hsum
      have g1 : decide (t < 0) = false := decide_eq_false (by omega)
      have g2 : decide (100 < t) = false := decide_eq_false (by omega)
      have HFR := Lib.hid hfr
      have d1 : (0 : Int) ≤ (k : Int) := by omega
      have d2 : (k : Int) < (n : Int) := by omega
      clear hm hnm htn hmt hfr
      go_wp2_with fail
      refine HCT.out.mono ?_; rintro e w2 ⟨⟨t', e0, rfl, hx⟩, hf2⟩
      have hx2 : t' = t ∧ e0 = 0 := by
        rw [HTN.out] at hx
        rcases hx with ⟨h1, h2⟩ | ⟨h1, _⟩
        · cases h1; exact ⟨rfl, h2⟩
        · cases h1
      obtain ⟨rfl, rfl⟩ := hx2
      have HF2 := Lib.hid (HFR.out.keep hf2.bel)
      clear hf2 hx HCT
      go_wp2_with fail
      refine ⟨⟨k + 1, by omega, by simp, ?_, HF2.out⟩, by simp only [intOf]; omega⟩
      rw [HST.out]
    · obtain rfl : k = n := by omega
      have HFR := Lib.hid hfr
      clear hfr
      go_wp2_with fail
      go_ret2
      refine ⟨?_, HW1.out.keep HFR.out.bel⟩
      rw [List.take_of_length_le (by rw [tksL_len, HLN.out]; exact Nat.le_refl _)]
      rfl
end Go.Proofs.Ytfompfaepabpgaa
