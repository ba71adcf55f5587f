/- Several of my texts in one: Hal2. -/
import Derived.Test.YtbolgfiafbhicaaDoorDF15
import Derived.Deep.QuietTactic
/- Contracts of package hall: find. -/
namespace Go.Proofs.YtbolgfiafbhicaaDoor
open Go.RowKit

theorem Sa.memA {w : World} {a : Option Addr} {l : List Mem} (h : Sa w a (rowsC memC l)) (i : Nat) (m : Mem) (hi : l[i]? = some m) : ∃ b off, a = some ⟨b, off, none⟩ ∧ b < w.heap.size ∧
    w.cell? ⟨b, off + i * 3, none⟩ = some (.string m.nm) ∧ w.cell? ⟨b, off + i * 3 + 1, none⟩ = some (.int .i64 m.tk) ∧ w.cell? ⟨b, off + i * 3 + 2, none⟩ = some (.int .i64 m.wn) := by
  have hl : i < l.length := (List.getElem?_eq_some_iff.1 hi).1
  have hlen := rowsC_len memC_len l
  obtain ⟨b, off, e, hb, hc⟩ := h (by rw [hlen]; omega)
  have key : ∀ j, j < 3 → w.cell? ⟨b, off + i * 3 + j, none⟩ = (memC m)[j]? := fun j hj => by
    rw [Nat.add_assoc, hc (i * 3 + j) (by rw [hlen]; omega), rowsC_get memC_len l i j m hi hj]
  exact ⟨b, off, e, hb, key 0 (by omega), key 1 (by omega), key 2 (by omega)⟩
theorem findM_not (nm : ByteArray) : ∀ (l : List Mem) (k : Nat), k ≤ findM nm l → ∀ i m, i < k → l[i]? = some m → m.nm ≠ nm
  | [], k, h, i, m, hi, e => by simp at e
  | x :: l, k, h, i, m, hi, e => by
    rw [findM] at h
    split at h
    · omega
    · next hx =>
      cases i with
      | zero => have : x = m := by simpa using e
                rw [← this]; exact hx
      | succ i => exact findM_not nm l (k - 1) (by omega) i m (by omega) (by simpa using e)
theorem findM_at (nm : ByteArray) : ∀ (l : List Mem) (i : Nat) (m : Mem), l[i]? = some m → m.nm = nm → i ≤ findM nm l → findM nm l = i
  | [], i, m, e, _, _ => by simp at e
  | x :: l, i, m, e, h, hi => by
    rw [findM] at hi ⊢
    cases i with
    | zero =>
      have : x = m := by simpa using e
      rw [this, if_pos h]
    | succ i =>
      split
      · next hx => rw [if_pos hx] at hi; omega
      · next hx =>
        rw [if_neg hx] at hi
        rw [findM_at nm l i m (by simpa using e) h (by omega)]
theorem findM_step (nm : ByteArray) : ∀ (l : List Mem) (i : Nat) (m : Mem), l[i]? = some m → m.nm ≠ nm → i ≤ findM nm l → i + 1 ≤ findM nm l
  | [], i, m, e, _, _ => by simp at e
  | x :: l, i, m, e, h, hi => by
    rw [findM] at hi ⊢
    cases i with
    | zero =>
      have : x = m := by simpa using e
      rw [this, if_neg h]; omega
    | succ i =>
      split
      · next hx => rw [if_pos hx] at hi; omega
      · next hx =>
        rw [if_neg hx] at hi
        have := findM_step nm l i m (by simpa using e) h (by omega)
        omega
theorem str_eq (a b : ByteArray) : (a.toList == b.toList) = decide (a = b) := by
  rw [ByteArray.toList_eq, ByteArray.toList_eq]
  by_cases h : a = b
  · subst h; simp
  · rw [decide_eq_false h, beq_eq_false_iff_ne]
    intro e
    apply h
    cases a with
    | mk x => cases b with
      | mk y =>
        have : x = y := Array.toList_inj.1 e
        rw [this]
set_option maxRecDepth 100000 in
set_option maxHeartbeats 4000000 in
theorem halFind1 (x : ByteArray) (t v : Int) (nm : ByteArray) (B : Nat) (w : World) (hv : w.cell? ⟨B, 0, .none⟩ = some (.string nm)) (hB : B < w.heap.size) :
    Calls Tryd.prog 83 #[.agg #[.string x, .int .i64 t, .int .i64 v], .pointer (some ⟨B, 0, .none⟩)] w fun e w' => e = .returned (.bool (decide (x = nm))) ∧ Fr w w' [] := by
  have hv' : (w.alloc (.cells #[.string x, .int .i64 t, .int .i64 v] 65)).cell? ⟨B, 0, .none⟩ = some (.string nm) := ((Fr.start w).alloc (.cells #[.string x, .int .i64 t, .int .i64 v] 65)).bel.cell (p := ⟨B, 0, .none⟩) hB |>.trans hv
  have HF := Lib.hid ((Fr.start w).alloc (.cells #[.string x, .int .i64 t, .int .i64 v] 65))
  have g := str_eq x nm
  go_enter Tryd.func83, Tryd.ntmps83
  go_wp2_with fail
  go_ret
  exact ⟨rfl, HF.out⟩
theorem findM_end (nm : ByteArray) (l : List Mem) (h : l.length ≤ findM nm l) : findM nm l = l.length := Nat.le_antisymm (findM_le nm l) h
def fiV (nm : ByteArray) (l : List Mem) : Int := if findM nm l < l.length then (findM nm l : Nat) else -1
set_option maxRecDepth 100000 in
set_option maxHeartbeats 4000000 in
theorem idxMem (l : List Mem) (n : Nat) (a : Option Addr) (cap : Nat) (nm : ByteArray) (B : Nat) (w : World) (h : Sa w a (rowsC memC l)) (hn : l.length = n) (hm : n ≤ 1000)
    (hv : w.cell? ⟨B, 0, .none⟩ = some (.string nm)) (hB : B < w.heap.size) :
    Calls Tryd.prog 82 #[.slice a n cap, .func (.func 83) #[] #[.pointer (some ⟨B, 0, .none⟩)]] w fun e w' => e = .returned (.int .i64 (fiV nm l)) ∧ Fr w w' [] := by
  have HN := Lib.hid hn; have HS := Lib.hid h; have HV := Lib.hid hv; have HB := Lib.hid hB
  clear hn h hv hB
  go_enter Tryd.func82, Tryd.ntmps82
  go_wp2_with fail
  go_loopw [8] (fun q wr => ∃ k : Nat, k ≤ n ∧ q = .int .i64 k ∧ Hid (k ≤ findM nm l) ∧ Hid (Fr w wr [])) (fun q _ => n - (intOf q).toNat)
  case atStart => exact ⟨0, by omega, rfl, Lib.hid (Nat.zero_le _), Lib.hid (Fr.start w)⟩
  case round =>
    obtain ⟨k, hk, rfl, HK, HF⟩ := hrel
    by_cases hlt : k < n
    · obtain ⟨m, hm2⟩ : ∃ m, l[k]? = some m := ⟨_, List.getElem?_eq_getElem (by rw [HN.out]; exact hlt)⟩
      obtain ⟨b, off, rfl, -, x1, x2, x3⟩ := (HF.out.old HS.out).memA k m hm2
      have hcall := halFind1 m.nm m.tk m.wn nm B wr ((HF.out.bel.cell (p := ⟨B, 0, .none⟩) HB.out).trans HV.out) (Nat.lt_of_lt_of_le HB.out HF.out.bel.size)
      have HM2 := Lib.hid hm2
      clear hm2
      have d1 : (0 : Int) ≤ (k : Int) := by omega
      have d2 : (k : Int) < (n : Int) := by omega
      by_cases hki : m.nm = nm
      · have HI := Lib.hid (findM_at nm l k m HM2.out hki HK.out)
        rw [decide_eq_true hki] at hcall
        have HC := Lib.hid hcall
        clear hcall hki
        go_wp2_with fail
        refine HC.out.mono ?_; rintro e w2 ⟨rfl, hf2⟩
        go_wp2_with fail
        go_ret
        exact ⟨by unfold fiV; rw [HI.out, if_pos (by rw [HN.out]; exact hlt)]; rfl, HF.out.keep hf2.bel⟩
      · have HI := Lib.hid (findM_step nm l k m HM2.out hki HK.out)
        rw [decide_eq_false hki] at hcall
        have HC := Lib.hid hcall
        clear hcall hki
        go_wp2_with fail
        refine HC.out.mono ?_; rintro e w2 ⟨rfl, hf2⟩
        go_wp2_with fail
        go_roundw
        case rel => exact ⟨k + 1, by omega, by go_num, HI, Lib.hid (HF.out.keep hf2.bel)⟩
        case measure => simp only [intOf]; omega
    · obtain rfl : k = n := by omega
      go_wp2_with fail
      go_ret
      exact ⟨by unfold fiV; rw [findM_end nm l (by rw [HN.out]; exact HK.out), if_neg (Nat.lt_irrefl _)]; rfl, HF.out⟩
set_option maxRecDepth 100000 in
set_option maxHeartbeats 4000000 in
theorem halFind (l : List Mem) (n : Nat) (a : Option Addr) (cap : Nat) (nm : ByteArray) (H : Nat) (w : World) (h : Sa w a (rowsC memC l)) (hn : l.length = n) (hm : n ≤ 1000) (hc : w.cell? ⟨H, 0, .none⟩ = some (.slice a n cap)) (hH : H < w.heap.size) :
    Calls Tryd.prog 56 #[.pointer (some ⟨H, 0, .none⟩), .string nm] w fun e w' => e = .returned (.int .i64 (fiV nm l)) ∧ Fr w w' [] := by
  have HF := Lib.hid ((Fr.start w).new 9 #[.string nm] [.string nm] rfl 1 rfl (by omega))
  have c0 : (w.alloc (.cells #[.string nm] 9)).cell? ⟨H, 0, .none⟩ = some (.slice a n cap) := (HF.out.bel.cell (p := ⟨H, 0, .none⟩) hH).trans hc
  have HCL := Lib.hid (idxMem l n a cap nm w.heap.size (w.alloc (.cells #[.string nm] 9)) (HF.out.old h) hn hm (by have := cell_new w #[.string nm] 9 0; rw [Nat.zero_add] at this; rw [this]; rfl) (by simp))
  clear h hn hc hH
  go_enter Tryd.func56, Tryd.ntmps56
  go_wp2_with fail
  refine HCL.out.mono ?_; rintro e w2 ⟨rfl, hf2⟩
  go_wp2_with fail
  go_ret
  exact ⟨rfl, (HF.out.keep hf2.bel).below⟩
end Go.Proofs.YtbolgfiafbhicaaDoor
