/- Several of my texts in one: Hal2, Hal3, LotW, SlEq2. -/
import Derived.Test.YtjplnkkcmkpkbaaMA31
import Derived.Deep.QuietTactic
import Derived.Test.YtjplnkkcmkpkbaaMA29
set_option linter.unusedSimpArgs false
set_option linter.unusedVariables false
/- Contracts of package hall: find. -/
namespace Go.Proofs.Ytjplnkkcmkpkbaa
open Go.RowKit

theorem Sa.memA {w : World} {a : Option Addr} {l : List Mem} (h : Sa w a (rowsC memC l)) (i : Nat) (m : Mem) (hi : l[i]? = some m) : ∃ b off, a = some ⟨b, off, none⟩ ∧ b < w.heap.size ∧
    w.cell? ⟨b, off + i * 3, none⟩ = some (.string m.nm) ∧ w.cell? ⟨b, off + i * 3 + 1, none⟩ = some (.int .i64 m.tk) ∧ w.cell? ⟨b, off + i * 3 + 2, none⟩ = some (.int .i64 m.wn) := by
  have hl : i < l.length := (List.getElem?_eq_some_iff.1 hi).1
  have hlen := rowsC_len memC_len l
  obtain ⟨b, off, e, hb, hc⟩ := h (by rw [hlen]; omega)
  have key : ∀ j, j < 3 → w.cell? ⟨b, off + i * 3 + j, none⟩ = (memC m)[j]? := fun j hj => by
    rw [Nat.add_assoc, hc (i * 3 + j) (by rw [hlen]; omega), rowsC_get memC_len l i j m hi hj]
  exact ⟨b, off, e, hb, key 0 (by omega), key 1 (by omega), key 2 (by omega)⟩
theorem findM_not (nm : ByteArray) : ∀ (l : List Mem) (k : Nat), k ≤ findM nm l → ∀ i m, i < k → l[i]? = some m → m.nm ≠ nm
  | [], k, h, i, m, hi, e => by simp at e
  | x :: l, k, h, i, m, hi, e => by
    rw [findM] at h
    split at h
    · omega
    · next hx =>
      cases i with
      | zero => have : x = m := by simpa using e
                rw [← this]; exact hx
      | succ i => exact findM_not nm l (k - 1) (by omega) i m (by omega) (by simpa using e)
theorem findM_at (nm : ByteArray) : ∀ (l : List Mem) (i : Nat) (m : Mem), l[i]? = some m → m.nm = nm → i ≤ findM nm l → findM nm l = i
  | [], i, m, e, _, _ => by simp at e
  | x :: l, i, m, e, h, hi => by
    rw [findM] at hi ⊢
    cases i with
    | zero =>
      have : x = m := by simpa using e
      rw [this, if_pos h]
    | succ i =>
      split
      · next hx => rw [if_pos hx] at hi; omega
      · next hx =>
        rw [if_neg hx] at hi
        rw [findM_at nm l i m (by simpa using e) h (by omega)]
theorem findM_step (nm : ByteArray) : ∀ (l : List Mem) (i : Nat) (m : Mem), l[i]? = some m → m.nm ≠ nm → i ≤ findM nm l → i + 1 ≤ findM nm l
  | [], i, m, e, _, _ => by simp at e
  | x :: l, i, m, e, h, hi => by
    rw [findM] at hi ⊢
    cases i with
    | zero =>
      have : x = m := by simpa using e
      rw [this, if_neg h]; omega
    | succ i =>
      split
      · next hx => rw [if_pos hx] at hi; omega
      · next hx =>
        rw [if_neg hx] at hi
        have := findM_step nm l i m (by simpa using e) h (by omega)
        omega
theorem str_eq (a b : ByteArray) : (a.toList == b.toList) = decide (a = b) := by
  rw [ByteArray.toList_eq, ByteArray.toList_eq]
  by_cases h : a = b
  · subst h; simp
  · rw [decide_eq_false h, beq_eq_false_iff_ne]
    intro e
    apply h
    cases a with
    | mk x => cases b with
      | mk y =>
        have : x = y := Array.toList_inj.1 e
        rw [this]
set_option maxRecDepth 100000 in
set_option maxHeartbeats 4000000 in
theorem halFind1 (x : ByteArray) (t v : Int) (nm : ByteArray) (B : Nat) (w : World) (hv : w.cell? ⟨B, 0, .none⟩ = some (.string nm)) (hB : B < w.heap.size) :
    Calls Try.prog 53 #[.agg #[.string x, .int .i64 t, .int .i64 v], .pointer (some ⟨B, 0, .none⟩)] w fun e w' => e = .returned (.bool (decide (x = nm))) ∧ Fr w w' [] := by
  have hv' : (w.alloc (.cells #[.string x, .int .i64 t, .int .i64 v] 90)).cell? ⟨B, 0, .none⟩ = some (.string nm) := ((Fr.start w).alloc (.cells #[.string x, .int .i64 t, .int .i64 v] 90)).bel.cell (p := ⟨B, 0, .none⟩) hB |>.trans hv
  have HF := Lib.hid ((Fr.start w).alloc (.cells #[.string x, .int .i64 t, .int .i64 v] 90))
  have g := str_eq x nm
  go_enter Try.func53, Try.ntmps53
  go_wp2_with fail
  go_ret
  exact ⟨rfl, HF.out⟩
theorem findM_end (nm : ByteArray) (l : List Mem) (h : l.length ≤ findM nm l) : findM nm l = l.length := Nat.le_antisymm (findM_le nm l) h
def fiV (nm : ByteArray) (l : List Mem) : Int := if findM nm l < l.length then (findM nm l : Nat) else -1
set_option maxRecDepth 100000 in
set_option maxHeartbeats 4000000 in
theorem idxMem (l : List Mem) (n : Nat) (a : Option Addr) (cap : Nat) (nm : ByteArray) (B : Nat) (w : World) (h : Sa w a (rowsC memC l)) (hn : l.length = n) (hm : n ≤ 1000)
    (hv : w.cell? ⟨B, 0, .none⟩ = some (.string nm)) (hB : B < w.heap.size) :
    Calls Try.prog 52 #[.slice a n cap, .func (.func 53) #[] #[.pointer (some ⟨B, 0, .none⟩)]] w fun e w' => e = .returned (.int .i64 (fiV nm l)) ∧ Fr w w' [] := by
  have HN := Lib.hid hn; have HS := Lib.hid h; have HV := Lib.hid hv; have HB := Lib.hid hB
  clear hn h hv hB
  go_enter Try.func52, Try.ntmps52
  go_wp2_with fail
  go_loopw [8] (fun q wr => ∃ k : Nat, k ≤ n ∧ q = .int .i64 k ∧ Hid (k ≤ findM nm l) ∧ Hid (Fr w wr [])) (fun q _ => n - (intOf q).toNat)
  case atStart => exact ⟨0, by omega, rfl, Lib.hid (Nat.zero_le _), Lib.hid (Fr.start w)⟩
  case round =>
    obtain ⟨k, hk, rfl, HK, HF⟩ := hrel
    by_cases hlt : k < n
    · obtain ⟨m, hm2⟩ : ∃ m, l[k]? = some m := ⟨_, List.getElem?_eq_getElem (by rw [HN.out]; exact hlt)⟩
      obtain ⟨b, off, rfl, -, x1, x2, x3⟩ := (HF.out.old HS.out).memA k m hm2
      have hcall := halFind1 m.nm m.tk m.wn nm B wr ((HF.out.bel.cell (p := ⟨B, 0, .none⟩) HB.out).trans HV.out) (Nat.lt_of_lt_of_le HB.out HF.out.bel.size)
      have HM2 := Lib.hid hm2
      clear hm2
      have d1 : (0 : Int) ≤ (k : Int) := by omega
      have d2 : (k : Int) < (n : Int) := by omega
      by_cases hki : m.nm = nm
      · have HI := Lib.hid (findM_at nm l k m HM2.out hki HK.out)
        rw [decide_eq_true hki] at hcall
        have HC := Lib.hid hcall
        clear hcall hki
        go_wp2_with fail
        refine HC.out.mono ?_; rintro e w2 ⟨rfl, hf2⟩
        go_wp2_with fail
        go_ret
        exact ⟨by unfold fiV; rw [HI.out, if_pos (by rw [HN.out]; exact hlt)]; rfl, HF.out.keep hf2.bel⟩
      · have HI := Lib.hid (findM_step nm l k m HM2.out hki HK.out)
        rw [decide_eq_false hki] at hcall
        have HC := Lib.hid hcall
        clear hcall hki
        go_wp2_with fail
        refine HC.out.mono ?_; rintro e w2 ⟨rfl, hf2⟩
        go_wp2_with fail
        go_roundw
        case rel => exact ⟨k + 1, by omega, by go_num, HI, Lib.hid (HF.out.keep hf2.bel)⟩
        case measure => simp only [intOf]; omega
    · obtain rfl : k = n := by omega
      go_wp2_with fail
      go_ret
      exact ⟨by unfold fiV; rw [findM_end nm l (by rw [HN.out]; exact HK.out), if_neg (Nat.lt_irrefl _)]; rfl, HF.out⟩
set_option maxRecDepth 100000 in
set_option maxHeartbeats 4000000 in
theorem halFind (l : List Mem) (n : Nat) (a : Option Addr) (cap : Nat) (nm : ByteArray) (H : Nat) (w : World) (h : Sa w a (rowsC memC l)) (hn : l.length = n) (hm : n ≤ 1000) (hc : w.cell? ⟨H, 0, .none⟩ = some (.slice a n cap)) (hH : H < w.heap.size) :
    Calls Try.prog 43 #[.pointer (some ⟨H, 0, .none⟩), .string nm] w fun e w' => e = .returned (.int .i64 (fiV nm l)) ∧ Fr w w' [] := by
  have HF := Lib.hid ((Fr.start w).new 9 #[.string nm] [.string nm] rfl 1 rfl (by omega))
  have c0 : (w.alloc (.cells #[.string nm] 9)).cell? ⟨H, 0, .none⟩ = some (.slice a n cap) := (HF.out.bel.cell (p := ⟨H, 0, .none⟩) hH).trans hc
  have HCL := Lib.hid (idxMem l n a cap nm w.heap.size (w.alloc (.cells #[.string nm] 9)) (HF.out.old h) hn hm (by have := cell_new w #[.string nm] 9 0; rw [Nat.zero_add] at this; rw [this]; rfl) (by simp))
  clear h hn hc hH
  go_enter Try.func43, Try.ntmps43
  go_wp2_with fail
  refine HCL.out.mono ?_; rintro e w2 ⟨rfl, hf2⟩
  go_wp2_with fail
  go_ret
  exact ⟨rfl, (HF.out.keep hf2.bel).below⟩
end Go.Proofs.Ytjplnkkcmkpkbaa
/- Contracts of package hall: tickets, Names, Tickets. -/
namespace Go.Proofs.Ytjplnkkcmkpkbaa
open Go.RowKit

def tksL (l : List Mem) : List Int := l.map (·.tk)
def wnsL (l : List Mem) : List Int := l.map (·.wn)
def nmsL (l : List Mem) : List Value := l.map fun m => .string m.nm
theorem tksL_len (l : List Mem) : (tksL l).length = l.length := by simp [tksL]
theorem wnsL_len (l : List Mem) : (wnsL l).length = l.length := by simp [wnsL]
theorem nmsL_len (l : List Mem) : (nmsL l).length = l.length := by simp [nmsL]
theorem take_succ_mem {l : List Mem} {k : Nat} {m : Mem} (h : l[k]? = some m) : l.take (k + 1) = l.take k ++ [m] := by
  rw [List.take_add_one, h]; rfl
set_option maxRecDepth 100000 in
set_option maxHeartbeats 4000000 in
theorem halTickets (l : List Mem) (n : Nat) (a : Option Addr) (cap : Nat) (H : Nat) (w : World) (h : Sa w a (rowsC memC l)) (hn : l.length = n) (hm : n ≤ 1000) (hc : w.cell? ⟨H, 0, .none⟩ = some (.slice a n cap)) :
    Calls Try.prog 40 #[.pointer (some ⟨H, 0, .none⟩)] w fun e w' => ∃ ad cp, e = .returned (.slice ad n cp) ∧ n ≤ cp ∧ Fr w w' [⟨3, .slice ad n cp, ints (tksL l)⟩] := by
  have HN := Lib.hid hn; have HS := Lib.hid h
  clear hn h
  go_enter Try.func40, Try.ntmps40
  go_wp2_with fail
  clear hc
  go_loopw [3, 11] (fun o q wr => ∃ (k : Nat) (ad : Option Addr) (cp : Nat), k ≤ n ∧ q = .int .i64 k ∧ o = .slice ad k cp ∧ Fr w wr [⟨3, .slice ad k cp, ints (tksL (l.take k))⟩]) (fun _ q _ => n - (intOf q).toNat)
  case atStart => exact ⟨0, none, 0, by omega, rfl, rfl, (Fr.start w).nilSlice _⟩
  case round =>
    obtain ⟨k, ad, cp, hk, rfl, rfl, hfr⟩ := hrel
    by_cases hlt : k < n
    · obtain ⟨m, hm2⟩ : ∃ m, l[k]? = some m := ⟨_, List.getElem?_eq_getElem (by rw [HN.out]; exact hlt)⟩
      obtain ⟨b, off, rfl, -, x1, x2, x3⟩ := (hfr.old HS.out).memA k m hm2
      have HT := Lib.hid (take_succ_mem hm2)
      have d1 : (0 : Int) ≤ (k : Int) := by omega
      have d2 : (k : Int) < (n : Int) := by omega
      have HF := Lib.hid (hfr.alloc (.cells #[.string m.nm, .int .i64 m.tk, .int .i64 m.wn] 90))
      clear hfr hm2
      go_wp2_with (with_reducible refine at_slot 19 ?_; go_must (refine wpList_pushInt' rfl _ _ rfl ad k cp _ m.tk _ _ (by simp) rfl HF.out rfl ?_ ?_); rotate_left; intro ad' cp' w3 hf2 hlt2)
      · rw [show tksL (l.take k) ++ [m.tk] = tksL (l.take (k + 1)) from by rw [HT.out, tksL, tksL, List.map_append]; rfl] at hf2
        exact ⟨⟨k + 1, ad', cp', by omega, by simp, rfl, hf2⟩, by simp only [intOf]; omega⟩
      · omega
    · obtain rfl : k = n := by omega
      have HF := Lib.hid hfr
      have hcap := hfr.cap
      clear hfr
      go_wp2_with fail
      go_ret
      refine ⟨ad, cp, rfl, hcap, ?_⟩
      have := HF.out
      rw [List.take_of_length_le (by rw [HN.out]; exact Nat.le_refl _)] at this
      exact this
theorem strInfo : (Try.prog.info? 9).map (fun i => (i.zero, i.size, i.bytes)) = some (some (.string ByteArray.empty), 1, 16) := by kernel_rfl
/-- what Tickets says -/
def tkOf (nm : ByteArray) (l : List Mem) : Option Int := (l[findM nm l]?).map (·.tk)
end Go.Proofs.Ytjplnkkcmkpkbaa
/- lottery.Winner for every lot: one word. -/
namespace Go.Proofs.Ytjplnkkcmkpkbaa
open Go.RowKit

set_option maxHeartbeats 800000 in
theorem lotWinnerX (l : List Int) (n : Nat) (a : Option Addr) (cap : Nat) (lot : Int) (w : World) (h : Sa w a (ints l)) (hn : l.length = n) (hp : TkOk l) (h1 : isum l ≠ 0) (h2 : lot < 0 ∨ isum l ≤ lot) :
    Calls Try.prog 39 #[.slice a n cap, .int .i64 lot] w fun e w' => e = .returned (.tuple #[.int .i64 0, .int .i64 1]) ∧ w = w' := by
  have HN := Lib.hid hn; have HS := Lib.hid h; have HP := Lib.hid hp
  obtain ⟨S, hS⟩ : ∃ S, isum l = S := ⟨_, rfl⟩
  rw [hS] at h1 h2
  have HSS := Lib.hid hS
  have z : (S == 0) = false := by rw [beq_eq_false_iff_ne]; exact h1
  clear hn h hp h1 hS
  by_cases h0 : lot < 0
  · have d : decide (lot < 0) = true := decide_eq_true h0
    clear h2
    go_enter Try.func39, Try.ntmps39
    go_wp2_with fail
    refine (lotAll l n _ _ _ HS.out HN.out HP.out).mono ?_; rintro e w' ⟨rfl, rfl⟩
    rw [HSS.out]
    go_wp2_with fail
    go_ret2
    exact ⟨rfl, rfl⟩
  · have d : decide (lot < 0) = false := decide_eq_false h0
    have d2 : decide (S ≤ lot) = true := decide_eq_true (by omega)
    clear h2
    go_enter Try.func39, Try.ntmps39
    go_wp2_with fail
    refine (lotAll l n _ _ _ HS.out HN.out HP.out).mono ?_; rintro e w' ⟨rfl, rfl⟩
    rw [HSS.out]
    go_wp2_with fail
    go_ret2
    exact ⟨rfl, rfl⟩
/-- who wins, and with which error -/
def winW (l : List Int) (lot : Int) : Int × Int := if isum l = 0 then (0, 4) else if lot < 0 ∨ isum l ≤ lot then (0, 1) else (((winL l lot : Nat) : Int), 0)
theorem lotWinAny (l : List Int) (n : Nat) (a : Option Addr) (cap : Nat) (lot : Int) (w : World) (h : Sa w a (ints l)) (hn : l.length = n) (hp : TkOk l) :
    Calls Try.prog 39 #[.slice a n cap, .int .i64 lot] w fun e w' => e = .returned (.tuple #[.int .i64 (winW l lot).1, .int .i64 (winW l lot).2]) ∧ w = w' := by
  by_cases h1 : isum l = 0
  · have e : winW l lot = (0, 4) := by unfold winW; rw [if_pos h1]
    rw [e]; exact lotWinner0 l n a cap lot w h hn hp h1
  · by_cases h2 : lot < 0 ∨ isum l ≤ lot
    · have e : winW l lot = (0, 1) := by unfold winW; rw [if_neg h1, if_pos h2]
      rw [e]; exact lotWinnerX l n a cap lot w h hn hp h1 h2
    · have e : winW l lot = (((winL l lot : Nat) : Int), 0) := by unfold winW; rw [if_neg h1, if_neg h2]
      rw [e]; exact lotWinner l n a cap lot w h hn hp (by omega) (by omega)
end Go.Proofs.Ytjplnkkcmkpkbaa
/- slices.Equal over ints, whatever they hold. -/
namespace Go.Proofs.Ytjplnkkcmkpkbaa
open Go.RowKit

def RetB (b : Bool) (w : World) (e : Ending) (w' : World) : Prop := e = .returned (.bool b) ∧ Fr w w' []
theorem eq_of_take {l m : List Int} {n : Nat} (hl : l.length = n) (hm : m.length = n) (h : ∀ i, i < n → nth l i = nth m i) : decide (l = m) = true :=
  decide_eq_true (ext_nth (by omega) (fun i hi => h i (by omega)))
theorem ne_of_nth {l m : List Int} (i : Nat) (h : nth l i ≠ nth m i) : decide (l = m) = false := decide_eq_false (fun e => h (by rw [e]))
theorem ne_of_len {l m : List Int} (h : l.length ≠ m.length) : decide (l = m) = false := decide_eq_false (fun e => h (by rw [e]))

end Go.Proofs.Ytjplnkkcmkpkbaa
