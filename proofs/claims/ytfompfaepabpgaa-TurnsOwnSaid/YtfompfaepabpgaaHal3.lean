/- Contracts of package hall: tickets, Names, Tickets. -/
import Derived.Test.YtfompfaepabpgaaHal2
namespace Go.Proofs.Ytfompfaepabpgaa
open Go.RowKit

def tksL (l : List Mem) : List Int := l.map (·.tk)
def wnsL (l : List Mem) : List Int := l.map (·.wn)
def nmsL (l : List Mem) : List Value := l.map fun m => .string m.nm
theorem tksL_len (l : List Mem) : (tksL l).length = l.length := by simp [tksL]
theorem wnsL_len (l : List Mem) : (wnsL l).length = l.length := by simp [wnsL]
theorem nmsL_len (l : List Mem) : (nmsL l).length = l.length := by simp [nmsL]
theorem take_succ_mem {l : List Mem} {k : Nat} {m : Mem} (h : l[k]? = some m) : l.take (k + 1) = l.take k ++ [m] := by
  rw [List.take_add_one, h]; rfl
set_option maxRecDepth 100000 in
set_option maxHeartbeats 4000000 in
theorem halTickets (l : List Mem) (n : Nat) (a : Option Addr) (cap : Nat) (H : Nat) (w : World) (h : Sa w a (rowsC memC l)) (hn : l.length = n) (hm : n ≤ 1000) (hc : w.cell? ⟨H, 0, .none⟩ = some (.slice a n cap)) :
    Calls Try.prog 48 #[.pointer (some ⟨H, 0, .none⟩)] w fun e w' => ∃ ad cp, e = .returned (.slice ad n cp) ∧ n ≤ cp ∧ Fr w w' [⟨3, .slice ad n cp, ints (tksL l)⟩] := by
  have HN := Lib.hid hn; have HS := Lib.hid h
  clear hn h
  go_enter Try.func48, Try.ntmps48
  go_wp2_with fail
  clear hc
  go_loopw [3, 11] (fun o q wr => ∃ (k : Nat) (ad : Option Addr) (cp : Nat), k ≤ n ∧ q = .int .i64 k ∧ o = .slice ad k cp ∧ Fr w wr [⟨3, .slice ad k cp, ints (tksL (l.take k))⟩]) (fun _ q _ => n - (intOf q).toNat)
  case atStart => exact ⟨0, none, 0, by omega, rfl, rfl, (Fr.start w).nilSlice _⟩
  case round =>
    obtain ⟨k, ad, cp, hk, rfl, rfl, hfr⟩ := hrel
    by_cases hlt : k < n
    · obtain ⟨m, hm2⟩ : ∃ m, l[k]? = some m := ⟨_, List.getElem?_eq_getElem (by rw [HN.out]; exact hlt)⟩
      obtain ⟨b, off, rfl, -, x1, x2, x3⟩ := (hfr.old HS.out).memA k m hm2
      have HT := Lib.hid (take_succ_mem hm2)
      have d1 : (0 : Int) ≤ (k : Int) := by omega
      have d2 : (k : Int) < (n : Int) := by omega
      have HF := Lib.hid (hfr.alloc (.cells #[.string m.nm, .int .i64 m.tk, .int .i64 m.wn] 90))
      clear hfr hm2
      go_wp2_with (with_reducible refine at_slot 19 ?_; go_must (refine wpList_pushInt' rfl _ _ rfl ad k cp _ m.tk _ _ (by simp) rfl HF.out rfl ?_ ?_); rotate_left; intro ad' cp' w3 hf2 hlt2)
      · rw [show tksL (l.take k) ++ [m.tk] = tksL (l.take (k + 1)) from by rw [HT.out, tksL, tksL, List.map_append]; rfl] at hf2
        exact ⟨⟨k + 1, ad', cp', by omega, by simp, rfl, hf2⟩, by simp only [intOf]; omega⟩
      · omega
    · obtain rfl : k = n := by omega
      have HF := Lib.hid hfr
      have hcap := hfr.cap
      clear hfr
      go_wp2_with fail
      go_ret
      refine ⟨ad, cp, rfl, hcap, ?_⟩
      have := HF.out
      rw [List.take_of_length_le (by rw [HN.out]; exact Nat.le_refl _)] at this
      exact this
theorem strInfo : (Try.prog.info? 9).map (fun i => (i.zero, i.size, i.bytes)) = some (some (.string ByteArray.empty), 1, 16) := by kernel_rfl
set_option maxRecDepth 100000 in
set_option maxHeartbeats 4000000 in
theorem halNames (l : List Mem) (n : Nat) (a : Option Addr) (cap : Nat) (H : Nat) (w : World) (h : Sa w a (rowsC memC l)) (hn : l.length = n) (hm : n ≤ 1000) (hc : w.cell? ⟨H, 0, .none⟩ = some (.slice a n cap)) :
    Calls Try.prog 20 #[.pointer (some ⟨H, 0, .none⟩)] w fun e w' => ∃ ad cp, e = .returned (.slice ad n cp) ∧ n ≤ cp ∧ Fr w w' [⟨9, .slice ad n cp, nmsL l⟩] := by
  have HN := Lib.hid hn; have HS := Lib.hid h
  clear hn h
  go_enter Try.func20, Try.ntmps20
  go_wp2_with fail
  clear hc
  go_loopw [3, 11] (fun o q wr => ∃ (k : Nat) (ad : Option Addr) (cp : Nat), k ≤ n ∧ q = .int .i64 k ∧ o = .slice ad k cp ∧ Fr w wr [⟨9, .slice ad k cp, nmsL (l.take k)⟩]) (fun _ q _ => n - (intOf q).toNat)
  case atStart => exact ⟨0, none, 0, by omega, rfl, rfl, (Fr.start w).nilSlice _⟩
  case round =>
    obtain ⟨k, ad, cp, hk, rfl, rfl, hfr⟩ := hrel
    by_cases hlt : k < n
    · obtain ⟨m, hm2⟩ : ∃ m, l[k]? = some m := ⟨_, List.getElem?_eq_getElem (by rw [HN.out]; exact hlt)⟩
      obtain ⟨b, off, rfl, -, x1, x2, x3⟩ := (hfr.old HS.out).memA k m hm2
      have HT := Lib.hid (take_succ_mem hm2)
      have d1 : (0 : Int) ≤ (k : Int) := by omega
      have d2 : (k : Int) < (n : Int) := by omega
      have HF := Lib.hid (hfr.alloc (.cells #[.string m.nm, .int .i64 m.tk, .int .i64 m.wn] 90))
      clear hfr hm2
      go_wp2_with (with_reducible refine at_slot 19 ?_; go_must (refine wpList_push' rfl _ _ 42 9 (.string ByteArray.empty) 16 Try.underlying42 strInfo rfl (by omega) rfl ad k cp _ (.string m.nm) _ _ (by simp) rfl HF.out rfl rfl ?_ ?_); rotate_left; intro ad' cp' w3 hf2 hlt2)
      · rw [show nmsL (l.take k) ++ [Value.string m.nm] = nmsL (l.take (k + 1)) from by rw [HT.out, nmsL, nmsL, List.map_append]; rfl] at hf2
        exact ⟨⟨k + 1, ad', cp', by omega, by simp, rfl, hf2⟩, by simp only [intOf]; omega⟩
      · omega
    · obtain rfl : k = n := by omega
      have HF := Lib.hid hfr
      have hcap := hfr.cap
      clear hfr
      go_wp2_with fail
      go_ret
      refine ⟨ad, cp, rfl, hcap, ?_⟩
      have := HF.out
      rw [List.take_of_length_le (by rw [HN.out]; exact Nat.le_refl _)] at this
      exact this
/-- what Tickets says -/
def tkOf (nm : ByteArray) (l : List Mem) : Option Int := (l[findM nm l]?).map (·.tk)
set_option maxRecDepth 100000 in
set_option maxHeartbeats 4000000 in
theorem halTk (l : List Mem) (n : Nat) (a : Option Addr) (cap : Nat) (nm : ByteArray) (H : Nat) (w : World) (h : Sa w a (rowsC memC l)) (hn : l.length = n) (hm : n ≤ 1000) (hc : w.cell? ⟨H, 0, .none⟩ = some (.slice a n cap)) (hH : H < w.heap.size) :
    Calls Try.prog 14 #[.pointer (some ⟨H, 0, .none⟩), .string nm] w fun e w' => (∃ t e0, e = .returned (.tuple #[.int .i64 t, .int .i64 e0]) ∧ ((tkOf nm l = some t ∧ e0 = 0) ∨ (tkOf nm l = none ∧ t = 0 ∧ e0 = 4))) ∧ Fr w w' [] := by
  have HCL := Lib.hid (halFind l n a cap nm H w h hn hm hc hH)
  have HN := Lib.hid hn; have HS := Lib.hid h; have HC := Lib.hid hc; have HH := Lib.hid hH
  clear hn h hc hH
  go_enter Try.func14, Try.ntmps14
  go_wp2_with fail
  refine HCL.out.mono ?_; rintro e w2 ⟨rfl, hf⟩
  have HF := Lib.hid hf
  clear hf HCL
  obtain ⟨k, hk⟩ : ∃ k, findM nm l = k := ⟨_, rfl⟩
  by_cases hlt : k < n
  · obtain ⟨m, hm2⟩ : ∃ m, l[k]? = some m := ⟨_, List.getElem?_eq_getElem (by rw [HN.out]; exact hlt)⟩
    have hfi : fiV nm l = (k : Int) := by unfold fiV; rw [hk, if_pos (by rw [HN.out]; exact hlt)]
    have HT : Hid (tkOf nm l = some m.tk) := Lib.hid (by unfold tkOf; rw [hk, hm2]; rfl)
    obtain ⟨b, off, rfl, -, x1, x2, x3⟩ := (HF.out.old HS.out).memA k m hm2
    have c0 := (HF.out.bel.cell (p := ⟨H, 0, .none⟩) HH.out).trans HC.out
    have d1 : (0 : Int) ≤ (k : Int) := by omega
    have d2 : (k : Int) < (n : Int) := by omega
    have d3 : decide ((k : Int) < 0) = false := decide_eq_false (by omega)
    rw [hfi]
    clear hk hm2 hfi
    go_wp2_with fail
    go_ret2
    exact ⟨⟨_, _, rfl, .inl ⟨HT.out, rfl⟩⟩, HF.out⟩
  · have hfi : fiV nm l = -1 := by unfold fiV; rw [hk, if_neg (by rw [HN.out]; exact hlt)]
    have HT : Hid (tkOf nm l = none) := Lib.hid (by unfold tkOf; rw [hk, List.getElem?_eq_none (by rw [HN.out]; omega)]; rfl)
    rw [hfi]
    clear hk hfi
    go_wp2_with fail
    go_ret2
    exact ⟨⟨_, _, rfl, .inr ⟨HT.out, rfl, rfl⟩⟩, HF.out⟩
end Go.Proofs.Ytfompfaepabpgaa
