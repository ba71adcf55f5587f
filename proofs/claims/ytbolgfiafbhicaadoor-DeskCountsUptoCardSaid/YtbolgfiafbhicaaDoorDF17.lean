/- Several of my texts in one: Hal3, SlEqS. -/
import Derived.Test.YtbolgfiafbhicaaDoorDF16
import Derived.Test.YtbolgfiafbhicaaDoorDF12
import Derived.Deep.QuietTactic
/- Contracts of package hall: tickets, Names, Tickets. -/
namespace Go.Proofs.YtbolgfiafbhicaaDoor
open Go.RowKit

def tksL (l : List Mem) : List Int := l.map (·.tk)
def wnsL (l : List Mem) : List Int := l.map (·.wn)
def nmsL (l : List Mem) : List Value := l.map fun m => .string m.nm
theorem tksL_len (l : List Mem) : (tksL l).length = l.length := by simp [tksL]
theorem wnsL_len (l : List Mem) : (wnsL l).length = l.length := by simp [wnsL]
theorem nmsL_len (l : List Mem) : (nmsL l).length = l.length := by simp [nmsL]
theorem take_succ_mem {l : List Mem} {k : Nat} {m : Mem} (h : l[k]? = some m) : l.take (k + 1) = l.take k ++ [m] := by
  rw [List.take_add_one, h]; rfl
set_option maxRecDepth 100000 in
set_option maxHeartbeats 4000000 in
theorem halTickets (l : List Mem) (n : Nat) (a : Option Addr) (cap : Nat) (H : Nat) (w : World) (h : Sa w a (rowsC memC l)) (hn : l.length = n) (hm : n ≤ 1000) (hc : w.cell? ⟨H, 0, .none⟩ = some (.slice a n cap)) :
    Calls Tryd.prog 53 #[.pointer (some ⟨H, 0, .none⟩)] w fun e w' => ∃ ad cp, e = .returned (.slice ad n cp) ∧ n ≤ cp ∧ Fr w w' [⟨3, .slice ad n cp, ints (tksL l)⟩] := by
  have HN := Lib.hid hn; have HS := Lib.hid h
  clear hn h
  go_enter Tryd.func53, Tryd.ntmps53
  go_wp2_with fail
  clear hc
  go_loopw [3, 11] (fun o q wr => ∃ (k : Nat) (ad : Option Addr) (cp : Nat), k ≤ n ∧ q = .int .i64 k ∧ o = .slice ad k cp ∧ Fr w wr [⟨3, .slice ad k cp, ints (tksL (l.take k))⟩]) (fun _ q _ => n - (intOf q).toNat)
  case atStart => exact ⟨0, none, 0, by omega, rfl, rfl, (Fr.start w).nilSlice _⟩
  case round =>
    obtain ⟨k, ad, cp, hk, rfl, rfl, hfr⟩ := hrel
    by_cases hlt : k < n
    · obtain ⟨m, hm2⟩ : ∃ m, l[k]? = some m := ⟨_, List.getElem?_eq_getElem (by rw [HN.out]; exact hlt)⟩
      obtain ⟨b, off, rfl, -, x1, x2, x3⟩ := (hfr.old HS.out).memA k m hm2
      have HT := Lib.hid (take_succ_mem hm2)
      have d1 : (0 : Int) ≤ (k : Int) := by omega
      have d2 : (k : Int) < (n : Int) := by omega
      have HF := Lib.hid (hfr.alloc (.cells #[.string m.nm, .int .i64 m.tk, .int .i64 m.wn] 65))
      clear hfr hm2
      go_wp2_with (with_reducible refine at_slot 19 ?_; go_must (refine wpList_pushInt' rfl _ _ rfl ad k cp _ m.tk _ _ (by simp) rfl HF.out rfl ?_ ?_); rotate_left; intro ad' cp' w3 hf2 hlt2)
      · rw [show tksL (l.take k) ++ [m.tk] = tksL (l.take (k + 1)) from by rw [HT.out, tksL, tksL, List.map_append]; rfl] at hf2
        exact ⟨⟨k + 1, ad', cp', by omega, by simp, rfl, hf2⟩, by simp only [intOf]; omega⟩
      · omega
    · obtain rfl : k = n := by omega
      have HF := Lib.hid hfr
      have hcap := hfr.cap
      clear hfr
      go_wp2_with fail
      go_ret
      refine ⟨ad, cp, rfl, hcap, ?_⟩
      have := HF.out
      rw [List.take_of_length_le (by rw [HN.out]; exact Nat.le_refl _)] at this
      exact this
theorem strInfo : (Tryd.prog.info? 9).map (fun i => (i.zero, i.size, i.bytes)) = some (some (.string ByteArray.empty), 1, 16) := by kernel_rfl
set_option maxRecDepth 100000 in
set_option maxHeartbeats 4000000 in
theorem halNames (l : List Mem) (n : Nat) (a : Option Addr) (cap : Nat) (H : Nat) (w : World) (h : Sa w a (rowsC memC l)) (hn : l.length = n) (hm : n ≤ 1000) (hc : w.cell? ⟨H, 0, .none⟩ = some (.slice a n cap)) :
    Calls Tryd.prog 20 #[.pointer (some ⟨H, 0, .none⟩)] w fun e w' => ∃ ad cp, e = .returned (.slice ad n cp) ∧ n ≤ cp ∧ Fr w w' [⟨9, .slice ad n cp, nmsL l⟩] := by
  have HN := Lib.hid hn; have HS := Lib.hid h
  clear hn h
  go_enter Tryd.func20, Tryd.ntmps20
  go_wp2_with fail
  clear hc
  go_loopw [3, 11] (fun o q wr => ∃ (k : Nat) (ad : Option Addr) (cp : Nat), k ≤ n ∧ q = .int .i64 k ∧ o = .slice ad k cp ∧ Fr w wr [⟨9, .slice ad k cp, nmsL (l.take k)⟩]) (fun _ q _ => n - (intOf q).toNat)
  case atStart => exact ⟨0, none, 0, by omega, rfl, rfl, (Fr.start w).nilSlice _⟩
  case round =>
    obtain ⟨k, ad, cp, hk, rfl, rfl, hfr⟩ := hrel
    by_cases hlt : k < n
    · obtain ⟨m, hm2⟩ : ∃ m, l[k]? = some m := ⟨_, List.getElem?_eq_getElem (by rw [HN.out]; exact hlt)⟩
      obtain ⟨b, off, rfl, -, x1, x2, x3⟩ := (hfr.old HS.out).memA k m hm2
      have HT := Lib.hid (take_succ_mem hm2)
      have d1 : (0 : Int) ≤ (k : Int) := by omega
      have d2 : (k : Int) < (n : Int) := by omega
      have HF := Lib.hid (hfr.alloc (.cells #[.string m.nm, .int .i64 m.tk, .int .i64 m.wn] 65))
      clear hfr hm2
      go_wp2_with (with_reducible refine at_slot 19 ?_; go_must (refine wpList_push' rfl _ _ 22 9 (.string ByteArray.empty) 16 Tryd.underlying22 strInfo rfl (by omega) rfl ad k cp _ (.string m.nm) _ _ (by simp) rfl HF.out rfl rfl ?_ ?_); rotate_left; intro ad' cp' w3 hf2 hlt2)
      · rw [show nmsL (l.take k) ++ [Value.string m.nm] = nmsL (l.take (k + 1)) from by rw [HT.out, nmsL, nmsL, List.map_append]; rfl] at hf2
        exact ⟨⟨k + 1, ad', cp', by omega, by simp, rfl, hf2⟩, by simp only [intOf]; omega⟩
      · omega
    · obtain rfl : k = n := by omega
      have HF := Lib.hid hfr
      have hcap := hfr.cap
      clear hfr
      go_wp2_with fail
      go_ret
      refine ⟨ad, cp, rfl, hcap, ?_⟩
      have := HF.out
      rw [List.take_of_length_le (by rw [HN.out]; exact Nat.le_refl _)] at this
      exact this
/-- what Tickets says -/
def tkOf (nm : ByteArray) (l : List Mem) : Option Int := (l[findM nm l]?).map (·.tk)
end Go.Proofs.YtbolgfiafbhicaaDoor
/- slices.Equal over strings, whatever they hold; slices.Contains over strings. -/
namespace Go.Proofs.YtbolgfiafbhicaaDoor
open Go.RowKit

def strV (l : List ByteArray) : List Value := l.map Value.string
theorem strV_len (l : List ByteArray) : (strV l).length = l.length := by simp [strV]
theorem Sa.strA {w : World} {a : Option Addr} {l : List ByteArray} (h : Sa w a (strV l)) (i : Nat) (s : ByteArray) (hi : l[i]? = some s) : ∃ b off, a = some ⟨b, off, none⟩ ∧ b < w.heap.size ∧ w.cell? ⟨b, off + i, none⟩ = some (.string s) := by
  have hl : i < l.length := (List.getElem?_eq_some_iff.1 hi).1
  obtain ⟨b, off, e, hb, hc⟩ := h (by rw [strV_len]; omega)
  exact ⟨b, off, e, hb, by rw [hc i (by rw [strV_len]; exact hl)]; unfold strV; rw [List.getElem?_map, hi]; rfl⟩
theorem eqS_of {l m : List ByteArray} {n : Nat} (hl : l.length = n) (hm : m.length = n) (h : ∀ i, i < n → l[i]? = m[i]?) : decide (l = m) = true :=
  decide_eq_true (List.ext_getElem? fun i => by
    rcases Nat.lt_or_ge i n with hi | hi
    · exact h i hi
    · rw [List.getElem?_eq_none (by omega), List.getElem?_eq_none (by omega)])
theorem neS_of {l m : List ByteArray} (i : Nat) (h : l[i]? ≠ m[i]?) : decide (l = m) = false := decide_eq_false (fun e => h (by rw [e]))
theorem neS_len {l m : List ByteArray} (h : l.length ≠ m.length) : decide (l = m) = false := decide_eq_false (fun e => h (by rw [e]))
set_option maxRecDepth 100000 in
set_option maxHeartbeats 4000000 in
theorem slEqS (l m : List ByteArray) (n k : Nat) (a b : Option Addr) (ca cb : Nat) (w : World) (h : Sa w a (strV l)) (h' : Sa w b (strV m)) (hn : l.length = n) (hk : m.length = k) (hl : n ≤ maxLen) (hl' : k ≤ maxLen) :
    Calls Tryd.prog 6 #[.slice a n ca, .slice b k cb] w (RetB (decide (l = m)) w) := by
  have HN := Lib.hid hn; have HK := Lib.hid hk; have HA := Lib.hid h; have HB := Lib.hid h'
  unfold maxLen at hl hl'
  clear hn hk h h'
  by_cases hnk : n = k
  · subst hnk
    have hne : (((n : Nat) : Int) == ((n : Nat) : Int)) = true := beq_self_eq_true _
    go_enter Tryd.func6, Tryd.ntmps6
    go_wp2_with fail
    go_loopw [13] (fun i wr => ∃ j : Nat, j ≤ n ∧ i = .int .i64 j ∧ Hid (∀ t, t < j → l[t]? = m[t]?) ∧ Fr w wr []) (fun i _ => n - (intOf i).toNat)
    case atStart => exact ⟨0, by omega, rfl, Lib.hid (fun t ht => by omega), Fr.start w⟩
    case round =>
      obtain ⟨j, hj, rfl, HE, hfr⟩ := hrel
      by_cases hlt : j < n
      · obtain ⟨x, hx⟩ : ∃ x, l[j]? = some x := ⟨_, List.getElem?_eq_getElem (by rw [HN.out]; exact hlt)⟩
        obtain ⟨y, hy⟩ : ∃ y, m[j]? = some y := ⟨_, List.getElem?_eq_getElem (by rw [HK.out]; exact hlt)⟩
        obtain ⟨b1, o1, rfl, hb1, hc1⟩ := (hfr.old HA.out).strA j x hx
        obtain ⟨b2, o2, rfl, hb2, hc2⟩ := (hfr.old HB.out).strA j y hy
        have d1 : (0 : Int) ≤ (j : Int) := by omega
        have d2 : (j : Int) < (n : Int) := by omega
        have g := str_eq x y
        by_cases he : x = y
        · have HJ := Lib.hid (show l[j]? = m[j]? by rw [hx, hy, he])
          rw [decide_eq_true he] at g
          clear hx hy he
          go_wp2_with fail
          go_quiet (fail)
          go_wp2_with fail
          go_roundw
          case rel =>
            refine ⟨j + 1, by omega, by go_num, Lib.hid fun t ht => ?_, hfr.drewN _⟩
            by_cases e : t = j
            · subst e; exact HJ.out
            · exact HE.out t (by omega)
          case measure => simp [intOf]; omega
        · have HJ := Lib.hid (neS_of (l := l) (m := m) j (by rw [hx, hy]; exact fun e => he (by cases e; rfl)))
          rw [decide_eq_false he] at g
          clear hx hy he
          go_wp2_with fail
          go_quiet (fail)
          go_wp2_with fail
          go_ret
          exact ⟨by rw [HJ.out]; rfl, hfr.drewN _⟩
      · go_wp2_with fail
        go_ret
        exact ⟨by rw [eqS_of HN.out HK.out (fun i hi => HE.out i (by omega))]; rfl, hfr⟩
  · have hne : (((n : Nat) : Int) == ((k : Nat) : Int)) = false := beq_eq_false_iff_ne.2 (by omega)
    have HJ := Lib.hid (neS_len (l := l) (m := m) (by rw [HN.out, HK.out]; exact hnk))
    clear hnk
    go_enter Tryd.func6, Tryd.ntmps6
    go_wp2_with fail
    go_ret
    exact ⟨by rw [HJ.out]; rfl, Fr.start w⟩
end Go.Proofs.YtbolgfiafbhicaaDoor
