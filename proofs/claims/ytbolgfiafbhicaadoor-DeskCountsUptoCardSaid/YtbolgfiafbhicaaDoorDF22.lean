/- Several of my texts in one: Hal6. -/
import Derived.Test.YtbolgfiafbhicaaDoorDF21
/- Is there a loan from or to a name? -/
namespace Go.Proofs.YtbolgfiafbhicaaDoor
open Go.RowKit

theorem Sa.loanA {w : World} {a : Option Addr} {l : List Loan} (h : Sa w a (rowsC loanC l)) (i : Nat) (m : Loan) (hi : l[i]? = some m) : ∃ b off, a = some ⟨b, off, none⟩ ∧ b < w.heap.size ∧
    w.cell? ⟨b, off + i * 3, none⟩ = some (.string m.fr) ∧ w.cell? ⟨b, off + i * 3 + 1, none⟩ = some (.string m.to) ∧ w.cell? ⟨b, off + i * 3 + 2, none⟩ = some (.int .i64 m.n) := by
  have hl : i < l.length := (List.getElem?_eq_some_iff.1 hi).1
  have hlen := rowsC_len loanC_len l
  obtain ⟨b, off, e, hb, hc⟩ := h (by rw [hlen]; omega)
  have key : ∀ j, j < 3 → w.cell? ⟨b, off + i * 3 + j, none⟩ = (loanC m)[j]? := fun j hj => by
    rw [Nat.add_assoc, hc (i * 3 + j) (by rw [hlen]; omega), rowsC_get loanC_len l i j m hi hj]
  exact ⟨b, off, e, hb, key 0 (by omega), key 1 (by omega), key 2 (by omega)⟩
def tied (nm : ByteArray) (x : Loan) : Bool := decide (x.fr = nm) || decide (x.to = nm)
set_option maxRecDepth 100000 in
set_option maxHeartbeats 4000000 in
theorem halLeave1 (x : Loan) (nm : ByteArray) (B : Nat) (w : World) (hv : w.cell? ⟨B, 0, .none⟩ = some (.string nm)) (hB : B < w.heap.size) :
    Calls Tryd.prog 85 #[.agg #[.string x.fr, .string x.to, .int .i64 x.n], .pointer (some ⟨B, 0, .none⟩)] w fun e w' => e = .returned (.bool (tied nm x)) ∧ Fr w w' [] := by
  obtain ⟨f, t, v⟩ := x
  have hv' : (w.alloc (.cells #[.string f, .string t, .int .i64 v] 125)).cell? ⟨B, 0, .none⟩ = some (.string nm) := ((Fr.start w).alloc (.cells #[.string f, .string t, .int .i64 v] 125)).bel.cell (p := ⟨B, 0, .none⟩) hB |>.trans hv
  have HF := Lib.hid ((Fr.start w).alloc (.cells #[.string f, .string t, .int .i64 v] 125))
  have g1 := str_eq f nm
  have g2 := str_eq t nm
  by_cases h : f = nm
  · have e : tied nm ⟨f, t, v⟩ = true := by unfold tied; simp [h]
    rw [decide_eq_true h] at g1
    rw [e]
    clear e h
    go_enter Tryd.func85, Tryd.ntmps85
    go_wp2_with fail
    go_ret
    exact ⟨rfl, HF.out⟩
  · have e : tied nm ⟨f, t, v⟩ = decide (t = nm) := by unfold tied; simp [h]
    rw [decide_eq_false h] at g1
    rw [e]
    clear e h
    obtain ⟨b, hb⟩ : ∃ b, decide (t = nm) = b := ⟨_, rfl⟩
    rw [hb] at g2 ⊢
    clear hb
    go_enter Tryd.func85, Tryd.ntmps85
    go_wp2_with fail
    go_ret
    exact ⟨rfl, HF.out⟩
/-- is a loan of the first k from or to the name? -/
def anyT (nm : ByteArray) (l : List Loan) : Bool := l.any (tied nm)
theorem anyT_yes {nm : ByteArray} {l : List Loan} {i : Nat} {x : Loan} (h : l[i]? = some x) (ht : tied nm x = true) : anyT nm l = true :=
  List.any_eq_true.2 ⟨x, List.mem_of_getElem? h, ht⟩
theorem anyT_no {nm : ByteArray} {l : List Loan} (h : ∀ i x, i < l.length → l[i]? = some x → tied nm x = false) : anyT nm l = false := by
  apply Bool.eq_false_iff.2
  intro e
  obtain ⟨x, hx, ht⟩ := List.any_eq_true.1 e
  obtain ⟨i, hi, rfl⟩ := List.getElem_of_mem hx
  rw [h i _ hi (List.getElem?_eq_getElem hi)] at ht; cases ht
def FoundT (nm : ByteArray) (l : List Loan) (w : World) (e : Ending) (w' : World) : Prop := ∃ q : Int, e = .returned (.int .i64 q) ∧ ((0 ≤ q ∧ anyT nm l = true) ∨ (q < 0 ∧ anyT nm l = false)) ∧ Fr w w' []
set_option maxRecDepth 100000 in
set_option maxHeartbeats 4000000 in
theorem idxLoan (l : List Loan) (n : Nat) (a : Option Addr) (cap : Nat) (nm : ByteArray) (B : Nat) (w : World) (h : Sa w a (rowsC loanC l)) (hn : l.length = n) (hm : n ≤ maxLen)
    (hv : w.cell? ⟨B, 0, .none⟩ = some (.string nm)) (hB : B < w.heap.size) :
    Calls Tryd.prog 97 #[.slice a n cap, .func (.func 85) #[] #[.pointer (some ⟨B, 0, .none⟩)]] w (FoundT nm l w) := by
  have HN := Lib.hid hn; have HS := Lib.hid h; have HV := Lib.hid hv; have HB := Lib.hid hB
  unfold maxLen at hm
  clear hn h hv hB
  go_enter Tryd.func97, Tryd.ntmps97
  go_wp2_with fail
  go_loopw [8] (fun q wr => ∃ k : Nat, k ≤ n ∧ q = .int .i64 k ∧ Hid (∀ i x, i < k → l[i]? = some x → tied nm x = false) ∧ Hid (Fr w wr [])) (fun q _ => n - (intOf q).toNat)
  case atStart => exact ⟨0, by omega, rfl, Lib.hid (fun i _ hi => by omega), Lib.hid (Fr.start w)⟩
  case round =>
    obtain ⟨k, hk, rfl, HK, HF⟩ := hrel
    by_cases hlt : k < n
    · obtain ⟨m, hm2⟩ : ∃ m, l[k]? = some m := ⟨_, List.getElem?_eq_getElem (by rw [HN.out]; exact hlt)⟩
      obtain ⟨b, off, rfl, -, x1, x2, x3⟩ := (HF.out.old HS.out).loanA k m hm2
      have hcall := halLeave1 m nm B wr ((HF.out.bel.cell (p := ⟨B, 0, .none⟩) HB.out).trans HV.out) (Nat.lt_of_lt_of_le HB.out HF.out.bel.size)
      have HM2 := Lib.hid hm2
      clear hm2
      have d1 : (0 : Int) ≤ (k : Int) := by omega
      have d2 : (k : Int) < (n : Int) := by omega
      cases ht : tied nm m
      · rw [ht] at hcall
        have HC := Lib.hid hcall
        have HT := Lib.hid ht
        clear hcall ht
        go_wp2_with fail
        refine HC.out.mono ?_; rintro e w2 ⟨rfl, hf2⟩
        go_wp2_with fail
        go_roundw
        case rel => exact ⟨k + 1, by omega, by go_num, Lib.hid (fun i x hi e => by
          by_cases hik : i = k
          · subst hik
            rw [HM2.out] at e; cases e; exact HT.out
          · exact HK.out i x (by omega) e), Lib.hid (HF.out.keep hf2.bel)⟩
        case measure => simp only [intOf]; omega
      · rw [ht] at hcall
        have HC := Lib.hid hcall
        have HY := Lib.hid (anyT_yes HM2.out ht)
        clear hcall ht
        go_wp2_with fail
        refine HC.out.mono ?_; rintro e w2 ⟨rfl, hf2⟩
        go_wp2_with fail
        go_ret
        exact ⟨k, rfl, .inl ⟨by omega, HY.out⟩, HF.out.keep hf2.bel⟩
    · obtain rfl : k = n := by omega
      have HNO := Lib.hid (anyT_no (nm := nm) (l := l) (fun i x hi e => HK.out i x (by rw [HN.out] at hi; exact hi) e))
      go_wp2_with fail
      go_ret
      exact ⟨-1, rfl, .inr ⟨by decide, HNO.out⟩, HF.out⟩
set_option maxRecDepth 100000 in
set_option maxHeartbeats 4000000 in
theorem hasLoan (l : List Loan) (n : Nat) (a : Option Addr) (cap : Nat) (nm : ByteArray) (B : Nat) (w : World) (h : Sa w a (rowsC loanC l)) (hn : l.length = n) (hm : n ≤ maxLen)
    (hv : w.cell? ⟨B, 0, .none⟩ = some (.string nm)) (hB : B < w.heap.size) :
    Calls Tryd.prog 84 #[.slice a n cap, .func (.func 85) #[] #[.pointer (some ⟨B, 0, .none⟩)]] w fun e w' => e = .returned (.bool (anyT nm l)) ∧ Fr w w' [] := by
  have HC := Lib.hid (idxLoan l n a cap nm B w h hn hm hv hB)
  clear h hn hv hB
  go_enter Tryd.func84, Tryd.ntmps84
  go_wp2_with fail
  refine HC.out.mono ?_; rintro e w2 ⟨q, rfl, hq, hf⟩
  have HA : Hid (decide (0 ≤ q) = anyT nm l) := Lib.hid (by
    rcases hq with ⟨hq, ha⟩ | ⟨hq, ha⟩
    · rw [ha]; exact decide_eq_true hq
    · rw [ha]; exact decide_eq_false (by omega))
  have d := HA.out
  have HF := Lib.hid hf
  clear hf hq
  go_wp2_with fail
  go_ret
  exact ⟨rfl, HF.out⟩
end Go.Proofs.YtbolgfiafbhicaaDoor
