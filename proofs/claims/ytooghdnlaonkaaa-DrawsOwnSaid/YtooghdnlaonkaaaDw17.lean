/- Several of my texts in one: Hal2, SlEqS. -/
import Derived.Test.YtooghdnlaonkaaaDw16
import Derived.Deep.QuietTactic
import Derived.Test.YtooghdnlaonkaaaDw15
/- Contracts of package hall: find. -/
namespace Go.Proofs.Ytooghdnlaonkaaa
open Go.RowKit

theorem Sa.memA {w : World} {a : Option Addr} {l : List Mem} (h : Sa w a (rowsC memC l)) (i : Nat) (m : Mem) (hi : l[i]? = some m) : ∃ b off, a = some ⟨b, off, none⟩ ∧ b < w.heap.size ∧
    w.cell? ⟨b, off + i * 3, none⟩ = some (.string m.nm) ∧ w.cell? ⟨b, off + i * 3 + 1, none⟩ = some (.int .i64 m.tk) ∧ w.cell? ⟨b, off + i * 3 + 2, none⟩ = some (.int .i64 m.wn) := by
  have hl : i < l.length := (List.getElem?_eq_some_iff.1 hi).1
  have hlen := rowsC_len memC_len l
  obtain ⟨b, off, e, hb, hc⟩ := h (by rw [hlen]; omega)
  have key : ∀ j, j < 3 → w.cell? ⟨b, off + i * 3 + j, none⟩ = (memC m)[j]? := fun j hj => by
    rw [Nat.add_assoc, hc (i * 3 + j) (by rw [hlen]; omega), rowsC_get memC_len l i j m hi hj]
  exact ⟨b, off, e, hb, key 0 (by omega), key 1 (by omega), key 2 (by omega)⟩
theorem findM_not (nm : ByteArray) : ∀ (l : List Mem) (k : Nat), k ≤ findM nm l → ∀ i m, i < k → l[i]? = some m → m.nm ≠ nm
  | [], k, h, i, m, hi, e => by simp at e
  | x :: l, k, h, i, m, hi, e => by
    rw [findM] at h
    split at h
    · omega
    · next hx =>
      cases i with
      | zero => have : x = m := by simpa using e
                rw [← this]; exact hx
      | succ i => exact findM_not nm l (k - 1) (by omega) i m (by omega) (by simpa using e)
theorem findM_at (nm : ByteArray) : ∀ (l : List Mem) (i : Nat) (m : Mem), l[i]? = some m → m.nm = nm → i ≤ findM nm l → findM nm l = i
  | [], i, m, e, _, _ => by simp at e
  | x :: l, i, m, e, h, hi => by
    rw [findM] at hi ⊢
    cases i with
    | zero =>
      have : x = m := by simpa using e
      rw [this, if_pos h]
    | succ i =>
      split
      · next hx => rw [if_pos hx] at hi; omega
      · next hx =>
        rw [if_neg hx] at hi
        rw [findM_at nm l i m (by simpa using e) h (by omega)]
theorem findM_step (nm : ByteArray) : ∀ (l : List Mem) (i : Nat) (m : Mem), l[i]? = some m → m.nm ≠ nm → i ≤ findM nm l → i + 1 ≤ findM nm l
  | [], i, m, e, _, _ => by simp at e
  | x :: l, i, m, e, h, hi => by
    rw [findM] at hi ⊢
    cases i with
    | zero =>
      have : x = m := by simpa using e
      rw [this, if_neg h]; omega
    | succ i =>
      split
      · next hx => rw [if_pos hx] at hi; omega
      · next hx =>
        rw [if_neg hx] at hi
        have := findM_step nm l i m (by simpa using e) h (by omega)
        omega
theorem str_eq (a b : ByteArray) : (a.toList == b.toList) = decide (a = b) := by
  rw [ByteArray.toList_eq, ByteArray.toList_eq]
  by_cases h : a = b
  · subst h; simp
  · rw [decide_eq_false h, beq_eq_false_iff_ne]
    intro e
    apply h
    cases a with
    | mk x => cases b with
      | mk y =>
        have : x = y := Array.toList_inj.1 e
        rw [this]
set_option maxRecDepth 100000 in
set_option maxHeartbeats 4000000 in
theorem halFind1 (x : ByteArray) (t v : Int) (nm : ByteArray) (B : Nat) (w : World) (hv : w.cell? ⟨B, 0, .none⟩ = some (.string nm)) (hB : B < w.heap.size) :
    Calls Try.prog 142 #[.agg #[.string x, .int .i64 t, .int .i64 v], .pointer (some ⟨B, 0, .none⟩)] w fun e w' => e = .returned (.bool (decide (x = nm))) ∧ Fr w w' [] := by
  have hv' : (w.alloc (.cells #[.string x, .int .i64 t, .int .i64 v] 107)).cell? ⟨B, 0, .none⟩ = some (.string nm) := ((Fr.start w).alloc (.cells #[.string x, .int .i64 t, .int .i64 v] 107)).bel.cell (p := ⟨B, 0, .none⟩) hB |>.trans hv
  have HF := Lib.hid ((Fr.start w).alloc (.cells #[.string x, .int .i64 t, .int .i64 v] 107))
  have g := str_eq x nm
  go_enter Try.func142, Try.ntmps142
  go_wp2_with fail
  go_ret
  exact ⟨rfl, HF.out⟩
theorem findM_end (nm : ByteArray) (l : List Mem) (h : l.length ≤ findM nm l) : findM nm l = l.length := Nat.le_antisymm (findM_le nm l) h
def fiV (nm : ByteArray) (l : List Mem) : Int := if findM nm l < l.length then (findM nm l : Nat) else -1
set_option maxRecDepth 100000 in
set_option maxHeartbeats 4000000 in
theorem idxMem (l : List Mem) (n : Nat) (a : Option Addr) (cap : Nat) (nm : ByteArray) (B : Nat) (w : World) (h : Sa w a (rowsC memC l)) (hn : l.length = n) (hm : n ≤ 1000)
    (hv : w.cell? ⟨B, 0, .none⟩ = some (.string nm)) (hB : B < w.heap.size) :
    Calls Try.prog 141 #[.slice a n cap, .func (.func 142) #[] #[.pointer (some ⟨B, 0, .none⟩)]] w fun e w' => e = .returned (.int .i64 (fiV nm l)) ∧ Fr w w' [] := by
  have HN := Lib.hid hn; have HS := Lib.hid h; have HV := Lib.hid hv; have HB := Lib.hid hB
  clear hn h hv hB
  go_enter Try.func141, Try.ntmps141
  go_wp2_with fail
  go_loopw [8] (fun q wr => ∃ k : Nat, k ≤ n ∧ q = .int .i64 k ∧ Hid (k ≤ findM nm l) ∧ Hid (Fr w wr [])) (fun q _ => n - (intOf q).toNat)
  case atStart => exact ⟨0, by omega, rfl, Lib.hid (Nat.zero_le _), Lib.hid (Fr.start w)⟩
  case round =>
    obtain ⟨k, hk, rfl, HK, HF⟩ := hrel
    by_cases hlt : k < n
    · obtain ⟨m, hm2⟩ : ∃ m, l[k]? = some m := ⟨_, List.getElem?_eq_getElem (by rw [HN.out]; exact hlt)⟩
      obtain ⟨b, off, rfl, -, x1, x2, x3⟩ := (HF.out.old HS.out).memA k m hm2
      have hcall := halFind1 m.nm m.tk m.wn nm B wr ((HF.out.bel.cell (p := ⟨B, 0, .none⟩) HB.out).trans HV.out) (Nat.lt_of_lt_of_le HB.out HF.out.bel.size)
      have HM2 := Lib.hid hm2
      clear hm2
      have d1 : (0 : Int) ≤ (k : Int) := by omega
      have d2 : (k : Int) < (n : Int) := by omega
      by_cases hki : m.nm = nm
      · have HI := Lib.hid (findM_at nm l k m HM2.out hki HK.out)
        rw [decide_eq_true hki] at hcall
        have HC := Lib.hid hcall
        clear hcall hki
        go_wp2_with fail
        refine HC.out.mono ?_; rintro e w2 ⟨rfl, hf2⟩
        go_wp2_with fail
        go_ret
        exact ⟨by unfold fiV; rw [HI.out, if_pos (by rw [HN.out]; exact hlt)]; rfl, HF.out.keep hf2.bel⟩
      · have HI := Lib.hid (findM_step nm l k m HM2.out hki HK.out)
        rw [decide_eq_false hki] at hcall
        have HC := Lib.hid hcall
        clear hcall hki
        go_wp2_with fail
        refine HC.out.mono ?_; rintro e w2 ⟨rfl, hf2⟩
        go_wp2_with fail
        go_roundw
        case rel => exact ⟨k + 1, by omega, by go_num, HI, Lib.hid (HF.out.keep hf2.bel)⟩
        case measure => simp only [intOf]; omega
    · obtain rfl : k = n := by omega
      go_wp2_with fail
      go_ret
      exact ⟨by unfold fiV; rw [findM_end nm l (by rw [HN.out]; exact HK.out), if_neg (Nat.lt_irrefl _)]; rfl, HF.out⟩
set_option maxRecDepth 100000 in
set_option maxHeartbeats 4000000 in
theorem halFind (l : List Mem) (n : Nat) (a : Option Addr) (cap : Nat) (nm : ByteArray) (H : Nat) (w : World) (h : Sa w a (rowsC memC l)) (hn : l.length = n) (hm : n ≤ 1000) (hc : w.cell? ⟨H, 0, .none⟩ = some (.slice a n cap)) (hH : H < w.heap.size) :
    Calls Try.prog 117 #[.pointer (some ⟨H, 0, .none⟩), .string nm] w fun e w' => e = .returned (.int .i64 (fiV nm l)) ∧ Fr w w' [] := by
  have HF := Lib.hid ((Fr.start w).new 9 #[.string nm] [.string nm] rfl 1 rfl (by omega))
  have c0 : (w.alloc (.cells #[.string nm] 9)).cell? ⟨H, 0, .none⟩ = some (.slice a n cap) := (HF.out.bel.cell (p := ⟨H, 0, .none⟩) hH).trans hc
  have HCL := Lib.hid (idxMem l n a cap nm w.heap.size (w.alloc (.cells #[.string nm] 9)) (HF.out.old h) hn hm (by have := cell_new w #[.string nm] 9 0; rw [Nat.zero_add] at this; rw [this]; rfl) (by simp))
  clear h hn hc hH
  go_enter Try.func117, Try.ntmps117
  go_wp2_with fail
  refine HCL.out.mono ?_; rintro e w2 ⟨rfl, hf2⟩
  go_wp2_with fail
  go_ret
  exact ⟨rfl, (HF.out.keep hf2.bel).below⟩
end Go.Proofs.Ytooghdnlaonkaaa
/- slices.Equal over strings, whatever they hold; slices.Contains over strings. -/
namespace Go.Proofs.Ytooghdnlaonkaaa
open Go.RowKit

def strV (l : List ByteArray) : List Value := l.map Value.string
theorem strV_len (l : List ByteArray) : (strV l).length = l.length := by simp [strV]
theorem Sa.strA {w : World} {a : Option Addr} {l : List ByteArray} (h : Sa w a (strV l)) (i : Nat) (s : ByteArray) (hi : l[i]? = some s) : ∃ b off, a = some ⟨b, off, none⟩ ∧ b < w.heap.size ∧ w.cell? ⟨b, off + i, none⟩ = some (.string s) := by
  have hl : i < l.length := (List.getElem?_eq_some_iff.1 hi).1
  obtain ⟨b, off, e, hb, hc⟩ := h (by rw [strV_len]; omega)
  exact ⟨b, off, e, hb, by rw [hc i (by rw [strV_len]; exact hl)]; unfold strV; rw [List.getElem?_map, hi]; rfl⟩
theorem eqS_of {l m : List ByteArray} {n : Nat} (hl : l.length = n) (hm : m.length = n) (h : ∀ i, i < n → l[i]? = m[i]?) : decide (l = m) = true :=
  decide_eq_true (List.ext_getElem? fun i => by
    rcases Nat.lt_or_ge i n with hi | hi
    · exact h i hi
    · rw [List.getElem?_eq_none (by omega), List.getElem?_eq_none (by omega)])
theorem neS_of {l m : List ByteArray} (i : Nat) (h : l[i]? ≠ m[i]?) : decide (l = m) = false := decide_eq_false (fun e => h (by rw [e]))
theorem neS_len {l m : List ByteArray} (h : l.length ≠ m.length) : decide (l = m) = false := decide_eq_false (fun e => h (by rw [e]))
set_option maxRecDepth 100000 in
set_option maxHeartbeats 4000000 in
theorem slEqS (l m : List ByteArray) (n k : Nat) (a b : Option Addr) (ca cb : Nat) (w : World) (h : Sa w a (strV l)) (h' : Sa w b (strV m)) (hn : l.length = n) (hk : m.length = k) (hl : n ≤ maxLen) (hl' : k ≤ maxLen) :
    Calls Try.prog 20 #[.slice a n ca, .slice b k cb] w (RetB (decide (l = m)) w) := by
  have HN := Lib.hid hn; have HK := Lib.hid hk; have HA := Lib.hid h; have HB := Lib.hid h'
  unfold maxLen at hl hl'
  clear hn hk h h'
  by_cases hnk : n = k
  · subst hnk
    have hne : (((n : Nat) : Int) == ((n : Nat) : Int)) = true := beq_self_eq_true _
    go_enter Try.func20, Try.ntmps20
    go_wp2_with fail
    go_loopw [13] (fun i wr => ∃ j : Nat, j ≤ n ∧ i = .int .i64 j ∧ Hid (∀ t, t < j → l[t]? = m[t]?) ∧ Fr w wr []) (fun i _ => n - (intOf i).toNat)
    case atStart => exact ⟨0, by omega, rfl, Lib.hid (fun t ht => by omega), Fr.start w⟩
    case round =>
      obtain ⟨j, hj, rfl, HE, hfr⟩ := hrel
      by_cases hlt : j < n
      · obtain ⟨x, hx⟩ : ∃ x, l[j]? = some x := ⟨_, List.getElem?_eq_getElem (by rw [HN.out]; exact hlt)⟩
        obtain ⟨y, hy⟩ : ∃ y, m[j]? = some y := ⟨_, List.getElem?_eq_getElem (by rw [HK.out]; exact hlt)⟩
        obtain ⟨b1, o1, rfl, hb1, hc1⟩ := (hfr.old HA.out).strA j x hx
        obtain ⟨b2, o2, rfl, hb2, hc2⟩ := (hfr.old HB.out).strA j y hy
        have d1 : (0 : Int) ≤ (j : Int) := by omega
        have d2 : (j : Int) < (n : Int) := by omega
        have g := str_eq x y
        by_cases he : x = y
        · have HJ := Lib.hid (show l[j]? = m[j]? by rw [hx, hy, he])
          rw [decide_eq_true he] at g
          clear hx hy he
          go_wp2_with fail
          go_quiet (fail)
          go_wp2_with fail
          go_roundw
          case rel =>
            refine ⟨j + 1, by omega, by go_num, Lib.hid fun t ht => ?_, hfr.drewN _⟩
            by_cases e : t = j
            · subst e; exact HJ.out
            · exact HE.out t (by omega)
          case measure => simp [intOf]; omega
        · have HJ := Lib.hid (neS_of (l := l) (m := m) j (by rw [hx, hy]; exact fun e => he (by cases e; rfl)))
          rw [decide_eq_false he] at g
          clear hx hy he
          go_wp2_with fail
          go_quiet (fail)
          go_wp2_with fail
          go_ret
          exact ⟨by rw [HJ.out]; rfl, hfr.drewN _⟩
      · go_wp2_with fail
        go_ret
        exact ⟨by rw [eqS_of HN.out HK.out (fun i hi => HE.out i (by omega))]; rfl, hfr⟩
  · have hne : (((n : Nat) : Int) == ((k : Nat) : Int)) = false := beq_eq_false_iff_ne.2 (by omega)
    have HJ := Lib.hid (neS_len (l := l) (m := m) (by rw [HN.out, HK.out]; exact hnk))
    clear hnk
    go_enter Try.func20, Try.ntmps20
    go_wp2_with fail
    go_ret
    exact ⟨by rw [HJ.out]; rfl, Fr.start w⟩
end Go.Proofs.Ytooghdnlaonkaaa
