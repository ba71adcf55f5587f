/- slices.Equal over strings, whatever they hold; slices.Contains over strings. -/
import Derived.Test.YtfompfaepabpgaaSlEq2
import Derived.Test.YtfompfaepabpgaaHal2
import Derived.Deep.QuietTactic
namespace Go.Proofs.Ytfompfaepabpgaa
open Go.RowKit

def strV (l : List ByteArray) : List Value := l.map Value.string
theorem strV_len (l : List ByteArray) : (strV l).length = l.length := by simp [strV]
theorem Sa.strA {w : World} {a : Option Addr} {l : List ByteArray} (h : Sa w a (strV l)) (i : Nat) (s : ByteArray) (hi : l[i]? = some s) : ∃ b off, a = some ⟨b, off, none⟩ ∧ b < w.heap.size ∧ w.cell? ⟨b, off + i, none⟩ = some (.string s) := by
  have hl : i < l.length := (List.getElem?_eq_some_iff.1 hi).1
  obtain ⟨b, off, e, hb, hc⟩ := h (by rw [strV_len]; omega)
  exact ⟨b, off, e, hb, by rw [hc i (by rw [strV_len]; exact hl)]; unfold strV; rw [List.getElem?_map, hi]; rfl⟩
theorem eqS_of {l m : List ByteArray} {n : Nat} (hl : l.length = n) (hm : m.length = n) (h : ∀ i, i < n → l[i]? = m[i]?) : decide (l = m) = true :=
  decide_eq_true (List.ext_getElem? fun i => by
    rcases Nat.lt_or_ge i n with hi | hi
    · exact h i hi
    · rw [List.getElem?_eq_none (by omega), List.getElem?_eq_none (by omega)])
theorem neS_of {l m : List ByteArray} (i : Nat) (h : l[i]? ≠ m[i]?) : decide (l = m) = false := decide_eq_false (fun e => h (by rw [e]))
theorem neS_len {l m : List ByteArray} (h : l.length ≠ m.length) : decide (l = m) = false := decide_eq_false (fun e => h (by rw [e]))
set_option maxRecDepth 100000 in
set_option maxHeartbeats 4000000 in
theorem slEqS (l m : List ByteArray) (n k : Nat) (a b : Option Addr) (ca cb : Nat) (w : World) (h : Sa w a (strV l)) (h' : Sa w b (strV m)) (hn : l.length = n) (hk : m.length = k) (hl : n ≤ maxLen) (hl' : k ≤ maxLen) :
    Calls Try.prog 19 #[.slice a n ca, .slice b k cb] w (RetB (decide (l = m)) w) := by
  have HN := Lib.hid hn; have HK := Lib.hid hk; have HA := Lib.hid h; have HB := Lib.hid h'
  unfold maxLen at hl hl'
  clear hn hk h h'
  by_cases hnk : n = k
  · subst hnk
    have hne : (((n : Nat) : Int) == ((n : Nat) : Int)) = true := beq_self_eq_true _
    go_enter Try.func19, Try.ntmps19
    go_wp2_with fail
    go_loopw [13] (fun i wr => ∃ j : Nat, j ≤ n ∧ i = .int .i64 j ∧ Hid (∀ t, t < j → l[t]? = m[t]?) ∧ Fr w wr []) (fun i _ => n - (intOf i).toNat)
    case atStart => exact ⟨0, by omega, rfl, Lib.hid (fun t ht => by omega), Fr.start w⟩
    case round =>
      obtain ⟨j, hj, rfl, HE, hfr⟩ := hrel
      by_cases hlt : j < n
      · obtain ⟨x, hx⟩ : ∃ x, l[j]? = some x := ⟨_, List.getElem?_eq_getElem (by rw [HN.out]; exact hlt)⟩
        obtain ⟨y, hy⟩ : ∃ y, m[j]? = some y := ⟨_, List.getElem?_eq_getElem (by rw [HK.out]; exact hlt)⟩
        obtain ⟨b1, o1, rfl, hb1, hc1⟩ := (hfr.old HA.out).strA j x hx
        obtain ⟨b2, o2, rfl, hb2, hc2⟩ := (hfr.old HB.out).strA j y hy
        have d1 : (0 : Int) ≤ (j : Int) := by omega
        have d2 : (j : Int) < (n : Int) := by omega
        have g := str_eq x y
        by_cases he : x = y
        · have HJ := Lib.hid (show l[j]? = m[j]? by rw [hx, hy, he])
          rw [decide_eq_true he] at g
          clear hx hy he
          go_wp2_with fail
          go_quiet (fail)
          go_wp2_with fail
          go_roundw
          case rel =>
            refine ⟨j + 1, by omega, by go_num, Lib.hid fun t ht => ?_, hfr.drewN _⟩
            by_cases e : t = j
            · subst e; exact HJ.out
            · exact HE.out t (by omega)
          case measure => simp [intOf]; omega
        · have HJ := Lib.hid (neS_of (l := l) (m := m) j (by rw [hx, hy]; exact fun e => he (by cases e; rfl)))
          rw [decide_eq_false he] at g
          clear hx hy he
          go_wp2_with fail
          go_quiet (fail)
          go_wp2_with fail
          go_ret
          exact ⟨by rw [HJ.out]; rfl, hfr.drewN _⟩
      · go_wp2_with fail
        go_ret
        exact ⟨by rw [eqS_of HN.out HK.out (fun i hi => HE.out i (by omega))]; rfl, hfr⟩
  · have hne : (((n : Nat) : Int) == ((k : Nat) : Int)) = false := beq_eq_false_iff_ne.2 (by omega)
    have HJ := Lib.hid (neS_len (l := l) (m := m) (by rw [HN.out, HK.out]; exact hnk))
    clear hnk
    go_enter Try.func19, Try.ntmps19
    go_wp2_with fail
    go_ret
    exact ⟨by rw [HJ.out]; rfl, Fr.start w⟩
end Go.Proofs.Ytfompfaepabpgaa
