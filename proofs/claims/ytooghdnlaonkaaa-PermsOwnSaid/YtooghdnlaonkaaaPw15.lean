/- Several of my texts in one: SlEq2. -/
import Derived.Test.YtooghdnlaonkaaaPw02
/- slices.Equal over ints, whatever they hold. -/
namespace Go.Proofs.Ytooghdnlaonkaaa
open Go.RowKit

def RetB (b : Bool) (w : World) (e : Ending) (w' : World) : Prop := e = .returned (.bool b) ∧ Fr w w' []
theorem eq_of_take {l m : List Int} {n : Nat} (hl : l.length = n) (hm : m.length = n) (h : ∀ i, i < n → nth l i = nth m i) : decide (l = m) = true :=
  decide_eq_true (ext_nth (by omega) (fun i hi => h i (by omega)))
theorem ne_of_nth {l m : List Int} (i : Nat) (h : nth l i ≠ nth m i) : decide (l = m) = false := decide_eq_false (fun e => h (by rw [e]))
theorem ne_of_len {l m : List Int} (h : l.length ≠ m.length) : decide (l = m) = false := decide_eq_false (fun e => h (by rw [e]))

set_option maxHeartbeats 1000000 in
theorem slEqual (l m : List Int) (n k : Nat) (a b : Option Addr) (ca cb : Nat) (w : World) (h : Sa w a (ints l)) (h' : Sa w b (ints m)) (hn : l.length = n) (hk : m.length = k) (hl : n ≤ 1000000) (hl' : k ≤ 1000000) :
    Calls Try.prog 32 #[.slice a n ca, .slice b k cb] w (RetB (decide (l = m)) w) := by
  have HN := Lib.hid hn; have HK := Lib.hid hk; have HA := Lib.hid h; have HB := Lib.hid h'
  clear hn hk h h'
  by_cases hnk : n = k
  · subst hnk
    have hne : (((n : Nat) : Int) == ((n : Nat) : Int)) = true := beq_self_eq_true _
    go_enter Try.func32, Try.ntmps32
    go_wp2_with fail
    go_loopw [13] (fun i wr => ∃ j : Nat, j ≤ n ∧ i = .int .i64 j ∧ Hid (∀ t, t < j → nth l t = nth m t) ∧ Fr w wr []) (fun i _ => n - (intOf i).toNat)
    case atStart => exact ⟨0, by omega, rfl, Lib.hid (fun t ht => by omega), Fr.start w⟩
    case round =>
      obtain ⟨j, hj, rfl, HE, hfr⟩ := hrel
      by_cases hlt : j < n
      · obtain ⟨b1, o1, rfl, hb1, hc1⟩ := (hfr.old HA.out).int j (by rw [HN.out]; exact hlt)
        obtain ⟨b2, o2, rfl, hb2, hc2⟩ := (hfr.old HB.out).int j (by rw [HK.out]; exact hlt)
        by_cases he : nth l j = nth m j
        · have HJ := Lib.hid he
          obtain ⟨x, hx⟩ : ∃ x, nth l j = x := ⟨_, rfl⟩
          rw [← he, hx] at hc2
          rw [hx] at hc1
          clear he hx
          have hfe : (x == x) = true := beq_self_eq_true _
          go_wp2_with fail
          go_quiet (fail)
          go_wp2_with fail
          go_roundw
          case rel =>
            refine ⟨j + 1, by omega, by go_num, Lib.hid fun t ht => ?_, hfr.drewN _⟩
            by_cases e : t = j
            · subst e; exact HJ.out
            · exact HE.out t (by omega)
          case measure => simp [intOf]; omega
        · have HJ := Lib.hid (ne_of_nth j he)
          obtain ⟨x, hx⟩ : ∃ x, nth l j = x := ⟨_, rfl⟩
          obtain ⟨y, hy⟩ : ∃ y, nth m j = y := ⟨_, rfl⟩
          rw [hx] at hc1 he
          rw [hy] at hc2 he
          have hfe : (x == y) = false := beq_eq_false_iff_ne.2 he
          clear he hx hy
          go_wp2_with fail
          go_quiet (fail)
          go_wp2_with fail
          go_ret
          exact ⟨by rw [HJ.out]; rfl, hfr.drewN _⟩
      · go_wp2_with fail
        go_ret
        exact ⟨by rw [eq_of_take HN.out HK.out (fun i hi => HE.out i (by omega))]; rfl, hfr⟩
  · have hne : (((n : Nat) : Int) == ((k : Nat) : Int)) = false := beq_eq_false_iff_ne.2 (by omega)
    have HJ := Lib.hid (ne_of_len (l := l) (m := m) (by rw [HN.out, HK.out]; exact hnk))
    clear hnk
    go_enter Try.func32, Try.ntmps32
    go_wp2_with fail
    go_ret
    exact ⟨by rw [HJ.out]; rfl, Fr.start w⟩
end Go.Proofs.Ytooghdnlaonkaaa
