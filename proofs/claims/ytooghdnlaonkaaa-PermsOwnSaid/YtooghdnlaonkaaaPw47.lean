/- Several of my texts in one: EqIB. -/
import Derived.Test.YtooghdnlaonkaaaPw15
import Derived.Test.YtooghdnlaonkaaaPw02
/- slices.Equal of ints of any length. -/
namespace Go.Proofs.Ytooghdnlaonkaaa
open Go.RowKit

set_option maxRecDepth 100000 in
set_option maxHeartbeats 4000000 in
/-- two that are the same, of any length -/
theorem slEqIB (l : List Int) (n : Nat) (a b : Option Addr) (ca cb : Nat) (w : World) (h : Sa w a (ints l)) (h' : Sa w b (ints l)) (hn : l.length = n) (hl : n ≤ maxLen) :
    Calls Try.prog 32 #[.slice a n ca, .slice b n cb] w (RetB true w) := by
  have HN := Lib.hid hn; have HA := Lib.hid h; have HB := Lib.hid h'
  unfold maxLen at hl
  clear hn h h'
  have hne : (((n : Nat) : Int) == ((n : Nat) : Int)) = true := beq_self_eq_true _
  go_enter Try.func32, Try.ntmps32
  go_wp2_with fail
  go_loopw [13] (fun i wr => ∃ j : Nat, j ≤ n ∧ i = .int .i64 j ∧ Fr w wr []) (fun i _ => n - (intOf i).toNat)
  case atStart => exact ⟨0, by omega, rfl, Fr.start w⟩
  case round =>
    obtain ⟨j, hj, rfl, hfr⟩ := hrel
    by_cases hlt : j < n
    · obtain ⟨b1, o1, rfl, hb1, hc1⟩ := (hfr.old HA.out).int j (by rw [HN.out]; exact hlt)
      obtain ⟨b2, o2, rfl, hb2, hc2⟩ := (hfr.old HB.out).int j (by rw [HN.out]; exact hlt)
      obtain ⟨x, hx⟩ : ∃ x, nth l j = x := ⟨_, rfl⟩
      rw [hx] at hc1 hc2
      have d1 : (0 : Int) ≤ (j : Int) := by omega
      have d2 : (j : Int) < (n : Int) := by omega
      have g : (x == x) = true := beq_self_eq_true _
      clear hx
      go_wp2_with fail
      go_quiet (fail)
      go_wp2_with fail
      exact ⟨⟨j + 1, by omega, by simp, hfr.drewN _⟩, by simp only [intOf]; omega⟩
    · obtain rfl : j = n := by omega
      go_wp2_with fail
      go_ret
      exact ⟨rfl, hfr⟩
end Go.Proofs.Ytooghdnlaonkaaa
