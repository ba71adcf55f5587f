/- Contracts of blocks.Count and blocks.All: Stirling and Bell numbers. -/
import Derived.Test.YtdcekplmmfenlaaBase
import Derived.Test.YtdcekplmmfenlaaRow
import Derived.Test.YtdcekplmmfenlaaMathSum
import Derived.RegionTactic
namespace Go.Proofs.Ytdcekplmmfenlaa
open Go.RowKit

def stN : Nat → Nat → Nat
  | 0, 0 => 1
  | 0, _ + 1 => 0
  | _ + 1, 0 => 0
  | n + 1, i + 1 => (i + 1) * stN n (i + 1) + stN n i
theorem stN_small : ∀ n, n < 12 → ∀ i, i < 12 → stN n i ≤ 1000000 := by decide +kernel
def belN (n : Nat) : Nat := sumTo (stN n) 11
def stMix (n i : Nat) (j : Nat) : Int := if i < j then (stN (n + 1) j : Nat) else (stN n j : Nat)

theorem stMix_next (n t : Nat) (ht0 : 0 < t) (v : Int) (hv : v = (t * stN n t + stN n (t - 1) : Nat)) (i : Nat) :
    (if i = t then v else stMix n t i) = stMix n (t - 1) i := by
  obtain ⟨s, rfl⟩ : ∃ s, t = s + 1 := ⟨t - 1, by omega⟩
  have e : stN (n + 1) (s + 1) = (s + 1) * stN n (s + 1) + stN n s := rfl
  unfold stMix
  by_cases hi : i = s + 1
  · subst hi
    rw [if_pos rfl, if_pos (by omega), hv, e, show s + 1 - 1 = s from rfl]
  · rw [if_neg hi]
    by_cases h2 : s + 1 < i
    · rw [if_pos h2, if_pos (by omega)]
    · rw [if_neg h2, if_neg (by omega)]
theorem stMix_done (n i : Nat) : (if i = 0 then 0 else stMix n 0 i) = ((stN (n + 1) i : Nat) : Int) := by
  unfold stMix
  split
  · next h => subst h; rfl
  · rw [if_pos (by omega)]

set_option maxHeartbeats 1000000 in
theorem blkCount_nat (n k : Nat) (w : World) (hn : n ≤ 10) (hk : k ≤ 10) :
    Calls Try.prog 36 #[.int .i64 n, .int .i64 k] w fun e w' => e = .returned (.tuple #[.int .i64 (stN n k : Nat), .int .i64 0]) ∧ Below w.heap.size w w' := by
  have h1 : decide ((n : Int) < 0) = false := by simp
  have h2 : decide ((10 : Int) < (n : Int)) = false := by simp; omega
  have h3 : decide ((k : Int) < 0) = false := by simp
  have h4 : decide ((10 : Int) < (k : Int)) = false := by simp; omega
  have hmk := make_ints (k + 1) (by omega)
  rw [show (((k + 1 : Nat) : Int)) = (k : Int) + 1 from rfl] at hmk
  have hR0 := RowAt.new w 3 (k + 1) (fun _ => 0)
  have hc0 := hR0.cell 0 (by omega)
  have hf0 := hR0.thawed 0
  have HR0 := Lib.hid hR0; clear hR0
  go_enter Try.func36, Try.ntmps36
  go_wp2_with fail
  go_loopw [28] (fun m wr => ∃ j : Nat, j ≤ n ∧ m = .int .i64 (j : Int) ∧ RowAt wr w.heap.size 3 (k + 1) (fun i => (stN j i : Nat)) ∧ Below w.heap.size w wr) (fun m _ => 20 - (intOf m).toNat)
  case atStart =>
    refine ⟨0, by omega, rfl, (RowAt.new' w 3 (k + 1) _ _ (rowCells_set _ _ 0 1)).congr ?_, (Below.refl _ _).alloc (Nat.le_refl _) _⟩
    intro i _
    match i with
    | 0 => rfl
    | i + 1 => rfl
  case round =>
    obtain ⟨j, hj, rfl, hrow, hbel⟩ := hrel
    clear hmk hc0 hf0 HR0
    by_cases hlt : j < n
    · have HROW := Lib.hid hrow; have HBEL := Lib.hid hbel; clear hrow hbel
      go_wp2_with fail
      go_loopw [7] (fun i wi => ∃ t : Nat, t ≤ k ∧ i = .int .i64 (t : Int) ∧ RowAt wi w.heap.size 3 (k + 1) (stMix j t) ∧ Below w.heap.size w wi) (fun i _ => (intOf i).toNat)
      case atStart =>
        refine ⟨k, Nat.le_refl _, rfl, HROW.out.congr ?_, HBEL.out⟩
        intro i hi
        unfold stMix
        rw [if_neg (by omega)]
      case round =>
        obtain ⟨t, ht, rfl, hrow, hbel⟩ := hrel
        by_cases ht0 : 0 < t
        · have hc1 := hrow.cell t (by omega)
          have hc2 := hrow.cell (t - 1) (by omega)
          have hf1 := hrow.thawed t
          have HROW := Lib.hid hrow; have HBEL := Lib.hid hbel; clear hrow hbel
          obtain ⟨a, ha⟩ : ∃ a : Nat, a = stN j t := ⟨_, rfl⟩
          obtain ⟨b, hb⟩ : ∃ b : Nat, b = stN j (t - 1) := ⟨_, rfl⟩
          have ea : stMix j t t = (a : Int) := by unfold stMix; rw [if_neg (by omega), ha]
          have eb : stMix j t (t - 1) = (b : Int) := by unfold stMix; rw [if_neg (by omega), hb]
          have ba : a ≤ 1000000 := ha ▸ stN_small j (by omega) t (by omega)
          have bb : b ≤ 1000000 := hb ▸ stN_small j (by omega) (t - 1) (by omega)
          rw [ea] at hc1
          rw [eb] at hc2
          clear ea eb
          have HA := Lib.hid ha; have HB := Lib.hid hb; clear ha hb
          have P1 : (t : Int) * (a : Int) = ((t * a : Nat) : Int) := natMul t a
          have b1 : t * a ≤ 16 * 1000000 := Nat.mul_le_mul (by omega) ba
          generalize hq1 : t * a = q1 at *
          have HQ1 := Lib.hid hq1; clear hq1
          go_wp2_with fail
          go_region
          go_wp2_with fail
          go_roundw
          case rel =>
            refine ⟨t - 1, by omega, val_int (by omega), (HROW.out.set t (q1 + b)).drew.congr (fun i _ => ?_), (HBEL.out.setCell (Nat.le_refl _) _).drew⟩
            exact stMix_next j t ht0 _ (by rw [← HA.out, ← HB.out, HQ1.out]; rfl) i
          case measure => simp [intOf]; omega
        · obtain rfl : t = 0 := by omega
          have hc0 := hrow.cell 0 (by omega)
          have hf0 := hrow.thawed 0
          have HROW := Lib.hid hrow; have HBEL := Lib.hid hbel; clear hrow hbel
          go_wp2_with fail
          go_roundw
          case rel => exact ⟨j + 1, by omega, by go_num, (HROW.out.set 0 0).congr (fun i _ => stMix_done j i), HBEL.out.setCell (Nat.le_refl _) _⟩
          case measure => simp [intOf]; omega
    · obtain rfl : j = n := by omega
      have hcell := hrow.cell k (by omega)
      have HROW := Lib.hid hrow; have HBEL := Lib.hid hbel; clear hrow hbel
      go_wp2_with fail
      go_ret2
      exact ⟨rfl, HBEL.out⟩

set_option maxHeartbeats 400000 in
theorem blkAll_nat (n : Nat) (w : World) (hn : n ≤ 10) :
    Calls Try.prog 33 #[.int .i64 n] w fun e w' => e = .returned (.tuple #[.int .i64 (belN n : Nat), .int .i64 0]) ∧ Below w.heap.size w w' := by
  have S1 : sumTo (stN n) 11 ≤ 11000000 := sumTo_bound (stN n) 1000000 11 (fun i hi => stN_small n (by omega) i (by omega))
  go_enter Try.func33, Try.ntmps33
  go_wp2_with fail
  go_loopw [4, 8] (fun a i wr => ∃ j : Nat, j ≤ 11 ∧ a = .int .i64 ((sumTo (stN n) j : Nat) : Int) ∧ i = .int .i64 j ∧ Below w.heap.size w wr) (fun _ i _ => 11 - (intOf i).toNat)
  case atStart => exact ⟨0, by omega, rfl, rfl, Below.refl _ _⟩
  case round =>
    obtain ⟨j, hj, rfl, rfl, hbel⟩ := hrel
    have HBEL := Lib.hid hbel; clear hbel
    by_cases hlt : j < 11
    · have c1 := sumTo_pair (stN n) hlt S1
      generalize hf : stN n j = f at *
      generalize ha : sumTo (stN n) j = A at *
      have h1 := Lib.hid hf; have h3 := Lib.hid ha
      clear hf ha
      go_wp2_with fail
      refine (blkCount_nat n j _ (by omega) (by omega)).mono ?_; rintro e w' ⟨rfl, hb⟩
      rw [h1.out]
      have HB2 := Lib.hid (kin_trans HBEL.out hb); clear hb
      go_wp2_with fail
      go_roundw
      case rel => exact ⟨j + 1, by omega, val_int (by rw [sumTo_succ, h3.out, h1.out]; rfl), by go_num, HB2.out⟩
      case measure => simp [intOf]; omega
    · obtain rfl : j = 11 := by omega
      go_wp2_with fail
      go_ret2
      exact ⟨rfl, HBEL.out⟩

theorem heaps_any (w : World) : Calls Try.prog 32 #[] w fun e w' => e = .returned (.bool true) ∧ Below w.heap.size w w' := by
  have h1 : stN 4 2 = 7 := by decide
  have h2 : belN 4 = 15 := by decide +kernel
  go_enter Try.func32, Try.ntmps32
  go_wp2_with fail
  refine (blkCount_nat 4 2 _ (by omega) (by omega)).mono ?_; rintro e w' ⟨rfl, hb⟩
  rw [h1]
  have HB := Lib.hid hb; clear hb
  go_wp2_with fail
  refine (blkAll_nat 4 _ (by omega)).mono ?_; rintro e w' ⟨rfl, hb⟩
  rw [h2]
  have HB2 := Lib.hid (kin_trans HB.out hb); clear hb
  go_wp2_with fail
  refine (good2 _ _).mono ?_; rintro e w' ⟨rfl, rfl⟩
  go_wp2_with fail
  go_ret
  exact ⟨rfl, kin_alloc HB2.out _⟩
end Go.Proofs.Ytdcekplmmfenlaa
