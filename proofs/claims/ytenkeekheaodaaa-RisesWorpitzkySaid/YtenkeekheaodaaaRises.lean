/- Contract of rises.Count: Eulerian numbers. -/
import Derived.Test.YtenkeekheaodaaaBase
import Derived.Test.YtenkeekheaodaaaRow
import Derived.Test.YtenkeekheaodaaaMathSum
import Derived.RegionTactic
namespace Go.Proofs.Ytenkeekheaodaaa
open Go.RowKit

def eulN : Nat → Nat → Nat
  | 0, 0 => 1
  | 0, _ + 1 => 0
  | m + 1, 0 => eulN m 0
  | m + 1, i + 1 => if i + 1 ≤ m then (i + 2) * eulN m (i + 1) + (m - i) * eulN m i else eulN m (i + 1)
theorem eulN_small : ∀ m, m < 16 → ∀ i, i < 17 → eulN m i ≤ 1307674368000 := by decide +kernel
theorem eulN_big : ∀ m, m < 16 → ∀ i, i < 17 → m ≤ i → eulN m i = if i = 0 then 1 else 0 := by decide +kernel
theorem eulN_0 : ∀ m, eulN m 0 = 1
  | 0 => rfl
  | m + 1 => by rw [eulN, eulN_0 m]
theorem eulN_01 : ∀ k, eulN 1 k = eulN 0 k
  | 0 => rfl
  | k + 1 => by simp [eulN]
/-- the row while m's turn goes down to i -/
def eulMix (m i : Nat) (j : Nat) : Int := if i < j then (eulN m j : Nat) else (eulN (m - 1) j : Nat)

theorem eulMix_next (j t : Nat) (ht0 : 0 < t) (ht : t ≤ j) (v : Int) (hv : v = ((t + 1) * eulN j t + (j + 1 - t) * eulN j (t - 1) : Nat)) (i : Nat) :
    (if i = t then v else eulMix (j + 1) t i) = eulMix (j + 1) (t - 1) i := by
  obtain ⟨s, rfl⟩ : ∃ s, t = s + 1 := ⟨t - 1, by omega⟩
  have e : eulN (j + 1) (s + 1) = (s + 2) * eulN j (s + 1) + (j - s) * eulN j s := by rw [eulN, if_pos ht]
  unfold eulMix
  by_cases hi : i = s + 1
  · subst hi
    rw [if_pos rfl, if_pos (by omega), hv, e, show j + 1 - (s + 1) = j - s from by omega, show s + 1 - 1 = s from rfl, show s + 1 + 1 = s + 2 from rfl]
  · rw [if_neg hi]
    by_cases h2 : s + 1 < i
    · rw [if_pos h2, if_pos (by omega)]
    · rw [if_neg h2, if_neg (by omega)]
theorem eulMix_start (j : Nat) (hj : j ≤ 14) (i : Nat) (hi : i < 16) : ((eulN j i : Nat) : Int) = eulMix (j + 1) j i := by
  unfold eulMix
  split
  · rw [eulN_big (j + 1) (by omega) i (by omega) (by omega), eulN_big j (by omega) i (by omega) (by omega)]
  · rfl
theorem eulMix_done (j : Nat) (i : Nat) : eulMix (j + 1) 0 i = ((eulN (j + 1) i : Nat) : Int) := by
  unfold eulMix
  split
  · rfl
  · rw [show i = 0 from by omega, eulN_0, eulN_0]

set_option maxHeartbeats 1000000 in
theorem risesCount_nat (n k : Nat) (w : World) (hn : n ≤ 15) (hk : k ≤ 15) :
    Calls Try.prog 24 #[.int .i64 n, .int .i64 k] w fun e w' => e = .returned (.tuple #[.int .i64 (eulN n k : Nat), .int .i64 0]) ∧ Below w.heap.size w w' := by
  have h1 : decide ((n : Int) < 0) = false := by simp
  have h2 : decide ((15 : Int) < (n : Int)) = false := by simp; omega
  have h3 : decide ((k : Int) < 0) = false := by simp
  have h4 : decide ((15 : Int) < (k : Int)) = false := by simp; omega
  have hmk : ∀ w : World, Sem.run Try.prog (Instr.makeSlice 37 (.int .i64 16) (.int .i64 16)) w = .ok (.slice (some ⟨w.heap.size, 0, none⟩) 16 16) (w.alloc (.cells (rowCells 16 (fun _ => 0)) 3)) := fun _ => by kernel_rfl
  have hR0 := RowAt.new w 3 16 (fun _ => 0)
  have hc0 := hR0.cell 0 (by omega)
  have hf0 := hR0.thawed 0
  have HR0 := Lib.hid hR0; clear hR0
  go_enter Try.func24, Try.ntmps24
  go_wp2_with fail
  go_loopw [7] (fun m wr => ∃ j : Nat, 1 ≤ j ∧ j ≤ 15 ∧ (j ≤ n ∨ j = 1) ∧ m = .int .i64 ((j + 1 : Nat) : Int) ∧ RowAt wr w.heap.size 3 16 (fun i => (eulN j i : Nat)) ∧ Below w.heap.size w wr) (fun m _ => 20 - (intOf m).toNat)
  case atStart =>
    exact ⟨1, by omega, by omega, .inr rfl, rfl, RowAt.new' w 3 16 _ _ (by rfl), (Below.refl _ _).alloc (Nat.le_refl _) _⟩
  case round =>
    obtain ⟨j, hj1, hj2, hjn, rfl, hrow, hbel⟩ := hrel
    have HJN := Lib.hid hjn; clear hjn
    clear hmk hc0 hf0 HR0
    by_cases hlt : j + 1 ≤ n
    · have HROW := Lib.hid hrow; have HBEL := Lib.hid hbel; clear hrow hbel
      go_wp2_with fail
      go_loopw [8] (fun i wi => ∃ t : Nat, t ≤ j ∧ i = .int .i64 (t : Int) ∧ RowAt wi w.heap.size 3 16 (eulMix (j + 1) t) ∧ Below w.heap.size w wi) (fun i _ => (intOf i).toNat)
      case atStart =>
        refine ⟨j, Nat.le_refl _, by simp; try omega, HROW.out.congr ?_, HBEL.out⟩
        intro i hi
        exact eulMix_start j (by omega) i hi
      case round =>
        obtain ⟨t, ht, rfl, hrow, hbel⟩ := hrel
        by_cases ht0 : 0 < t
        · have hc1 := hrow.cell t (by omega)
          have hc2 := hrow.cell (t - 1) (by omega)
          have hf1 := hrow.thawed t
          have HROW := Lib.hid hrow; have HBEL := Lib.hid hbel; clear hrow hbel
          obtain ⟨a, ha⟩ : ∃ a : Nat, a = eulN j t := ⟨_, rfl⟩
          obtain ⟨b, hb⟩ : ∃ b : Nat, b = eulN j (t - 1) := ⟨_, rfl⟩
          have ea : eulMix (j + 1) t t = (a : Int) := by unfold eulMix; rw [if_neg (by omega), ha]; rfl
          have eb : eulMix (j + 1) t (t - 1) = (b : Int) := by unfold eulMix; rw [if_neg (by omega), hb]; rfl
          have ba : a ≤ 1307674368000 := ha ▸ eulN_small j (by omega) t (by omega)
          have bb : b ≤ 1307674368000 := hb ▸ eulN_small j (by omega) (t - 1) (by omega)
          rw [ea] at hc1
          rw [eb] at hc2
          clear ea eb
          have HA := Lib.hid ha; have HB := Lib.hid hb; clear ha hb
          have P1 : ((t : Int) + 1) * (a : Int) = (((t + 1) * a : Nat) : Int) := natMul (t + 1) a
          have P2 : ((j : Int) + 1 - (t : Int)) * (b : Int) = (((j + 1 - t) * b : Nat) : Int) := by
            rw [← natMul, Int.natCast_sub (by omega)]; rfl
          have b1 : (t + 1) * a ≤ 16 * 1307674368000 := Nat.mul_le_mul (by omega) ba
          have b2 : (j + 1 - t) * b ≤ 16 * 1307674368000 := Nat.mul_le_mul (by omega) bb
          generalize hq1 : (t + 1) * a = q1 at *
          generalize hq2 : (j + 1 - t) * b = q2 at *
          have HQ1 := Lib.hid hq1; have HQ2 := Lib.hid hq2; clear hq1 hq2
          go_wp2_with fail
          go_region
          go_wp2_with fail
          go_roundw
          case rel =>
            refine ⟨t - 1, by omega, val_int (by omega), (HROW.out.set t (q1 + q2)).drew.congr (fun i _ => ?_), (HBEL.out.setCell (Nat.le_refl _) _).drew⟩
            exact eulMix_next j t ht0 ht _ (by rw [← HA.out, ← HB.out, HQ1.out, HQ2.out]; rfl) i
          case measure => simp [intOf]; omega
        · obtain rfl : t = 0 := by omega
          have HROW := Lib.hid hrow; have HBEL := Lib.hid hbel; clear hrow hbel
          go_wp2_with fail
          go_roundw
          case rel => exact ⟨j + 1, by omega, by omega, .inl hlt, by go_num, HROW.out.congr (fun i _ => eulMix_done j i), HBEL.out⟩
          case measure => simp [intOf]; omega
    · have hcell := hrow.cell k (by omega)
      have HROW := Lib.hid hrow; have HBEL := Lib.hid hbel; clear hrow hbel
      go_wp2_with fail
      go_ret2
      refine ⟨ret2_int ?_ rfl, HBEL.out⟩
      have hjn := HJN.out
      by_cases hjn' : j = n
      · rw [hjn']
      · obtain ⟨rfl, rfl⟩ : j = 1 ∧ n = 0 := by omega
        exact congrArg Nat.cast (eulN_01 k)
end Go.Proofs.Ytenkeekheaodaaa
