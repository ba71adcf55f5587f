/- Contract of nests.Ahead: ballot numbers. -/
import Derived.Test.YtdcekplmmfenlaaBase
import Derived.Test.YtdcekplmmfenlaaRow2
namespace Go.Proofs.Ytdcekplmmfenlaa
open Go.RowKit

def ahStep (prev : Nat → Nat) (i : Nat) : Nat → Nat
  | 0 => if i = 0 then 1 else prev 0
  | k + 1 => if i ≤ k then 0 else prev (k + 1) + ahStep prev i k
def ahN : Nat → Nat → Nat
  | 0 => fun _ => 0
  | i + 1 => ahStep (ahN i) i
theorem ahN_0 (k : Nat) : ahN 0 k = 0 := rfl
theorem ahN_z (i : Nat) : ahN (i + 1) 0 = if i = 0 then 1 else ahN i 0 := rfl
theorem ahN_s (i k : Nat) : ahN (i + 1) (k + 1) = if i ≤ k then 0 else ahN i (k + 1) + ahN (i + 1) k := rfl
theorem ahN_le : ∀ i k, ahN i k ≤ 2 ^ (i + k)
  | 0, k => by simp [ahN_0]
  | i + 1, 0 => by
    have := ahN_le i 0
    have h1 : 1 ≤ 2 ^ (i + 1 + 0) := Nat.one_le_two_pow
    have h2 : 2 ^ (i + 1 + 0) = 2 ^ (i + 0) * 2 := by rw [show i + 1 + 0 = (i + 0) + 1 from by omega, Nat.pow_succ]; rfl
    rw [ahN_z]
    generalize 2 ^ (i + 1 + 0) = u at *
    generalize 2 ^ (i + 0) = v at *
    split <;> omega
  | i + 1, k + 1 => by
    have h1 := ahN_le i (k + 1)
    have h2 := ahN_le (i + 1) k
    have e : 2 ^ (i + 1 + (k + 1)) = 2 ^ (i + (k + 1)) + 2 ^ (i + 1 + k) := by
      rw [show i + 1 + (k + 1) = (i + (k + 1)) + 1 from by omega, Nat.pow_succ, show i + 1 + k = i + (k + 1) from by omega]; omega
    rw [ahN_s]; split <;> omega
theorem ahN_small (i k : Nat) (hi : i ≤ 15) (hk : k ≤ 15) : ahN i k ≤ 1073741824 :=
  Nat.le_trans (ahN_le i k) (Nat.pow_le_pow_right (n := 2) (by omega) (show i + k ≤ 30 by omega))
def ahMix (i t j : Nat) : Int := if j < t then (ahN (i + 1) j : Nat) else (ahN i j : Nat)
theorem ahMix_set (i t j : Nat) (v : Int) (hv : v = (ahN (i + 1) t : Nat)) : (if j = t then v else ahMix i t j) = ahMix i (t + 1) j := by
  unfold ahMix
  by_cases h : j = t
  · subst h; rw [if_pos rfl, if_pos (by omega), hv]
  · rw [if_neg h]
    by_cases h2 : j < t
    · rw [if_pos h2, if_pos (by omega)]
    · rw [if_neg h2, if_neg (by omega)]

set_option maxHeartbeats 2000000 in
theorem ahead_nat (a b : Nat) (w : World) (ha : a ≤ 15) (hb : b ≤ 15) :
    Calls Try.prog 19 #[.int .i64 a, .int .i64 b] w fun e w' => e = .returned (.tuple #[.int .i64 (ahN a b : Nat), .int .i64 0]) ∧ Below w.heap.size w w' := by
  have h1 : decide ((a : Int) < 0) = false := by simp
  have h2 : decide ((15 : Int) < (a : Int)) = false := by simp; omega
  have h3 : decide ((b : Int) < 0) = false := by simp
  have h4 : decide ((15 : Int) < (b : Int)) = false := by simp; omega
  have hmk := make_ints (b + 1) (by omega)
  rw [show (((b + 1 : Nat) : Int)) = (b : Int) + 1 from rfl] at hmk
  have HR0 := Lib.hid (RowAt.new w 3 (b + 1) (fun _ => 0))
  go_enter Try.func19, Try.ntmps19
  go_wp2_with fail
  go_loopw [7] (fun m wr => ∃ i : Nat, i ≤ a ∧ m = .int .i64 ((i + 1 : Nat) : Int) ∧ RowAt wr w.heap.size 3 (b + 1) (fun j => (ahN i j : Nat)) ∧ Below w.heap.size w wr) (fun m _ => 20 - (intOf m).toNat)
  case atStart => exact ⟨0, by omega, rfl, HR0.out.congr (fun j _ => by simp [ahN_0]), kin_alloc (Below.refl _ _) _⟩
  case round =>
    obtain ⟨i, hi, rfl, hrow, hbel⟩ := hrel
    clear hmk HR0
    by_cases hlt : i < a
    · have HROW := Lib.hid hrow; have HBEL := Lib.hid hbel; clear hrow hbel
      rw [show ((i + 1 : Nat) : Int) = (i : Int) + 1 from rfl]
      go_wp2_with fail
      go_loopw [34] (fun k wi => ∃ t : Nat, t ≤ b + 1 ∧ k = .int .i64 (t : Int) ∧ RowAt wi w.heap.size 3 (b + 1) (ahMix i t) ∧ Below w.heap.size w wi) (fun k _ => b + 1 - (intOf k).toNat)
      case atStart => exact ⟨0, by omega, rfl, HROW.out.congr (fun j _ => by unfold ahMix; rw [if_neg (by omega)]), HBEL.out⟩
      case round =>
        obtain ⟨t, ht, rfl, hrow, hbel⟩ := hrel
        by_cases htb : t < b + 1
        · have hc1 := hrow.cell t htb
          have hf := hrow.thawed t
          have bx := ahN_small i t (by omega) (by omega)
          have e1 : ahMix i t t = ((ahN i t : Nat) : Int) := by unfold ahMix; rw [if_neg (by omega)]
          rw [e1] at hc1
          clear e1
          cases t with
          | zero =>
            have HROW := Lib.hid hrow; have HBEL := Lib.hid hbel; clear hrow hbel
            by_cases hi0 : i = 0
            · subst hi0
              go_wp2_with fail
              go_roundw
              case rel => exact ⟨1, by omega, rfl, (HROW.out.set 0 1).congr (fun j _ => ahMix_set 0 0 j 1 (by simp [ahN_z])), HBEL.out.setCell (Nat.le_refl _) _⟩
              case measure => simp [intOf] <;> omega
            · have g1 : (((i : Int) + 1) == 1) = false := by rw [beq_eq_false_iff_ne]; omega
              have hv : ahN (i + 1) 0 = ahN i 0 := by rw [ahN_z, if_neg hi0]
              have HV := Lib.hid hv; clear hv hi0
              go_wp2_with fail
              go_roundw
              case rel => exact ⟨1, by omega, rfl, (HROW.out.set 0 _).congr (fun j _ => ahMix_set i 0 j _ (by rw [HV.out])), HBEL.out.setCell (Nat.le_refl _) _⟩
              case measure => simp [intOf] <;> omega
          | succ t =>
            have hc2 := hrow.cell t (by omega)
            have by' := ahN_small (i + 1) t (by omega) (by omega)
            have e2 : ahMix i (t + 1) t = ((ahN (i + 1) t : Nat) : Int) := by unfold ahMix; rw [if_pos (by omega)]
            rw [e2] at hc2
            clear e2
            have HROW := Lib.hid hrow; have HBEL := Lib.hid hbel; clear hrow hbel
            have g2 : (((t : Int) + 1) == 0) = false := by rw [beq_eq_false_iff_ne]; omega
            by_cases hit : i ≤ t
            · have hv : ahN (i + 1) (t + 1) = 0 := by rw [ahN_s, if_pos hit]
              have HV := Lib.hid hv; clear hv
              by_cases hi0 : i = 0
              · subst hi0
                go_wp2_with fail
                go_roundw
                case rel => exact ⟨t + 1 + 1, by omega, by go_num, (HROW.out.set (t + 1) _).congr (fun j _ => ahMix_set 0 (t + 1) j _ (by rw [HV.out]; rfl)), HBEL.out.setCell (Nat.le_refl _) _⟩
                case measure => simp [intOf] <;> omega
              · have g1 : (((i : Int) + 1) == 1) = false := by rw [beq_eq_false_iff_ne]; omega
                clear hi0
                go_wp2_with fail
                go_roundw
                case rel => exact ⟨t + 1 + 1, by omega, by go_num, (HROW.out.set (t + 1) _).congr (fun j _ => ahMix_set i (t + 1) j _ (by rw [HV.out]; rfl)), HBEL.out.setCell (Nat.le_refl _) _⟩
                case measure => simp [intOf] <;> omega
            · have hv : ahN (i + 1) (t + 1) = ahN i (t + 1) + ahN (i + 1) t := by rw [ahN_s, if_neg hit]
              have HV := Lib.hid hv; clear hv
              have g1 : (((i : Int) + 1) == 1) = false := by rw [beq_eq_false_iff_ne]; omega
              go_wp2_with fail
              go_roundw
              case rel => exact ⟨t + 1 + 1, by omega, by go_num, (HROW.out.set (t + 1) _).congr (fun j _ => ahMix_set i (t + 1) j _ (by rw [HV.out]; rfl)), HBEL.out.setCell (Nat.le_refl _) _⟩
              case measure => simp [intOf] <;> omega
        · obtain rfl : t = b + 1 := by omega
          have HROW := Lib.hid hrow; have HBEL := Lib.hid hbel; clear hrow hbel
          go_wp2_with fail
          go_roundw
          case rel => exact ⟨i + 1, by omega, by go_num, HROW.out.congr (fun j hj => by unfold ahMix; rw [if_pos hj]), HBEL.out⟩
          case measure => simp [intOf]; omega
    · obtain rfl : i = a := by omega
      have hcell := hrow.cell b (by omega)
      have HROW := Lib.hid hrow; have HBEL := Lib.hid hbel; clear hrow hbel
      go_wp2_with fail
      go_ret2
      exact ⟨rfl, HBEL.out⟩
end Go.Proofs.Ytdcekplmmfenlaa
