/- The insertion sort, the heap and the partitions of own slices of uint16: each moves things only. -/
import Derived.Test.YtdabgibmbmhmdaaU16S
namespace Go.Proofs.Ytdabgibmbmhmdaa
open Go.RowKit

set_option maxRecDepth 100000 in
set_option maxHeartbeats 4000000 in
theorem insU {w0 : World} {L : List Ent} {g n cap : Nat} {d : List Int} (w : World) (a b : Nat) (F : Fr w0 w (eU g n cap d :: L)) (hab : a ≤ b) (hb : b ≤ n) (hn : n ≤ 100000) :
    Calls Try.prog 101 #[.slice (some ⟨g, 0, none⟩) n cap, .int .i64 a, .int .i64 b] w fun e w' => e = .returned (.tuple #[]) ∧ SrtU w0 L g n cap d w' := by
  have HF := Lib.hid F
  clear F
  go_enter Try.func101, Try.ntmps101
  go_wp2_with fail
  go_loopw [6] (fun i wr => ∃ (p : Nat) (d' : List Int), i = .int .i64 p ∧ a < p ∧ p ≤ n + 1 ∧ Hid (d'.Perm d) ∧ Hid (Fr w0 wr (eU g n cap d' :: L))) (fun i _ => (n + 1 - intOf i).toNat)
  case atStart => exact ⟨a + 1, d, by go_num, by omega, by omega, Lib.hid (List.Perm.refl _), HF⟩
  case round =>
    obtain ⟨p, d', rfl, h1, h2, HP, HFr⟩ := hrel
    by_cases hlt : p < b
    · go_wp2_with fail
      go_loopw [7] (fun j wq => ∃ (q : Nat) (d2 : List Int), j = .int .i64 q ∧ a ≤ q ∧ q < b ∧ Hid (d2.Perm d) ∧ Hid (Fr w0 wq (eU g n cap d2 :: L))) (fun j _ => (intOf j).toNat)
      case atStart => exact ⟨p, d', rfl, by omega, by omega, HP, HFr⟩
      case round =>
        obtain ⟨q, d2, rfl, k1, k2, HP2, HF2⟩ := hrel
        clear HP HFr
        by_cases hq : a < q
        · obtain ⟨t, rfl⟩ : ∃ t, q = t + 1 := ⟨q - 1, by omega⟩
          have hl := HF2.out.lenU
          obtain ⟨c1, z1⟩ := HF2.out.openU t (by omega)
          obtain ⟨c2, z2⟩ := HF2.out.openU (t + 1) (by omega)
          obtain ⟨x, hx⟩ : ∃ x, nth d2 t = x := ⟨_, rfl⟩
          obtain ⟨y, hy⟩ : ∃ y, nth d2 (t + 1) = y := ⟨_, rfl⟩
          have HX := Lib.hid hx; have HY := Lib.hid hy
          have HP3 := Lib.hid ((swU_perm d2 (t + 1) t (by omega) (by omega)).trans HP2.out)
          rw [hx] at c1
          rw [hy] at c2
          clear hx hy
          have hca : ((t + 1 : Nat) : Int) = (t : Int) + 1 := by omega
          rw [hca]
          clear hca
          have e1 : (t : Int) + 1 - 1 = (t : Int) := by omega
          have d1 : (0 : Int) ≤ (t : Int) := by omega
          have d2' : (t : Int) < (n : Int) := by omega
          have d3 : (0 : Int) ≤ (t : Int) + 1 := by omega
          have d4 : (t : Int) + 1 < (n : Int) := by omega
          have d5 : decide ((a : Int) < (t : Int) + 1) = true := decide_eq_true (by omega)
          obtain ⟨c, hc⟩ : ∃ c, decide (y < x) = c := ⟨_, rfl⟩
          go_wp2_with fail
          go_quiet ((go_at_call 107; exact Calls.quiet_of_same ((lessU _ _ _).mono fun _ _ ⟨a, b⟩ => ⟨a, b.symm⟩)))
          cases c with
          | true =>
            rw [hc]
            go_wp2_with fail
            go_region
            go_wp2_with fail
            go_roundw
            case rel => exact ⟨t, _, by go_num, by omega, by omega, HP3, Lib.hid ((HF2.out.drewN _).swU (t + 1) t y x HY.out HX.out)⟩
            case measure => simp only [intOf]; omega
          | false =>
            rw [hc]
            go_wp2_with fail
            go_roundw
            case rel => exact ⟨p + 1, d2, by go_num, by omega, by omega, HP2, Lib.hid (HF2.out.drewN _)⟩
            case measure => simp only [intOf]; omega
        · have d5 : decide ((a : Int) < (q : Int)) = false := decide_eq_false (by omega)
          go_wp2_with fail
          go_quiet (fail)
          go_wp2_with fail
          go_roundw
          case rel => exact ⟨p + 1, d2, by go_num, by omega, by omega, HP2, Lib.hid (HF2.out.drewN _)⟩
          case measure => simp only [intOf]; omega
    · go_wp2_with fail
      go_end0
      exact ⟨rfl, d', HP.out, HFr.out⟩
end Go.Proofs.Ytdabgibmbmhmdaa
