/- partialInsertionSort of own slices of uint16 (printed by genu16i.py). -/
import Derived.Test.YtdabgibmbmhmdaaU16S
import Derived.Deep.CutRange
namespace Go.Proofs.Ytdabgibmbmhmdaa
open Go.RowKit

set_option maxRecDepth 100000 in
set_option maxHeartbeats 16000000 in
theorem pinsU {w0 : World} {L : List Ent} {g n cap : Nat} {d : List Int} (w : World) (a b : Nat) (F : Fr w0 w (eU g n cap d :: L)) (hab : a < b) (hb : b ≤ n) (hn : n ≤ 100000) :
    Calls Try.prog 106 #[.slice (some ⟨g, 0, none⟩) n cap, .int .i64 a, .int .i64 b] w fun e w' => (∃ c : Bool, e = .returned (.bool c)) ∧ SrtU w0 L g n cap d w' := by
  have HF := Lib.hid F
  have HP := Lib.hid (List.Perm.refl d)
  clear F
  go_enter Try.func106, Try.ntmps106
  go_wp2_with fail
  go_loopw [7, 8] (fun i j wr => ∃ (t j' : Nat) (D : List Int), i = .int .i64 ((t : Int) + 1) ∧ j = .int .i64 j' ∧ a ≤ t ∧ t + 1 ≤ b ∧ j' ≤ 5 ∧ Hid (D.Perm d) ∧ Hid (Fr w0 wr (eU g n cap D :: L))) (fun _ j _ => (6 - intOf j).toNat)
  case atStart => exact ⟨a, 0, d, rfl, rfl, by omega, by omega, by omega, HP, HF⟩
  case round =>
    obtain ⟨t0, j, D, rfl, rfl, k1, k2, k3, HPD, HFD⟩ := hrel
    clear HP HF
    by_cases hj : j < 5
    · go_wp2_with fail
      go_loopw [7] (fun i wr => ∃ (t : Nat), i = .int .i64 ((t : Int) + 1) ∧ a ≤ t ∧ t + 1 ≤ b ∧ Hid (Fr w0 wr (eU g n cap D :: L))) (fun i _ => (n + 1 - intOf i).toNat)
      case atStart => exact ⟨t0, rfl, k1, k2, HFD⟩
      case round =>
        obtain ⟨t, rfl, m1, m2, HF2⟩ := hrel
        clear HFD
        go_upto_region 5 with (fail)
        go_cut [32] from 17 to 34 (fun s wc => ∃ C : Bool, s = .bool C ∧ Hid (C = true → t + 1 < b) ∧ Hid (Fr w0 wc (eU g n cap D :: L)))
        case first =>
          by_cases hcond : t + 1 < b
          · have d5 : decide ((t : Int) + 1 < (b : Int)) = true := decide_eq_true (by omega)
            have hl := HF2.out.lenU
            obtain ⟨c1, z1⟩ := HF2.out.openU (t + 1) (by omega)
            obtain ⟨c2, z2⟩ := HF2.out.openU t (by omega)
            obtain ⟨x, hx⟩ : ∃ x, nth D (t + 1) = x := ⟨_, rfl⟩
            obtain ⟨y, hy⟩ : ∃ y, nth D t = y := ⟨_, rfl⟩
            have HX := Lib.hid hx; have HY := Lib.hid hy
            rw [hx] at c1
            rw [hy] at c2
            clear hx hy
            have e1 : (t : Int) + 1 - 1 = (t : Int) := by omega
            have r0 : (0 : Int) ≤ (t : Int) := by omega
            have s0 : (t : Int) < (n : Int) := by omega
            have r1 : (0 : Int) ≤ (t : Int) + 1 := by omega
            have s1 : (t : Int) + 1 < (n : Int) := by omega
            obtain ⟨c, hc⟩ : ∃ c, decide (x < y) = c := ⟨_, rfl⟩
            go_wp2_with fail
            go_quiet ((go_at_call 107; exact Calls.quiet_of_same ((lessU _ _ _).mono fun _ _ ⟨a, b⟩ => ⟨a, b.symm⟩)))
            try rw [hc]
            go_wp2_with fail
            go_meet
            first | exact ⟨_, rfl, Lib.hid (fun _ => hcond), Lib.hid (HF2.out.drewN _)⟩ | exact ⟨Lib.hid (fun _ => hcond), Lib.hid (HF2.out.drewN _)⟩
          · have d5 : decide ((t : Int) + 1 < (b : Int)) = false := decide_eq_false (by omega)
            go_wp2_with fail
            go_quiet (fail)
            go_wp2_with fail
            go_meet
            first | exact ⟨false, rfl, Lib.hid (fun h => absurd h (by decide)), Lib.hid (HF2.out.drewN _)⟩ | exact ⟨Lib.hid (fun h => absurd h (by decide)), Lib.hid (HF2.out.drewN _)⟩
        case rest =>
        obtain ⟨C, rfl, HC3, HF3⟩ := hcut
        cases C with
        | true =>
          have hcond := HC3.out rfl
          go_wp2_with fail
          go_roundw
          case rel => exact ⟨t + 1, by first | go_num | (congr 1; omega), by omega, by omega, HF3⟩
          case measure => simp only [intOf]; omega
        | false =>
          clear HC3 HF2
          by_cases heq : t + 1 = b
          · have d5 : ((t : Int) + 1 == (b : Int)) = true := by rw [beq_iff_eq]; omega
            go_wp2_with fail
            go_ret
            exact ⟨⟨true, rfl⟩, D, HPD.out, HF3.out⟩
          have d5 : ((t : Int) + 1 == (b : Int)) = false := by rw [beq_eq_false_iff_ne]; omega
          by_cases h50 : (b : Int) - (a : Int) < 50
          · have d6 : decide ((b : Int) - (a : Int) < 50) = true := decide_eq_true h50
            go_wp2_with fail
            go_ret
            exact ⟨⟨false, rfl⟩, D, HPD.out, HF3.out⟩
          have d6 : decide ((b : Int) - (a : Int) < 50) = false := decide_eq_false h50
          have hl := HF3.out.lenU
          obtain ⟨c1, z1⟩ := HF3.out.openU (t + 1) (by omega)
          obtain ⟨c2, z2⟩ := HF3.out.openU t (by omega)
          obtain ⟨x, hx⟩ : ∃ x, nth D (t + 1) = x := ⟨_, rfl⟩
          obtain ⟨y, hy⟩ : ∃ y, nth D t = y := ⟨_, rfl⟩
          have HX := Lib.hid hx; have HY := Lib.hid hy
          rw [hx] at c1
          rw [hy] at c2
          clear hx hy
          have e1 : (t : Int) + 1 - 1 = (t : Int) := by omega
          have r0 : (0 : Int) ≤ (t : Int) := by omega
          have s0 : (t : Int) < (n : Int) := by omega
          have r1 : (0 : Int) ≤ (t : Int) + 1 := by omega
          have s1 : (t : Int) + 1 < (n : Int) := by omega
          have HF4 := Lib.hid ((HF3.out.swU (t + 1) t x y HX.out HY.out).drew)
          have HP4 := Lib.hid ((swU_perm D (t + 1) t (by omega) (by omega)).trans HPD.out)
          go_wp2_with fail
          go_region
          clear c1 c2 z1 z2 hl r0 s0 r1 s1 HX HY d5 d6 h50 HF3
          generalize swU D (t + 1) t = D4 at HF4 HP4
          clear HPD
          go_upto_if 61 with (fail)
          go_cut [9] from 61 to 132 (fun _ wc => ∃ D5 : List Int, Hid (D5.Perm d) ∧ Hid (Fr w0 wc (eU g n cap D5 :: L)))
          case first =>
            by_cases h2 : (2 : Int) ≤ (t : Int) + 1 - (a : Int)
            · have d7 : decide ((2 : Int) ≤ (t : Int) + 1 - (a : Int)) = true := decide_eq_true h2
              go_wp2_with fail
              go_loopw [9] (fun s wr => ∃ (u : Nat) (D5 : List Int), s = .int .i64 u ∧ u < n ∧ Hid (D5.Perm d) ∧ Hid (Fr w0 wr (eU g n cap D5 :: L))) (fun s _ => (intOf s).toNat)
              case atStart => exact ⟨t, D4, rfl, by omega, HP4, HF4⟩
              case round =>
                obtain ⟨u, D5, rfl, u1, HP5, HF5⟩ := hrel
                clear HP4 HF4
                by_cases hu : 1 ≤ u
                · obtain ⟨v, rfl⟩ : ∃ v, u = v + 1 := ⟨u - 1, by omega⟩
                  have hca : ((v + 1 : Nat) : Int) = (v : Int) + 1 := by omega
                  rw [hca]
                  clear hca e1
                  have d8 : decide ((1 : Int) ≤ (v : Int) + 1) = true := decide_eq_true (by omega)
                  have hl := HF5.out.lenU
                  obtain ⟨c1, z1⟩ := HF5.out.openU (v + 1) (by omega)
                  obtain ⟨c2, z2⟩ := HF5.out.openU v (by omega)
                  obtain ⟨x, hx⟩ : ∃ x, nth D5 (v + 1) = x := ⟨_, rfl⟩
                  obtain ⟨y, hy⟩ : ∃ y, nth D5 v = y := ⟨_, rfl⟩
                  have HX := Lib.hid hx; have HY := Lib.hid hy
                  rw [hx] at c1
                  rw [hy] at c2
                  clear hx hy
                  have e1 : (v : Int) + 1 - 1 = (v : Int) := by omega
                  have r0 : (0 : Int) ≤ (v : Int) := by omega
                  have s0 : (v : Int) < (n : Int) := by omega
                  have r1 : (0 : Int) ≤ (v : Int) + 1 := by omega
                  have s1 : (v : Int) + 1 < (n : Int) := by omega
                  have HP6 := Lib.hid ((swU_perm D5 (v + 1) v (by omega) (by omega)).trans HP5.out)
                  obtain ⟨c, hc⟩ : ∃ c, decide (x < y) = c := ⟨_, rfl⟩
                  go_wp2_with fail
                  go_quiet ((go_at_call 107; exact Calls.quiet_of_same ((lessU _ _ _).mono fun _ _ ⟨a, b⟩ => ⟨a, b.symm⟩)))
                  try rw [hc]
                  cases c with
                  | true =>
                    go_wp2_with fail
                    go_region
                    go_wp2_with fail
                    go_roundw
                    case rel => exact ⟨v, _, by first | go_num | (congr 1; omega), by omega, HP6, Lib.hid ((HF5.out.drewN _).swU (v + 1) v x y HX.out HY.out)⟩
                    case measure => simp only [intOf]; omega
                  | false =>
                    go_wp2_with fail
                    go_meet
                    exact ⟨D5, HP5, Lib.hid (HF5.out.drewN _)⟩
                · have d8 : decide ((1 : Int) ≤ (u : Int)) = false := decide_eq_false (by omega)
                  go_wp2_with fail
                  go_meet
                  exact ⟨D5, HP5, HF5⟩
            · have d7 : decide ((2 : Int) ≤ (t : Int) + 1 - (a : Int)) = false := decide_eq_false h2
              go_wp2_with fail
              go_meet
              exact ⟨D4, HP4, HF4⟩
          case rest =>
          obtain ⟨D5, HP5, HF5⟩ := hcut
          clear HP4 HF4 e1
          by_cases h2 : (2 : Int) ≤ (b : Int) - ((t : Int) + 1)
          · have d7 : decide ((2 : Int) ≤ (b : Int) - ((t : Int) + 1)) = true := decide_eq_true h2
            go_wp2_with fail
            go_loopw [10] (fun s wr => ∃ (u : Nat) (D6 : List Int), s = .int .i64 ((u : Int) + 1) ∧ u < b ∧ Hid (D6.Perm d) ∧ Hid (Fr w0 wr (eU g n cap D6 :: L))) (fun s _ => (n + 1 - intOf s).toNat)
            case atStart => exact ⟨t + 1, D5, by first | go_num | (congr 1; omega), by omega, HP5, HF5⟩
            case round =>
              obtain ⟨v, D6, rfl, u1, HP6, HF6⟩ := hrel
              clear HP5 HF5
              by_cases hu : v + 1 < b
              · have d8 : decide ((v : Int) + 1 < (b : Int)) = true := decide_eq_true (by omega)
                have hl := HF6.out.lenU
                obtain ⟨c1, z1⟩ := HF6.out.openU (v + 1) (by omega)
                obtain ⟨c2, z2⟩ := HF6.out.openU v (by omega)
                obtain ⟨x, hx⟩ : ∃ x, nth D6 (v + 1) = x := ⟨_, rfl⟩
                obtain ⟨y, hy⟩ : ∃ y, nth D6 v = y := ⟨_, rfl⟩
                have HX := Lib.hid hx; have HY := Lib.hid hy
                rw [hx] at c1
                rw [hy] at c2
                clear hx hy
                have e1 : (v : Int) + 1 - 1 = (v : Int) := by omega
                have r0 : (0 : Int) ≤ (v : Int) := by omega
                have s0 : (v : Int) < (n : Int) := by omega
                have r1 : (0 : Int) ≤ (v : Int) + 1 := by omega
                have s1 : (v : Int) + 1 < (n : Int) := by omega
                have HP7 := Lib.hid ((swU_perm D6 (v + 1) v (by omega) (by omega)).trans HP6.out)
                obtain ⟨c, hc⟩ : ∃ c, decide (x < y) = c := ⟨_, rfl⟩
                go_wp2_with fail
                go_quiet ((go_at_call 107; exact Calls.quiet_of_same ((lessU _ _ _).mono fun _ _ ⟨a, b⟩ => ⟨a, b.symm⟩)))
                try rw [hc]
                cases c with
                | true =>
                  go_wp2_with fail
                  go_region
                  go_wp2_with fail
                  go_roundw
                  case rel => exact ⟨v + 1, _, by first | go_num | (congr 1; omega), by omega, HP7, Lib.hid ((HF6.out.drewN _).swU (v + 1) v x y HX.out HY.out)⟩
                  case measure => simp only [intOf]; omega
                | false =>
                  go_wp2_with fail
                  go_roundw
                  case rel => exact ⟨t, j + 1, D6, rfl, by go_num, by omega, by omega, by omega, HP6, Lib.hid (HF6.out.drewN _)⟩
                  case measure => simp only [intOf]; omega
              · have d8 : decide ((v : Int) + 1 < (b : Int)) = false := decide_eq_false (by omega)
                go_wp2_with fail
                go_roundw
                case rel => exact ⟨t, j + 1, D6, rfl, by go_num, by omega, by omega, by omega, HP6, HF6⟩
                case measure => simp only [intOf]; omega
          · have d7 : decide ((2 : Int) ≤ (b : Int) - ((t : Int) + 1)) = false := decide_eq_false h2
            go_wp2_with fail
            go_roundw
            case rel => exact ⟨t, j + 1, D5, rfl, by go_num, by omega, by omega, by omega, HP5, HF5⟩
            case measure => simp only [intOf]; omega
    · go_wp2_with fail
      go_ret
      exact ⟨⟨false, rfl⟩, D, HPD.out, HFD.out⟩
end Go.Proofs.Ytdabgibmbmhmdaa
