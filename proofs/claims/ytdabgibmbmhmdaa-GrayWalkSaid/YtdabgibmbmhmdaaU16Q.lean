/- The partitions of own slices of uint16 (printed by genu16.py). -/
import Derived.Test.YtdabgibmbmhmdaaU16S
import Derived.Deep.CutRange
namespace Go.Proofs.Ytdabgibmbmhmdaa
open Go.RowKit

set_option maxRecDepth 100000 in
set_option maxHeartbeats 16000000 in
theorem partU {w0 : World} {L : List Ent} {g n cap : Nat} {d : List Int} (w : World) (a b v : Nat) (F : Fr w0 w (eU g n cap d :: L)) (hab : a < b) (hb : b ≤ n) (hn : n ≤ 100000) (hvb : v < b) :
    Calls Try.prog 109 #[.slice (some ⟨g, 0, none⟩) n cap, .int .i64 a, .int .i64 b, .int .i64 v] w fun e w' => (∃ (mid : Nat) (c : Bool), a ≤ mid ∧ mid < b ∧ e = .returned (.tuple #[.int .i64 mid, .bool c])) ∧ SrtU w0 L g n cap d w' := by
  have HF := Lib.hid F
  have HP := Lib.hid (List.Perm.refl d)
  clear F
  go_enter Try.func109, Try.ntmps109
  have hl := HF.out.lenU
  obtain ⟨c1, z1⟩ := HF.out.openU a (by omega)
  obtain ⟨c2, z2⟩ := HF.out.openU v (by omega)
  obtain ⟨x, hx⟩ : ∃ x, nth d a = x := ⟨_, rfl⟩
  obtain ⟨y, hy⟩ : ∃ y, nth d v = y := ⟨_, rfl⟩
  have HF1 := Lib.hid ((HF.out.swU a v x y hx hy).drew)
  have HP1 := Lib.hid ((swU_perm d a v (by omega) (by omega)).trans HP.out)
  obtain ⟨c3, z3⟩ := (HF.out.setU a y).openU v (by omega)
  obtain ⟨u, hu⟩ : ∃ u, nth (d.set a y) v = u := ⟨_, rfl⟩
  rw [hx] at c1
  rw [hy] at c2
  rw [hu] at c3
  clear hx hy hu
  have r0 : (0 : Int) ≤ (a : Int) := by omega
  have s0 : (a : Int) < (n : Int) := by omega
  have r1 : (0 : Int) ≤ (v : Int) := by omega
  have s1 : (v : Int) < (n : Int) := by omega
  go_wp2_with fail
  go_region
  clear c1 c2 c3 z1 z2 z3 hl
  generalize swU d a v = D2 at HF1 HP1
  clear HF HP r0 s0 r1 s1
  go_wp2_with fail
  obtain ⟨q0, hq0⟩ : ∃ q : Nat, (b : Int) - 1 = q := ⟨b - 1, by omega⟩
  try rw [hq0]
  go_loopw [10] (fun i wr => ∃ p : Nat, i = .int .i64 p ∧ a < p ∧ p ≤ b ∧ Hid (Fr w0 wr (eU g n cap D2 :: L))) (fun i _ => (n + 1 - intOf i).toNat)
  case atStart => exact ⟨a + 1, by go_num, by omega, by omega, HF1⟩
  case round =>
    obtain ⟨p, rfl, k1, k2, HF2⟩ := hrel
    go_upto_region 3 with (fail)
    go_cut [43] from 30 to 45 (fun s wc => ∃ C : Bool, s = .bool C ∧ Hid (C = true → p ≤ q0) ∧ Hid (Fr w0 wc (eU g n cap D2 :: L)))
    case first =>
      by_cases hcond : p ≤ q0
      · have hl := HF2.out.lenU
        obtain ⟨c1, z1⟩ := HF2.out.openU p (by omega)
        obtain ⟨c2, z2⟩ := HF2.out.openU a (by omega)
        obtain ⟨x, hx⟩ : ∃ x, nth D2 p = x := ⟨_, rfl⟩
        obtain ⟨y, hy⟩ : ∃ y, nth D2 a = y := ⟨_, rfl⟩
        rw [hx] at c1
        rw [hy] at c2
        clear hx hy z1 z2
        obtain ⟨c, hc⟩ : ∃ c, decide (x < y) = c := ⟨_, rfl⟩
        have r0 : (0 : Int) ≤ (p : Int) := by omega
        have s0 : (p : Int) < (n : Int) := by omega
        have r1 : (0 : Int) ≤ (a : Int) := by omega
        have s1 : (a : Int) < (n : Int) := by omega
        have d5 : decide ((p : Int) ≤ (q0 : Int)) = true := decide_eq_true (by omega)
        have d6 : decide (p ≤ q0) = true := decide_eq_true hcond
        go_wp2_with fail
        go_quiet ((go_at_call 107; exact Calls.quiet_of_same ((lessU _ _ _).mono fun _ _ ⟨a, b⟩ => ⟨a, b.symm⟩)))
        try rw [hc]
        go_wp2_with fail
        go_meet
        first | exact ⟨_, rfl, Lib.hid (fun _ => hcond), Lib.hid (HF2.out.drewN _)⟩ | exact ⟨Lib.hid (fun _ => hcond), Lib.hid (HF2.out.drewN _)⟩
      · have d5 : decide ((p : Int) ≤ (q0 : Int)) = false := decide_eq_false (by omega)
        have d6 : decide (p ≤ q0) = false := decide_eq_false hcond
        go_wp2_with fail
        go_quiet (fail)
        go_wp2_with fail
        go_meet
        first | exact ⟨false, rfl, Lib.hid (fun h => absurd h (by decide)), Lib.hid (HF2.out.drewN _)⟩ | exact ⟨Lib.hid (fun h => absurd h (by decide)), Lib.hid (HF2.out.drewN _)⟩
    case rest =>
    obtain ⟨C, rfl, HC3, HF3⟩ := hcut
    cases C with
    | true =>
      have hcond := HC3.out rfl
      go_wp2_with fail
      go_roundw
      case rel => exact ⟨p + 1, by go_num, by omega, by omega, HF3⟩
      case measure => simp only [intOf]; omega
    | false =>
      clear HC3 HF2
      go_wp2_with fail
      go_loopw [11] (fun j wr => ∃ q : Nat, j = .int .i64 q ∧ a ≤ q ∧ q < b ∧ Hid (Fr w0 wr (eU g n cap D2 :: L))) (fun j _ => (intOf j).toNat)
      case atStart => exact ⟨q0, rfl, by omega, by omega, HF3⟩
      case round =>
        obtain ⟨q, rfl, m1, m2, HF4⟩ := hrel
        clear HF3
        go_upto_region 5 with (fail)
        go_cut [60] from 46 to 62 (fun s wc => ∃ C : Bool, s = .bool C ∧ Hid (C = true → p ≤ q) ∧ Hid (Fr w0 wc (eU g n cap D2 :: L)))
        case first =>
          by_cases hcond : p ≤ q
          · have hl := HF4.out.lenU
            obtain ⟨c1, z1⟩ := HF4.out.openU q (by omega)
            obtain ⟨c2, z2⟩ := HF4.out.openU a (by omega)
            obtain ⟨x, hx⟩ : ∃ x, nth D2 q = x := ⟨_, rfl⟩
            obtain ⟨y, hy⟩ : ∃ y, nth D2 a = y := ⟨_, rfl⟩
            rw [hx] at c1
            rw [hy] at c2
            clear hx hy z1 z2
            obtain ⟨c, hc⟩ : ∃ c, decide (x < y) = c := ⟨_, rfl⟩
            have r0 : (0 : Int) ≤ (q : Int) := by omega
            have s0 : (q : Int) < (n : Int) := by omega
            have r1 : (0 : Int) ≤ (a : Int) := by omega
            have s1 : (a : Int) < (n : Int) := by omega
            have d5 : decide ((p : Int) ≤ (q : Int)) = true := decide_eq_true (by omega)
            have d6 : decide (p ≤ q) = true := decide_eq_true hcond
            go_wp2_with fail
            go_quiet ((go_at_call 107; exact Calls.quiet_of_same ((lessU _ _ _).mono fun _ _ ⟨a, b⟩ => ⟨a, b.symm⟩)))
            try rw [hc]
            go_wp2_with fail
            go_meet
            first | exact ⟨_, rfl, Lib.hid (fun _ => hcond), Lib.hid (HF4.out.drewN _)⟩ | exact ⟨Lib.hid (fun _ => hcond), Lib.hid (HF4.out.drewN _)⟩
          · have d5 : decide ((p : Int) ≤ (q : Int)) = false := decide_eq_false (by omega)
            have d6 : decide (p ≤ q) = false := decide_eq_false hcond
            go_wp2_with fail
            go_quiet (fail)
            go_wp2_with fail
            go_meet
            first | exact ⟨false, rfl, Lib.hid (fun h => absurd h (by decide)), Lib.hid (HF4.out.drewN _)⟩ | exact ⟨Lib.hid (fun h => absurd h (by decide)), Lib.hid (HF4.out.drewN _)⟩
        case rest =>
        obtain ⟨C, rfl, HC5, HF5⟩ := hcut
        cases C with
        | true =>
          have hcond := HC5.out rfl
          go_wp2_with fail
          go_roundw
          case rel => exact ⟨q - 1, by first | go_num | (congr 1; omega), by omega, by omega, HF5⟩
          case measure => simp only [intOf]; omega
        | false =>
          clear HC5 HF4
          by_cases hgt : q < p
          · have d7 : decide (q < p) = true := decide_eq_true hgt
            have d8 : decide ((q : Int) < (p : Int)) = true := decide_eq_true (by omega)
            have hl := HF5.out.lenU
            obtain ⟨c1, z1⟩ := HF5.out.openU q (by omega)
            obtain ⟨c2, z2⟩ := HF5.out.openU a (by omega)
            obtain ⟨x, hx⟩ : ∃ x, nth D2 q = x := ⟨_, rfl⟩
            obtain ⟨y, hy⟩ : ∃ y, nth D2 a = y := ⟨_, rfl⟩
            have HF6 := Lib.hid ((HF5.out.swU q a x y hx hy).drew)
            have HP6 := Lib.hid ((swU_perm D2 q a (by omega) (by omega)).trans HP1.out)
            obtain ⟨c3, z3⟩ := (HF5.out.setU q y).openU a (by omega)
            obtain ⟨u, hu⟩ : ∃ u, nth (D2.set q y) a = u := ⟨_, rfl⟩
            rw [hx] at c1
            rw [hy] at c2
            rw [hu] at c3
            clear hx hy hu
            have r0 : (0 : Int) ≤ (q : Int) := by omega
            have s0 : (q : Int) < (n : Int) := by omega
            have r1 : (0 : Int) ≤ (a : Int) := by omega
            have s1 : (a : Int) < (n : Int) := by omega
            go_wp2_with fail
            go_region
            clear c1 c2 c3 z1 z2 z3 hl
            generalize swU D2 q a = D6 at HF6 HP6
            go_wp2_with fail
            go_ret2
            exact ⟨⟨q, true, by omega, by omega, rfl⟩, D6, HP6.out, HF6.out⟩
          · have d7 : decide (q < p) = false := decide_eq_false hgt
            have d8 : decide ((q : Int) < (p : Int)) = false := decide_eq_false (by omega)
            have hl := HF5.out.lenU
            obtain ⟨c1, z1⟩ := HF5.out.openU p (by omega)
            obtain ⟨c2, z2⟩ := HF5.out.openU q (by omega)
            obtain ⟨x, hx⟩ : ∃ x, nth D2 p = x := ⟨_, rfl⟩
            obtain ⟨y, hy⟩ : ∃ y, nth D2 q = y := ⟨_, rfl⟩
            have HF6 := Lib.hid ((HF5.out.swU p q x y hx hy).drew)
            have HP6 := Lib.hid ((swU_perm D2 p q (by omega) (by omega)).trans HP1.out)
            obtain ⟨c3, z3⟩ := (HF5.out.setU p y).openU q (by omega)
            obtain ⟨u, hu⟩ : ∃ u, nth (D2.set p y) q = u := ⟨_, rfl⟩
            rw [hx] at c1
            rw [hy] at c2
            rw [hu] at c3
            clear hx hy hu
            have r0 : (0 : Int) ≤ (p : Int) := by omega
            have s0 : (p : Int) < (n : Int) := by omega
            have r1 : (0 : Int) ≤ (q : Int) := by omega
            have s1 : (q : Int) < (n : Int) := by omega
            go_wp2_with fail
            go_region
            clear c1 c2 c3 z1 z2 z3 hl
            generalize swU D2 p q = D6 at HF6 HP6
            clear HF5 d7 d8
            go_wp2_with fail
            go_loopw [10, 11] (fun i j wr => ∃ (p q : Nat) (D : List Int), i = .int .i64 p ∧ j = .int .i64 q ∧ a < p ∧ p ≤ b ∧ a ≤ q ∧ q < b ∧ Hid (D.Perm d) ∧ Hid (Fr w0 wr (eU g n cap D :: L))) (fun i j _ => (intOf j + n + 1 - intOf i).toNat)
            case atStart => exact ⟨p + 1, q - 1, D6, by go_num, by first | go_num | (congr 1; omega), by omega, by omega, by omega, by omega, HP6, HF6⟩
            case round =>
              obtain ⟨p1, q1, D, rfl, rfl, n1, n2, n3, n4, HPD, HFD⟩ := hrel
              clear HP6 HF6
              go_wp2_with fail
              go_loopw [10] (fun i wr => ∃ p : Nat, i = .int .i64 p ∧ p1 ≤ p ∧ p ≤ b ∧ Hid (Fr w0 wr (eU g n cap D :: L))) (fun i _ => (n + 1 - intOf i).toNat)
              case atStart => exact ⟨p1, rfl, by omega, by omega, HFD⟩
              case round =>
                obtain ⟨p2, rfl, j1, j2, HF2⟩ := hrel
                go_upto_region 13 with (fail)
                go_cut [112] from 99 to 114 (fun s wc => ∃ C : Bool, s = .bool C ∧ Hid (C = true → p2 ≤ q1) ∧ Hid (Fr w0 wc (eU g n cap D :: L)))
                case first =>
                  by_cases hcond : p2 ≤ q1
                  · have hl := HF2.out.lenU
                    obtain ⟨c1, z1⟩ := HF2.out.openU p2 (by omega)
                    obtain ⟨c2, z2⟩ := HF2.out.openU a (by omega)
                    obtain ⟨x, hx⟩ : ∃ x, nth D p2 = x := ⟨_, rfl⟩
                    obtain ⟨y, hy⟩ : ∃ y, nth D a = y := ⟨_, rfl⟩
                    rw [hx] at c1
                    rw [hy] at c2
                    clear hx hy z1 z2
                    obtain ⟨c, hc⟩ : ∃ c, decide (x < y) = c := ⟨_, rfl⟩
                    have r0 : (0 : Int) ≤ (p2 : Int) := by omega
                    have s0 : (p2 : Int) < (n : Int) := by omega
                    have r1 : (0 : Int) ≤ (a : Int) := by omega
                    have s1 : (a : Int) < (n : Int) := by omega
                    have d5 : decide ((p2 : Int) ≤ (q1 : Int)) = true := decide_eq_true (by omega)
                    have d6 : decide (p2 ≤ q1) = true := decide_eq_true hcond
                    go_wp2_with fail
                    go_quiet ((go_at_call 107; exact Calls.quiet_of_same ((lessU _ _ _).mono fun _ _ ⟨a, b⟩ => ⟨a, b.symm⟩)))
                    try rw [hc]
                    go_wp2_with fail
                    go_meet
                    first | exact ⟨_, rfl, Lib.hid (fun _ => hcond), Lib.hid (HF2.out.drewN _)⟩ | exact ⟨Lib.hid (fun _ => hcond), Lib.hid (HF2.out.drewN _)⟩
                  · have d5 : decide ((p2 : Int) ≤ (q1 : Int)) = false := decide_eq_false (by omega)
                    have d6 : decide (p2 ≤ q1) = false := decide_eq_false hcond
                    go_wp2_with fail
                    go_quiet (fail)
                    go_wp2_with fail
                    go_meet
                    first | exact ⟨false, rfl, Lib.hid (fun h => absurd h (by decide)), Lib.hid (HF2.out.drewN _)⟩ | exact ⟨Lib.hid (fun h => absurd h (by decide)), Lib.hid (HF2.out.drewN _)⟩
                case rest =>
                obtain ⟨C, rfl, HC3, HF3⟩ := hcut
                cases C with
                | true =>
                  have hcond := HC3.out rfl
                  go_wp2_with fail
                  go_roundw
                  case rel => exact ⟨p2 + 1, by go_num, by omega, by omega, HF3⟩
                  case measure => simp only [intOf]; omega
                | false =>
                  clear HC3 HF2
                  go_wp2_with fail
                  go_loopw [11] (fun j wr => ∃ q : Nat, j = .int .i64 q ∧ a ≤ q ∧ q ≤ q1 ∧ Hid (Fr w0 wr (eU g n cap D :: L))) (fun j _ => (intOf j).toNat)
                  case atStart => exact ⟨q1, rfl, by omega, by omega, HF3⟩
                  case round =>
                    obtain ⟨q2, rfl, m3, m4, HF4⟩ := hrel
                    clear HF3
                    go_upto_region 15 with (fail)
                    go_cut [129] from 115 to 131 (fun s wc => ∃ C : Bool, s = .bool C ∧ Hid (C = true → p2 ≤ q2) ∧ Hid (Fr w0 wc (eU g n cap D :: L)))
                    case first =>
                      by_cases hcond : p2 ≤ q2
                      · have hl := HF4.out.lenU
                        obtain ⟨c1, z1⟩ := HF4.out.openU q2 (by omega)
                        obtain ⟨c2, z2⟩ := HF4.out.openU a (by omega)
                        obtain ⟨x, hx⟩ : ∃ x, nth D q2 = x := ⟨_, rfl⟩
                        obtain ⟨y, hy⟩ : ∃ y, nth D a = y := ⟨_, rfl⟩
                        rw [hx] at c1
                        rw [hy] at c2
                        clear hx hy z1 z2
                        obtain ⟨c, hc⟩ : ∃ c, decide (x < y) = c := ⟨_, rfl⟩
                        have r0 : (0 : Int) ≤ (q2 : Int) := by omega
                        have s0 : (q2 : Int) < (n : Int) := by omega
                        have r1 : (0 : Int) ≤ (a : Int) := by omega
                        have s1 : (a : Int) < (n : Int) := by omega
                        have d5 : decide ((p2 : Int) ≤ (q2 : Int)) = true := decide_eq_true (by omega)
                        have d6 : decide (p2 ≤ q2) = true := decide_eq_true hcond
                        go_wp2_with fail
                        go_quiet ((go_at_call 107; exact Calls.quiet_of_same ((lessU _ _ _).mono fun _ _ ⟨a, b⟩ => ⟨a, b.symm⟩)))
                        try rw [hc]
                        go_wp2_with fail
                        go_meet
                        first | exact ⟨_, rfl, Lib.hid (fun _ => hcond), Lib.hid (HF4.out.drewN _)⟩ | exact ⟨Lib.hid (fun _ => hcond), Lib.hid (HF4.out.drewN _)⟩
                      · have d5 : decide ((p2 : Int) ≤ (q2 : Int)) = false := decide_eq_false (by omega)
                        have d6 : decide (p2 ≤ q2) = false := decide_eq_false hcond
                        go_wp2_with fail
                        go_quiet (fail)
                        go_wp2_with fail
                        go_meet
                        first | exact ⟨false, rfl, Lib.hid (fun h => absurd h (by decide)), Lib.hid (HF4.out.drewN _)⟩ | exact ⟨Lib.hid (fun h => absurd h (by decide)), Lib.hid (HF4.out.drewN _)⟩
                    case rest =>
                    obtain ⟨C, rfl, HC5, HF5⟩ := hcut
                    cases C with
                    | true =>
                      have hcond := HC5.out rfl
                      go_wp2_with fail
                      go_roundw
                      case rel => exact ⟨q2 - 1, by first | go_num | (congr 1; omega), by omega, by omega, HF5⟩
                      case measure => simp only [intOf]; omega
                    | false =>
                      clear HC5 HF4
                      by_cases hgt : q2 < p2
                      · have d7 : decide (q2 < p2) = true := decide_eq_true hgt
                        have d8 : decide ((q2 : Int) < (p2 : Int)) = true := decide_eq_true (by omega)
                        have hl := HF5.out.lenU
                        obtain ⟨c1, z1⟩ := HF5.out.openU q2 (by omega)
                        obtain ⟨c2, z2⟩ := HF5.out.openU a (by omega)
                        obtain ⟨x, hx⟩ : ∃ x, nth D q2 = x := ⟨_, rfl⟩
                        obtain ⟨y, hy⟩ : ∃ y, nth D a = y := ⟨_, rfl⟩
                        have HF6 := Lib.hid ((HF5.out.swU q2 a x y hx hy).drew)
                        have HP6 := Lib.hid ((swU_perm D q2 a (by omega) (by omega)).trans HPD.out)
                        obtain ⟨c3, z3⟩ := (HF5.out.setU q2 y).openU a (by omega)
                        obtain ⟨u, hu⟩ : ∃ u, nth (D.set q2 y) a = u := ⟨_, rfl⟩
                        rw [hx] at c1
                        rw [hy] at c2
                        rw [hu] at c3
                        clear hx hy hu
                        have r0 : (0 : Int) ≤ (q2 : Int) := by omega
                        have s0 : (q2 : Int) < (n : Int) := by omega
                        have r1 : (0 : Int) ≤ (a : Int) := by omega
                        have s1 : (a : Int) < (n : Int) := by omega
                        go_wp2_with fail
                        go_region
                        clear c1 c2 c3 z1 z2 z3 hl
                        generalize swU D q2 a = D6 at HF6 HP6
                        go_wp2_with fail
                        go_ret2
                        exact ⟨⟨q2, false, by omega, by omega, rfl⟩, D6, HP6.out, HF6.out⟩
                      · have d7 : decide (q2 < p2) = false := decide_eq_false hgt
                        have d8 : decide ((q2 : Int) < (p2 : Int)) = false := decide_eq_false (by omega)
                        have hl := HF5.out.lenU
                        obtain ⟨c1, z1⟩ := HF5.out.openU p2 (by omega)
                        obtain ⟨c2, z2⟩ := HF5.out.openU q2 (by omega)
                        obtain ⟨x, hx⟩ : ∃ x, nth D p2 = x := ⟨_, rfl⟩
                        obtain ⟨y, hy⟩ : ∃ y, nth D q2 = y := ⟨_, rfl⟩
                        have HF6 := Lib.hid ((HF5.out.swU p2 q2 x y hx hy).drew)
                        have HP6 := Lib.hid ((swU_perm D p2 q2 (by omega) (by omega)).trans HPD.out)
                        obtain ⟨c3, z3⟩ := (HF5.out.setU p2 y).openU q2 (by omega)
                        obtain ⟨u, hu⟩ : ∃ u, nth (D.set p2 y) q2 = u := ⟨_, rfl⟩
                        rw [hx] at c1
                        rw [hy] at c2
                        rw [hu] at c3
                        clear hx hy hu
                        have r0 : (0 : Int) ≤ (p2 : Int) := by omega
                        have s0 : (p2 : Int) < (n : Int) := by omega
                        have r1 : (0 : Int) ≤ (q2 : Int) := by omega
                        have s1 : (q2 : Int) < (n : Int) := by omega
                        go_wp2_with fail
                        go_region
                        clear c1 c2 c3 z1 z2 z3 hl
                        generalize swU D p2 q2 = D6 at HF6 HP6
                        clear HF5 d7 d8
                        go_wp2_with fail
                        go_roundw
                        case rel => exact ⟨p2 + 1, q2 - 1, D6, by go_num, by first | go_num | (congr 1; omega), by omega, by omega, by omega, by omega, HP6, HF6⟩
                        case measure => simp only [intOf]; omega
set_option maxRecDepth 100000 in
set_option maxHeartbeats 16000000 in
theorem partEqU {w0 : World} {L : List Ent} {g n cap : Nat} {d : List Int} (w : World) (a b v : Nat) (F : Fr w0 w (eU g n cap d :: L)) (hab : a < b) (hb : b ≤ n) (hn : n ≤ 100000) (hvb : v < b) :
    Calls Try.prog 108 #[.slice (some ⟨g, 0, none⟩) n cap, .int .i64 a, .int .i64 b, .int .i64 v] w fun e w' => (∃ mid : Nat, a < mid ∧ mid ≤ b ∧ e = .returned (.int .i64 mid)) ∧ SrtU w0 L g n cap d w' := by
  have HF := Lib.hid F
  have HP := Lib.hid (List.Perm.refl d)
  clear F
  go_enter Try.func108, Try.ntmps108
  have hl := HF.out.lenU
  obtain ⟨c1, z1⟩ := HF.out.openU a (by omega)
  obtain ⟨c2, z2⟩ := HF.out.openU v (by omega)
  obtain ⟨x, hx⟩ : ∃ x, nth d a = x := ⟨_, rfl⟩
  obtain ⟨y, hy⟩ : ∃ y, nth d v = y := ⟨_, rfl⟩
  have HF1 := Lib.hid ((HF.out.swU a v x y hx hy).drew)
  have HP1 := Lib.hid ((swU_perm d a v (by omega) (by omega)).trans HP.out)
  obtain ⟨c3, z3⟩ := (HF.out.setU a y).openU v (by omega)
  obtain ⟨u, hu⟩ : ∃ u, nth (d.set a y) v = u := ⟨_, rfl⟩
  rw [hx] at c1
  rw [hy] at c2
  rw [hu] at c3
  clear hx hy hu
  have r0 : (0 : Int) ≤ (a : Int) := by omega
  have s0 : (a : Int) < (n : Int) := by omega
  have r1 : (0 : Int) ≤ (v : Int) := by omega
  have s1 : (v : Int) < (n : Int) := by omega
  go_wp2_with fail
  go_region
  clear c1 c2 c3 z1 z2 z3 hl
  generalize swU d a v = D2 at HF1 HP1
  clear HF HP r0 s0 r1 s1
  go_wp2_with fail
  obtain ⟨q0, hq0⟩ : ∃ q : Nat, (b : Int) - 1 = q := ⟨b - 1, by omega⟩
  try rw [hq0]
  go_loopw [9, 10] (fun i j wr => ∃ (p q : Nat) (D : List Int), i = .int .i64 p ∧ j = .int .i64 q ∧ a < p ∧ p ≤ b ∧ a ≤ q ∧ q < b ∧ Hid (D.Perm d) ∧ Hid (Fr w0 wr (eU g n cap D :: L))) (fun i j _ => (intOf j + n + 1 - intOf i).toNat)
  case atStart => exact ⟨a + 1, q0, D2, by go_num, rfl, by omega, by omega, by omega, by omega, HP1, HF1⟩
  case round =>
    obtain ⟨p1, q1, D, rfl, rfl, n1, n2, n3, n4, HPD, HFD⟩ := hrel
    clear HP1 HF1
    go_wp2_with fail
    go_loopw [9] (fun i wr => ∃ p : Nat, i = .int .i64 p ∧ p1 ≤ p ∧ p ≤ b ∧ Hid (Fr w0 wr (eU g n cap D :: L))) (fun i _ => (n + 1 - intOf i).toNat)
    case atStart => exact ⟨p1, rfl, by omega, by omega, HFD⟩
    case round =>
      obtain ⟨p2, rfl, j1, j2, HF2⟩ := hrel
      go_upto_region 3 with (fail)
      go_cut [43] from 29 to 45 (fun s wc => ∃ C : Bool, s = .bool C ∧ Hid (C = true → p2 ≤ q1) ∧ Hid (Fr w0 wc (eU g n cap D :: L)))
      case first =>
        by_cases hcond : p2 ≤ q1
        · have hl := HF2.out.lenU
          obtain ⟨c1, z1⟩ := HF2.out.openU a (by omega)
          obtain ⟨c2, z2⟩ := HF2.out.openU p2 (by omega)
          obtain ⟨x, hx⟩ : ∃ x, nth D a = x := ⟨_, rfl⟩
          obtain ⟨y, hy⟩ : ∃ y, nth D p2 = y := ⟨_, rfl⟩
          rw [hx] at c1
          rw [hy] at c2
          clear hx hy z1 z2
          obtain ⟨c, hc⟩ : ∃ c, decide (x < y) = c := ⟨_, rfl⟩
          have r0 : (0 : Int) ≤ (a : Int) := by omega
          have s0 : (a : Int) < (n : Int) := by omega
          have r1 : (0 : Int) ≤ (p2 : Int) := by omega
          have s1 : (p2 : Int) < (n : Int) := by omega
          have d5 : decide ((p2 : Int) ≤ (q1 : Int)) = true := decide_eq_true (by omega)
          have d6 : decide (p2 ≤ q1) = true := decide_eq_true hcond
          go_wp2_with fail
          go_quiet ((go_at_call 107; exact Calls.quiet_of_same ((lessU _ _ _).mono fun _ _ ⟨a, b⟩ => ⟨a, b.symm⟩)))
          try rw [hc]
          go_wp2_with fail
          go_meet
          first | exact ⟨_, rfl, Lib.hid (fun _ => hcond), Lib.hid (HF2.out.drewN _)⟩ | exact ⟨Lib.hid (fun _ => hcond), Lib.hid (HF2.out.drewN _)⟩
        · have d5 : decide ((p2 : Int) ≤ (q1 : Int)) = false := decide_eq_false (by omega)
          have d6 : decide (p2 ≤ q1) = false := decide_eq_false hcond
          go_wp2_with fail
          go_quiet (fail)
          go_wp2_with fail
          go_meet
          first | exact ⟨false, rfl, Lib.hid (fun h => absurd h (by decide)), Lib.hid (HF2.out.drewN _)⟩ | exact ⟨Lib.hid (fun h => absurd h (by decide)), Lib.hid (HF2.out.drewN _)⟩
      case rest =>
      obtain ⟨C, rfl, HC3, HF3⟩ := hcut
      cases C with
      | true =>
        have hcond := HC3.out rfl
        go_wp2_with fail
        go_roundw
        case rel => exact ⟨p2 + 1, by go_num, by omega, by omega, HF3⟩
        case measure => simp only [intOf]; omega
      | false =>
        clear HC3 HF2
        go_wp2_with fail
        go_loopw [10] (fun j wr => ∃ q : Nat, j = .int .i64 q ∧ a ≤ q ∧ q ≤ q1 ∧ Hid (Fr w0 wr (eU g n cap D :: L))) (fun j _ => (intOf j).toNat)
        case atStart => exact ⟨q1, rfl, by omega, by omega, HF3⟩
        case round =>
          obtain ⟨q2, rfl, m3, m4, HF4⟩ := hrel
          clear HF3
          go_upto_region 5 with (fail)
          go_cut [59] from 46 to 61 (fun s wc => ∃ C : Bool, s = .bool C ∧ Hid (C = true → p2 ≤ q2) ∧ Hid (Fr w0 wc (eU g n cap D :: L)))
          case first =>
            by_cases hcond : p2 ≤ q2
            · have hl := HF4.out.lenU
              obtain ⟨c1, z1⟩ := HF4.out.openU a (by omega)
              obtain ⟨c2, z2⟩ := HF4.out.openU q2 (by omega)
              obtain ⟨x, hx⟩ : ∃ x, nth D a = x := ⟨_, rfl⟩
              obtain ⟨y, hy⟩ : ∃ y, nth D q2 = y := ⟨_, rfl⟩
              rw [hx] at c1
              rw [hy] at c2
              clear hx hy z1 z2
              obtain ⟨c, hc⟩ : ∃ c, decide (x < y) = c := ⟨_, rfl⟩
              have r0 : (0 : Int) ≤ (a : Int) := by omega
              have s0 : (a : Int) < (n : Int) := by omega
              have r1 : (0 : Int) ≤ (q2 : Int) := by omega
              have s1 : (q2 : Int) < (n : Int) := by omega
              have d5 : decide ((p2 : Int) ≤ (q2 : Int)) = true := decide_eq_true (by omega)
              have d6 : decide (p2 ≤ q2) = true := decide_eq_true hcond
              go_wp2_with fail
              go_quiet ((go_at_call 107; exact Calls.quiet_of_same ((lessU _ _ _).mono fun _ _ ⟨a, b⟩ => ⟨a, b.symm⟩)))
              try rw [hc]
              go_wp2_with fail
              go_meet
              first | exact ⟨_, rfl, Lib.hid (fun _ => hcond), Lib.hid (HF4.out.drewN _)⟩ | exact ⟨Lib.hid (fun _ => hcond), Lib.hid (HF4.out.drewN _)⟩
            · have d5 : decide ((p2 : Int) ≤ (q2 : Int)) = false := decide_eq_false (by omega)
              have d6 : decide (p2 ≤ q2) = false := decide_eq_false hcond
              go_wp2_with fail
              go_quiet (fail)
              go_wp2_with fail
              go_meet
              first | exact ⟨false, rfl, Lib.hid (fun h => absurd h (by decide)), Lib.hid (HF4.out.drewN _)⟩ | exact ⟨Lib.hid (fun h => absurd h (by decide)), Lib.hid (HF4.out.drewN _)⟩
          case rest =>
          obtain ⟨C, rfl, HC5, HF5⟩ := hcut
          cases C with
          | true =>
            have hcond := HC5.out rfl
            go_wp2_with fail
            go_roundw
            case rel => exact ⟨q2 - 1, by first | go_num | (congr 1; omega), by omega, by omega, HF5⟩
            case measure => simp only [intOf]; omega
          | false =>
            clear HC5 HF4
            by_cases hgt : q2 < p2
            · have d7 : decide (q2 < p2) = true := decide_eq_true hgt
              have d8 : decide ((q2 : Int) < (p2 : Int)) = true := decide_eq_true (by omega)
              go_wp2_with fail
              go_ret
              exact ⟨⟨p2, by omega, by omega, rfl⟩, D, HPD.out, HF5.out⟩
            · have d7 : decide (q2 < p2) = false := decide_eq_false hgt
              have d8 : decide ((q2 : Int) < (p2 : Int)) = false := decide_eq_false (by omega)
              have hl := HF5.out.lenU
              obtain ⟨c1, z1⟩ := HF5.out.openU p2 (by omega)
              obtain ⟨c2, z2⟩ := HF5.out.openU q2 (by omega)
              obtain ⟨x, hx⟩ : ∃ x, nth D p2 = x := ⟨_, rfl⟩
              obtain ⟨y, hy⟩ : ∃ y, nth D q2 = y := ⟨_, rfl⟩
              have HF6 := Lib.hid ((HF5.out.swU p2 q2 x y hx hy).drew)
              have HP6 := Lib.hid ((swU_perm D p2 q2 (by omega) (by omega)).trans HPD.out)
              obtain ⟨c3, z3⟩ := (HF5.out.setU p2 y).openU q2 (by omega)
              obtain ⟨u, hu⟩ : ∃ u, nth (D.set p2 y) q2 = u := ⟨_, rfl⟩
              rw [hx] at c1
              rw [hy] at c2
              rw [hu] at c3
              clear hx hy hu
              have r0 : (0 : Int) ≤ (p2 : Int) := by omega
              have s0 : (p2 : Int) < (n : Int) := by omega
              have r1 : (0 : Int) ≤ (q2 : Int) := by omega
              have s1 : (q2 : Int) < (n : Int) := by omega
              go_wp2_with fail
              go_region
              clear c1 c2 c3 z1 z2 z3 hl
              generalize swU D p2 q2 = D6 at HF6 HP6
              clear HF5 d7 d8
              go_wp2_with fail
              go_roundw
              case rel => exact ⟨p2 + 1, q2 - 1, D6, by go_num, by first | go_num | (congr 1; omega), by omega, by omega, by omega, by omega, HP6, HF6⟩
              case measure => simp only [intOf]; omega
end Go.Proofs.Ytdabgibmbmhmdaa
