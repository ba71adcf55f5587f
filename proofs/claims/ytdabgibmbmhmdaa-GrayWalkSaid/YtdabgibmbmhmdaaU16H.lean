/- The heap of own slices of uint16 (printed by genu16h.py). -/
import Derived.Test.YtdabgibmbmhmdaaU16S
import Derived.Deep.CutRange
import Derived.IntWalk
namespace Go.Proofs.Ytdabgibmbmhmdaa
open Go.RowKit

set_option maxRecDepth 100000 in
set_option maxHeartbeats 16000000 in
theorem siftU {w0 : World} {L : List Ent} {g n cap : Nat} {d : List Int} (w : World) (lo hi f : Nat) (F : Fr w0 w (eU g n cap d :: L)) (hf : f + hi ≤ n) (hn : n ≤ 100000) (hlo : lo ≤ n) :
    Calls Try.prog 133 #[.slice (some ⟨g, 0, none⟩) n cap, .int .i64 lo, .int .i64 hi, .int .i64 f] w fun e w' => e = .returned (.tuple #[]) ∧ SrtU w0 L g n cap d w' := by
  have HF := Lib.hid F
  have HP := Lib.hid (List.Perm.refl d)
  clear F
  go_enter Try.func133, Try.ntmps133
  go_wp2_with fail
  go_loopw [8] (fun i wr => ∃ (r : Nat) (D : List Int), i = .int .i64 r ∧ r ≤ n ∧ Hid (D.Perm d) ∧ Hid (Fr w0 wr (eU g n cap D :: L))) (fun i _ => (n + 1 - intOf i).toNat)
  case atStart => exact ⟨lo, d, rfl, hlo, HP, HF⟩
  case round =>
    obtain ⟨r, D, rfl, k1, HPD, HFD⟩ := hrel
    clear HP HF
    by_cases hend : hi ≤ 2 * r + 1
    · have e1 : decide ((hi : Int) ≤ 2 * (r : Int) + 1) = true := decide_eq_true (by omega)
      go_wp2_with fail
      go_end0
      exact ⟨rfl, D, HPD.out, HFD.out⟩
    have e1 : decide ((hi : Int) ≤ 2 * (r : Int) + 1) = false := decide_eq_false (by omega)
    obtain ⟨ch, hch⟩ : ∃ ch : Nat, 2 * r + 1 = ch := ⟨_, rfl⟩
    have hci : 2 * (r : Int) + 1 = (ch : Int) := by omega
    have hcn : ch < hi := by omega
    have hcr : r < ch := by omega
    have e2 : decide (hi ≤ ch) = false := decide_eq_false (by omega)
    have e3 : decide ((hi : Int) ≤ (ch : Int)) = false := decide_eq_false (by omega)
    go_wp2_with fail
    try rw [hci]
    clear e1 e2 e3 hend hci
    go_upto_region 3 with (fail)
    go_cut [36] from 17 to 75 (fun s wc => ∃ C : Bool, s = .bool C ∧ Hid (C = true → ch + 1 < hi) ∧ Hid (Fr w0 wc (eU g n cap D :: L)))
    case first =>
      by_cases hcond : ch + 1 < hi
      · obtain ⟨c1, z1⟩ := HFD.out.openU (f + ch) (by omega)
        obtain ⟨c2, z2⟩ := HFD.out.openU (f + ch + 1) (by omega)
        obtain ⟨x, hx⟩ : ∃ x, nth D (f + ch) = x := ⟨_, rfl⟩
        obtain ⟨y, hy⟩ : ∃ y, nth D (f + ch + 1) = y := ⟨_, rfl⟩
        rw [hx] at c1
        rw [hy] at c2
        clear hx hy z1 z2
        obtain ⟨c, hc⟩ : ∃ c, decide (x < y) = c := ⟨_, rfl⟩
        have r0 : (0 : Int) ≤ (f : Int) + (ch : Int) := by omega
        have s0 : (f : Int) + (ch : Int) < (n : Int) := by omega
        have r1 : (0 : Int) ≤ (f : Int) + (ch : Int) + 1 := by omega
        have s1 : (f : Int) + (ch : Int) + 1 < (n : Int) := by omega
        have t0 : ((f : Int) + (ch : Int)).toNat = f + ch := by omega
        have t1 : ((f : Int) + (ch : Int) + 1).toNat = f + ch + 1 := by omega
        have v0 : IntKind.i64.wrap ((f : Int) + (ch : Int)) = (f : Int) + (ch : Int) := IntWalk.i64_in _ (by omega)
        have v1 : IntKind.i64.wrap ((f : Int) + (ch : Int) + 1) = (f : Int) + (ch : Int) + 1 := IntWalk.i64_in _ (by omega)
        have v2 : IntKind.i64.wrap ((ch : Int) + 1) = (ch : Int) + 1 := IntWalk.i64_in _ (by omega)
        have d5 : decide ((ch : Int) + 1 < (hi : Int)) = true := decide_eq_true (by omega)
        go_wp2_with fail
        go_quiet ((go_at_call 107; exact Calls.quiet_of_same ((lessU _ _ _).mono fun _ _ ⟨a, b⟩ => ⟨a, b.symm⟩)))
        try rw [hc]
        go_wp2_with fail
        go_meet
        first | exact ⟨_, rfl, Lib.hid (fun _ => hcond), Lib.hid (HFD.out.drewN _)⟩ | exact ⟨Lib.hid (fun _ => hcond), Lib.hid (HFD.out.drewN _)⟩
      · have d5 : decide ((ch : Int) + 1 < (hi : Int)) = false := decide_eq_false (by omega)
        have v2 : IntKind.i64.wrap ((ch : Int) + 1) = (ch : Int) + 1 := IntWalk.i64_in _ (by omega)
        go_wp2_with fail
        go_quiet (fail)
        go_wp2_with fail
        go_meet
        first | exact ⟨false, rfl, Lib.hid (fun h => absurd h (by decide)), Lib.hid (HFD.out.drewN _)⟩ | exact ⟨Lib.hid (fun h => absurd h (by decide)), Lib.hid (HFD.out.drewN _)⟩
    case rest =>
    obtain ⟨C, rfl, HC3, HF3⟩ := hcut
    go_upto_if 36 with (fail)
    go_cut [9] from 36 to 75 (fun s wc => ∃ q : Nat, s = .int .i64 q ∧ r < q ∧ q < hi ∧ Hid (Fr w0 wc (eU g n cap D :: L)))
    case first =>
      cases C with
      | true =>
        have hcond := HC3.out rfl
        go_wp2_with fail
        go_meet
        exact ⟨ch + 1, by go_num, by omega, hcond, HF3⟩
      | false =>
        go_wp2_with fail
        go_meet
        exact ⟨ch, rfl, hcr, hcn, HF3⟩
    case rest =>
    obtain ⟨q, rfl, hrq, hqh, HF4⟩ := hcut
    clear HC3 HF3 HFD hch hcn hcr
    have hl := HF4.out.lenU
    obtain ⟨c1, z1⟩ := HF4.out.openU (f + r) (by omega)
    obtain ⟨c2, z2⟩ := HF4.out.openU (f + q) (by omega)
    obtain ⟨x, hx⟩ : ∃ x, nth D (f + r) = x := ⟨_, rfl⟩
    obtain ⟨y, hy⟩ : ∃ y, nth D (f + q) = y := ⟨_, rfl⟩
    have HX := Lib.hid hx; have HY := Lib.hid hy
    have HP5 := Lib.hid ((swU_perm D (f + r) (f + q) (by omega) (by omega)).trans HPD.out)
    rw [hx] at c1
    rw [hy] at c2
    clear hx hy
    obtain ⟨c, hc⟩ : ∃ c, decide (x < y) = c := ⟨_, rfl⟩
    have r0 : (0 : Int) ≤ (f : Int) + (r : Int) := by omega
    have s0 : (f : Int) + (r : Int) < (n : Int) := by omega
    have r1 : (0 : Int) ≤ (f : Int) + (q : Int) := by omega
    have s1 : (f : Int) + (q : Int) < (n : Int) := by omega
    have t0 : ((f : Int) + (r : Int)).toNat = f + r := by omega
    have t1 : ((f : Int) + (q : Int)).toNat = f + q := by omega
    have v0 : IntKind.i64.wrap ((f : Int) + (r : Int)) = (f : Int) + (r : Int) := IntWalk.i64_in _ (by omega)
    have v1 : IntKind.i64.wrap ((f : Int) + (q : Int)) = (f : Int) + (q : Int) := IntWalk.i64_in _ (by omega)
    go_wp2_with fail
    go_quiet ((go_at_call 107; exact Calls.quiet_of_same ((lessU _ _ _).mono fun _ _ ⟨a, b⟩ => ⟨a, b.symm⟩)))
    try rw [hc]
    cases c with
    | true =>
      go_wp2_with fail
      go_region
      go_wp2_with fail
      go_roundw
      case rel => exact ⟨q, _, rfl, by omega, HP5, Lib.hid ((HF4.out.drewN _).swU (f + r) (f + q) x y HX.out HY.out)⟩
      case measure => simp only [intOf]; omega
    | false =>
      go_wp2_with fail
      (try simp only [Exit.inBlock, Exit.then])
      refine bodyPost_ret (v := .tuple #[]) ?_ rfl ?_
      · simp [results, Try.results133, go_sem]
      exact ⟨rfl, D, HPD.out, HF4.out.drewN _⟩
set_option maxRecDepth 100000 in
set_option maxHeartbeats 16000000 in
theorem heapU {w0 : World} {L : List Ent} {g n cap : Nat} {d : List Int} (w : World) (a b : Nat) (F : Fr w0 w (eU g n cap d :: L)) (hab : a < b) (hb : b ≤ n) (hn : n ≤ 100000) :
    Calls Try.prog 102 #[.slice (some ⟨g, 0, none⟩) n cap, .int .i64 a, .int .i64 b] w fun e w' => e = .returned (.tuple #[]) ∧ SrtU w0 L g n cap d w' := by
  have HF := Lib.hid F
  have HP := Lib.hid (List.Perm.refl d)
  clear F
  obtain ⟨H, hH⟩ : ∃ H : Nat, (b : Int) - (a : Int) = H := ⟨b - a, by omega⟩
  obtain ⟨K, hK⟩ : ∃ K : Nat, (H : Int) - 1 = K := ⟨H - 1, by omega⟩
  obtain ⟨M, hM⟩ : ∃ M : Nat, (K : Int) / 2 = M := ⟨K / 2, by omega⟩
  have hHn : a + H ≤ n := by omega
  have hMn : M ≤ H := by omega
  have hKH : K < H := by omega
  go_enter Try.func102, Try.ntmps102
  go_wp2_with fail
  clear hM
  go_loopw [9] (fun i wr => ∃ (v : Int) (D : List Int), i = .int .i64 v ∧ -1 ≤ v ∧ v ≤ H ∧ Hid (D.Perm d) ∧ Hid (Fr w0 wr (eU g n cap D :: L))) (fun i _ => (intOf i + 1).toNat)
  case atStart => exact ⟨M, d, rfl, by omega, by omega, HP, HF⟩
  case round =>
    obtain ⟨v, D, rfl, k1, k2, HPD, HFD⟩ := hrel
    clear HP HF
    by_cases hv : 0 ≤ v
    · obtain ⟨t, rfl⟩ : ∃ t : Nat, v = t := ⟨v.toNat, by omega⟩
      have hsif := Lib.hid (fun W (FW : Fr w0 W (eU g n cap D :: L)) => siftU W t H a FW (by omega) hn (by omega))
      clear hK
      go_wp2_with fail
      refine (hsif.out _ HFD.out).mono ?_; rintro e w2 ⟨rfl, D2, hp2, hf2⟩
      have HP2 := Lib.hid (hp2.trans HPD.out); have HF2 := Lib.hid hf2
      clear hp2 hf2 HPD HFD hsif
      go_wp2_with fail
      go_roundw
      case rel => exact ⟨(t : Int) - 1, D2, rfl, by omega, by omega, HP2, HF2⟩
      case measure => simp only [intOf]; omega
    · go_wp2_with fail
      go_loopw [10] (fun i wr => ∃ (v : Int) (D : List Int), i = .int .i64 v ∧ -1 ≤ v ∧ v < H ∧ Hid (D.Perm d) ∧ Hid (Fr w0 wr (eU g n cap D :: L))) (fun i _ => (intOf i + 1).toNat)
      case atStart => exact ⟨K, D, rfl, by omega, by omega, HPD, HFD⟩
      case round =>
        obtain ⟨v2, D2, rfl, j1, j2, HP2, HF2⟩ := hrel
        clear HPD HFD hK hv
        by_cases hv : 0 ≤ v2
        · obtain ⟨t, rfl⟩ : ∃ t : Nat, v2 = t := ⟨v2.toNat, by omega⟩
          have v0 : IntKind.i64.wrap ((a : Int) + (t : Int)) = (a : Int) + (t : Int) := IntWalk.i64_in _ (by omega)
          have q0 : (0 : Int) ≤ (a : Int) + (t : Int) := by omega
          have q1 : (a : Int) + (t : Int) < (n : Int) := by omega
          have q2 : ((a : Int) + (t : Int)).toNat = a + t := by omega
          have q3 : (0 : Int) ≤ (a : Int) := by omega
          have q4 : (a : Int) < (n : Int) := by omega
          have hl := HF2.out.lenU
          obtain ⟨c1, z1⟩ := HF2.out.openU a (by omega)
          obtain ⟨c2, z2⟩ := HF2.out.openU (a + t) (by omega)
          obtain ⟨x, hx⟩ : ∃ x, nth D2 a = x := ⟨_, rfl⟩
          obtain ⟨y, hy⟩ : ∃ y, nth D2 (a + t) = y := ⟨_, rfl⟩
          have HF6 := Lib.hid ((HF2.out.swU a (a + t) x y hx hy).drew)
          have HP6 := Lib.hid ((swU_perm D2 a (a + t) (by omega) (by omega)).trans HP2.out)
          obtain ⟨c3, z3⟩ := (HF2.out.setU a y).openU (a + t) (by omega)
          obtain ⟨u, hu⟩ : ∃ u, nth (D2.set a y) (a + t) = u := ⟨_, rfl⟩
          rw [hx] at c1
          rw [hy] at c2
          rw [hu] at c3
          clear hx hy hu
          go_wp2_with fail
          go_region
          clear c1 c2 c3 z1 z2 z3 hl
          generalize swU D2 a (a + t) = D6 at HF6 HP6
          clear v0 q0 q1 q2 q3 q4
          have hsif := Lib.hid (fun W (FW : Fr w0 W (eU g n cap D6 :: L)) => siftU W 0 t a FW (by omega) hn (by omega))
          go_wp2_with fail
          refine (hsif.out _ HF6.out).mono ?_; rintro e w7 ⟨rfl, D7, hp7, hf7⟩
          have HP7 := Lib.hid (hp7.trans HP6.out); have HF7 := Lib.hid hf7
          clear hp7 hf7 hsif
          go_wp2_with fail
          go_roundw
          case rel => exact ⟨(t : Int) - 1, D7, rfl, by omega, by omega, HP7, HF7⟩
          case measure => simp only [intOf]; omega
        · go_wp2_with fail
          go_end0
          exact ⟨rfl, D2, HP2.out, HF2.out⟩
end Go.Proofs.Ytdabgibmbmhmdaa
