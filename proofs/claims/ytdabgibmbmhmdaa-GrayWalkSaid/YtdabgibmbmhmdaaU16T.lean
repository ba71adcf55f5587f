/- pdqsortOrdered and slices.Sort of own slices of uint16: what comes out is a permutation. -/
import Derived.Test.YtdabgibmbmhmdaaU16P
import Derived.Test.YtdabgibmbmhmdaaU16Q
import Derived.Test.YtdabgibmbmhmdaaU16H
import Derived.Test.YtdabgibmbmhmdaaU16I
import Derived.Test.YtdabgibmbmhmdaaU16C
import Derived.Test.YtdabgibmbmhmdaaU16B
namespace Go.Proofs.Ytdabgibmbmhmdaa
open Go.RowKit

def PdqU (k : Nat) : Prop := ∀ (w0 : World) (L : List Ent) (g n cap : Nat) (d : List Int) (w : World) (a b : Nat) (l : Int), b - a = k → a ≤ b → b ≤ n → n ≤ 100000 → 0 ≤ l → l ≤ 1000 → Fr w0 w (eU g n cap d :: L) →
    Calls Try.prog 83 #[.slice (some ⟨g, 0, none⟩) n cap, .int .i64 a, .int .i64 b, .int .i64 l] w fun e w' => e = .returned (.tuple #[]) ∧ SrtU w0 L g n cap d w'
set_option maxRecDepth 100000 in
set_option maxHeartbeats 32000000 in
theorem pdqU_step (k0 : Nat) (ih : ∀ m, m < k0 → PdqU m) : PdqU k0 := by
  intro w0 L g n cap d w a0 b0 l0 hk hab hb hn hl hl2 F
  have HF := Lib.hid F
  have HP := Lib.hid (List.Perm.refl d)
  have IH := Lib.hid ih
  clear F ih
  go_enter Try.func83, Try.ntmps83
  go_wp2_with fail
  go_loopw [1, 2, 3, 8, 9] (fun s1 s2 s3 s8 s9 wr => ∃ (A B : Nat) (l : Int) (wb wp : Bool) (D : List Int), s1 = .int .i64 A ∧ s2 = .int .i64 B ∧ s3 = .int .i64 l ∧ s8 = .bool wb ∧ s9 = .bool wp ∧ a0 ≤ A ∧ A ≤ B ∧ B ≤ b0 ∧ 0 ≤ l ∧ l ≤ 1000 ∧ Hid (D.Perm d) ∧ Hid (Fr w0 wr (eU g n cap D :: L))) (fun s1 s2 _ _ _ _ => (intOf s2 - intOf s1).toNat)
  case atStart => exact ⟨a0, b0, l0, true, true, d, rfl, rfl, rfl, rfl, rfl, by omega, by omega, by omega, hl, hl2, HP, HF⟩
  case round =>
    obtain ⟨A, B, l, wb, wp, D, rfl, rfl, rfl, rfl, rfl, k1, k2, k3, k4, k5, HPD, HFD⟩ := hrel
    clear HP HF
    obtain ⟨H, hH⟩ : ∃ H : Nat, (B : Int) - (A : Int) = H := ⟨B - A, by omega⟩
    by_cases h12 : H ≤ 12
    · have d1 : decide ((H : Int) ≤ 12) = true := decide_eq_true (by omega)
      have hins := Lib.hid (insU _ A B HFD.out k2 (by omega) hn)
      go_wp2_with fail
      refine hins.out.mono ?_; rintro e w1 ⟨rfl, D2, hp2, hf2⟩
      have HR := Lib.hid (show SrtU w0 L g n cap d w1 from ⟨D2, hp2.trans HPD.out, hf2⟩)
      clear hp2 hf2 hins HFD
      go_wp2_with fail
      (try simp only [Exit.inBlock, Exit.then])
      refine bodyPost_ret (v := .tuple #[]) ?_ rfl ?_
      · simp [results, Try.results83, go_sem]
      exact ⟨rfl, HR.out⟩
    have d1 : decide ((H : Int) ≤ 12) = false := decide_eq_false (by omega)
    by_cases hl0 : l = 0
    · subst hl0
      have hheap := Lib.hid (heapU _ A B HFD.out (by omega) (by omega) hn)
      go_wp2_with fail
      refine hheap.out.mono ?_; rintro e w1 ⟨rfl, D2, hp2, hf2⟩
      have HR := Lib.hid (show SrtU w0 L g n cap d w1 from ⟨D2, hp2.trans HPD.out, hf2⟩)
      clear hp2 hf2 hheap HFD
      go_wp2_with fail
      (try simp only [Exit.inBlock, Exit.then])
      refine bodyPost_ret (v := .tuple #[]) ?_ rfl ?_
      · simp [results, Try.results83, go_sem]
      exact ⟨rfl, HR.out⟩
    have d2 : (l == 0) = false := by rw [beq_eq_false_iff_ne]; exact hl0
    go_upto_if 35 with (fail)
    go_cut [3] from 34 to 133 (fun s wc => ∃ (l' : Int) (D' : List Int), s = .int .i64 l' ∧ 0 ≤ l' ∧ l' ≤ 1000 ∧ Hid (D'.Perm d) ∧ Hid (Fr w0 wc (eU g n cap D' :: L)))
    case first =>
      cases wb with
      | true =>
        go_wp2_with fail
        go_meet
        exact ⟨l, D, rfl, k4, k5, HPD, HFD⟩
      | false =>
        have hbrk := Lib.hid (brkU _ A B HFD.out (by omega) (by omega) hn)
        go_wp2_with fail
        refine hbrk.out.mono ?_; rintro e w1 ⟨rfl, D2, hp2, hf2⟩
        have HP2 := Lib.hid (hp2.trans HPD.out); have HF2 := Lib.hid hf2
        clear hp2 hf2 hbrk HFD
        go_wp2_with fail
        go_meet
        exact ⟨l - 1, D2, rfl, by omega, by omega, HP2, HF2⟩
    case rest =>
    obtain ⟨l1, D1, rfl, l1a, l1b, HP1, HF1⟩ := hcut
    clear HPD HFD
    go_wp2_with fail
    refine (pivU _ A B HF1.out (by omega) (by omega) hn).mono ?_; rintro e w1 ⟨⟨m, h, rfl, ma, mb⟩, hf⟩
    have HF2 := Lib.hid hf
    clear hf HF1
    go_upto_if 50 with (fail)
    go_cut [11, 12] from 49 to 133 (fun s11 s12 wc => ∃ (m' : Nat) (h' : Int) (D' : List Int), s11 = .int .i64 m' ∧ s12 = .int .i64 h' ∧ A ≤ m' ∧ m' < B ∧ Hid (D'.Perm d) ∧ Hid (Fr w0 wc (eU g n cap D' :: L)))
    case first =>
      by_cases h2 : h = 2
      · subst h2
        have hrev := Lib.hid (revU _ A B HF2.out k2 (by omega) hn)
        obtain ⟨u, hu⟩ : ∃ u : Nat, (m : Int) - (A : Int) = u := ⟨m - A, by omega⟩
        obtain ⟨v, hv⟩ : ∃ v : Nat, (B : Int) - 1 = v := ⟨B - 1, by omega⟩
        obtain ⟨x, hx⟩ : ∃ x : Nat, (v : Int) - (u : Int) = x := ⟨v - u, by omega⟩
        go_wp2_with fail
        refine hrev.out.mono ?_; rintro e w2 ⟨rfl, D2, hp2, hf2⟩
        have HP3 := Lib.hid (hp2.trans HP1.out); have HF3 := Lib.hid hf2
        clear hp2 hf2 hrev HF2
        go_wp2_with fail
        go_meet
        exact ⟨x, 1, D2, rfl, rfl, by omega, by omega, HP3, HF3⟩
      · have e2 : (h == 2) = false := by rw [beq_eq_false_iff_ne]; exact h2
        go_wp2_with fail
        go_meet
        exact ⟨m, h, D1, rfl, rfl, ma, mb, HP1, HF2⟩
    case rest =>
    obtain ⟨m, h, D2, rfl, rfl, ma, mb, HP2, HF3⟩ := hcut
    clear HP1 HF2
    go_upto_region 15 with (fail)
    go_cut [68] from 61 to 133 (fun s wc => ∃ C : Bool, s = .bool C ∧ Hid (Fr w0 wc (eU g n cap D2 :: L)))
    case first =>
      cases wb <;> cases wp <;> by_cases h1 : h = 1
      all_goals first | (have e1 : (h == 1) = true := by rw [beq_iff_eq]; exact h1) | (have e1 : (h == 1) = false := by rw [beq_eq_false_iff_ne]; exact h1)
      all_goals go_wp2_with fail
      all_goals go_meet
      all_goals first | exact ⟨_, rfl, HF3⟩ | exact HF3
    case rest =>
    obtain ⟨C, rfl, HF4⟩ := hcut
    clear HF3
    go_upto_if 68 with (fail)
    go_cut [12] from 68 to 133 (fun _ wc => ∃ D' : List Int, Hid (D'.Perm d) ∧ Hid (Fr w0 wc (eU g n cap D' :: L)))
    case first =>
      cases C with
      | true =>
        have hpin := Lib.hid (pinsU _ A B HF4.out (by omega) (by omega) hn)
        go_wp2_with fail
        refine hpin.out.mono ?_; rintro e w2 ⟨⟨c, rfl⟩, D3, hp3, hf3⟩
        have HP3 := Lib.hid (hp3.trans HP2.out); have HF5 := Lib.hid hf3
        have HR := Lib.hid (show SrtU w0 L g n cap d w2 from ⟨D3, HP3.out, hf3⟩)
        clear hp3 hf3 hpin HF4
        cases c with
        | true =>
          go_wp2_with fail
          (try simp only [Exit.inBlock, Exit.then])
          refine bodyPost_ret (v := .tuple #[]) ?_ rfl ?_
          · simp [results, Try.results83, go_sem]
          exact ⟨rfl, HR.out⟩
        | false =>
          go_wp2_with fail
          go_meet
          exact ⟨D3, HP3, HF5⟩
      | false =>
        go_wp2_with fail
        go_meet
        exact ⟨D2, HP2, HF4⟩
    case rest =>
    obtain ⟨D3, HP3, HF5⟩ := hcut
    clear HP2 HF4
    go_upto_region 17 with (fail)
    go_cut [87] from 73 to 133 (fun s wc => ∃ C : Bool, s = .bool C ∧ Hid (Fr w0 wc (eU g n cap D3 :: L)))
    case first =>
      by_cases hA : 0 < A
      · obtain ⟨t, ht⟩ : ∃ t : Nat, (A : Int) - 1 = t := ⟨A - 1, by omega⟩
        have d3 : decide ((0 : Int) < (A : Int)) = true := decide_eq_true (by omega)
        have d4 : decide (0 < A) = true := decide_eq_true hA
        obtain ⟨c1, z1⟩ := HF5.out.openU t (by omega)
        obtain ⟨c2, z2⟩ := HF5.out.openU m (by omega)
        obtain ⟨x, hx⟩ : ∃ x, nth D3 t = x := ⟨_, rfl⟩
        obtain ⟨y, hy⟩ : ∃ y, nth D3 m = y := ⟨_, rfl⟩
        rw [hx] at c1
        rw [hy] at c2
        clear hx hy z1 z2
        have r0 : (0 : Int) ≤ (t : Int) := by omega
        have s0 : (t : Int) < (n : Int) := by omega
        have r1 : (0 : Int) ≤ (m : Int) := by omega
        have s1 : (m : Int) < (n : Int) := by omega
        go_wp2_with fail
        go_quiet ((go_at_call 107; exact Calls.quiet_of_same ((lessU _ _ _).mono fun _ _ ⟨a, b⟩ => ⟨a, b.symm⟩)))
        go_wp2_with fail
        go_meet
        first | exact ⟨_, rfl, Lib.hid (HF5.out.drewN _)⟩ | exact Lib.hid (HF5.out.drewN _)
      · have d3 : decide ((0 : Int) < (A : Int)) = false := decide_eq_false (by omega)
        have d4 : decide (0 < A) = false := decide_eq_false hA
        go_wp2_with fail
        go_quiet (fail)
        go_wp2_with fail
        go_meet
        first | exact ⟨_, rfl, Lib.hid (HF5.out.drewN _)⟩ | exact Lib.hid (HF5.out.drewN _)
    case rest =>
    obtain ⟨C, rfl, HF6⟩ := hcut
    clear HF5
    cases C with
    | true =>
      have hpe := Lib.hid (partEqU _ A B m HF6.out (by omega) (by omega) hn mb)
      go_wp2_with fail
      refine hpe.out.mono ?_; rintro e w2 ⟨⟨q, qa, qb, rfl⟩, D4, hp4, hf4⟩
      have HP4 := Lib.hid (hp4.trans HP3.out); have HF7 := Lib.hid hf4
      clear hp4 hf4 hpe HF6
      go_wp2_with fail
      go_roundw
      case rel => exact ⟨q, B, l1, wb, wp, D4, rfl, rfl, rfl, rfl, rfl, by omega, by omega, by omega, l1a, l1b, HP4, HF7⟩
      case measure => simp only [intOf]; omega
    | false =>
      have hpa := Lib.hid (partU _ A B m HF6.out (by omega) (by omega) hn mb)
      go_wp2_with fail
      refine hpa.out.mono ?_; rintro e w2 ⟨⟨q, c, qa, qb, rfl⟩, D4, hp4, hf4⟩
      have HP4 := Lib.hid (hp4.trans HP3.out); have HF7 := Lib.hid hf4
      clear hp4 hf4 hpa HF6
      obtain ⟨x, hx⟩ : ∃ x : Nat, (q : Int) - (A : Int) = x := ⟨q - A, by omega⟩
      obtain ⟨y, hy⟩ : ∃ y : Nat, (B : Int) - (q : Int) = y := ⟨B - q, by omega⟩
      obtain ⟨z, hz⟩ : ∃ z : Nat, (H : Int) / 8 = z := ⟨H / 8, by omega⟩
      by_cases hxy : x < y
      · have d5 : decide (x < y) = true := decide_eq_true hxy
        have d6 : decide ((x : Int) < (y : Int)) = true := decide_eq_true (by omega)
        have hrec := Lib.hid (IH.out (q - A) (by omega) w0 L g n cap D4 w2 A q l1 rfl (by omega) (by omega) hn l1a l1b HF7.out)
        go_wp2_with fail
        refine hrec.out.mono ?_; rintro e w3 ⟨rfl, D5, hp5, hf5⟩
        have HP5 := Lib.hid (hp5.trans HP4.out); have HF8 := Lib.hid hf5
        clear hp5 hf5 hrec HF7
        go_wp2_with fail
        go_roundw
        case rel => exact ⟨q + 1, B, l1, _, c, D5, by go_num, rfl, rfl, rfl, rfl, by omega, by omega, by omega, l1a, l1b, HP5, HF8⟩
        case measure => simp only [intOf]; omega
      · have d5 : decide (x < y) = false := decide_eq_false hxy
        have d6 : decide ((x : Int) < (y : Int)) = false := decide_eq_false (by omega)
        obtain ⟨q1, hq1⟩ : ∃ q1 : Nat, (q : Int) + 1 = q1 := ⟨q + 1, by omega⟩
        have hrec := Lib.hid (IH.out (B - q1) (by omega) w0 L g n cap D4 w2 q1 B l1 rfl (by omega) (by omega) hn l1a l1b HF7.out)
        go_wp2_with fail
        refine hrec.out.mono ?_; rintro e w3 ⟨rfl, D5, hp5, hf5⟩
        have HP5 := Lib.hid (hp5.trans HP4.out); have HF8 := Lib.hid hf5
        clear hp5 hf5 hrec HF7
        go_wp2_with fail
        go_roundw
        case rel => exact ⟨A, q, l1, _, c, D5, rfl, rfl, rfl, rfl, rfl, by omega, by omega, by omega, l1a, l1b, HP5, HF8⟩
        case measure => simp only [intOf]; omega
theorem pdqU (k : Nat) : PdqU k := Nat.strongRecOn k pdqU_step
set_option maxRecDepth 100000 in
theorem srtU {w0 : World} {L : List Ent} {g n cap : Nat} {d : List Int} (w : World) (F : Fr w0 w (eU g n cap d :: L)) (hn : n ≤ 100000) :
    Calls Try.prog 39 #[.slice (some ⟨g, 0, none⟩) n cap] w fun e w' => e = .returned (.tuple #[]) ∧ SrtU w0 L g n cap d w' := by
  have w64 : IntKind.u64.wrap (n : Int) = (n : Int) := by rw [IntKind.wrap_u64]; omega
  have hlen := Lib.hid (Try.bits_Len (n : Int) w (by omega) (by omega))
  have hbl : Lib.bitLen (n : Int).toNat ≤ 1000 := by
    rw [Int.toNat_natCast, bitLen_eq _ (by omega)]
    exact Nat.le_trans ((Sort.bitsLen_le_iff n 17).2 (by omega)) (by omega)
  obtain ⟨q, hq⟩ : ∃ q, Lib.bitLen (n : Int).toNat = q := ⟨_, rfl⟩
  rw [hq] at hlen hbl
  clear hq
  have hpdq := Lib.hid (pdqU n w0 L g n cap d w 0 n q (by omega) (by omega) (Nat.le_refl _) hn (by omega) (by omega) F)
  clear F
  go_enter Try.func39, Try.ntmps39
  go_wp2_with fail
  refine hlen.out.mono ?_; rintro e w1 ⟨rfl, rfl⟩
  go_wp2_with fail
  refine hpdq.out.mono ?_; rintro e w2 ⟨rfl, hs⟩
  have HS := Lib.hid hs
  clear hs hpdq
  go_wp2_with fail
  go_end0
  exact ⟨rfl, HS.out⟩
end Go.Proofs.Ytdabgibmbmhmdaa
