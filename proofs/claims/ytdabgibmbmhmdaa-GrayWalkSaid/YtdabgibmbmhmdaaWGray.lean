/- The walk of GrayWalk. -/
import Derived.Test.YtdabgibmbmhmdaaU16T
import Derived.Test.YtdabgibmbmhmdaaU16G
import Derived.Test.YtdabgibmbmhmdaaU16L
namespace Go.Proofs.Ytdabgibmbmhmdaa
open Go.RowKit

set_option maxRecDepth 100000 in
theorem grayWalk_no (n : Int) (w : World) (hn : n < 0 ∨ 10 < n) : Calls Try.prog 33 #[.int .i64 n] w fun e w' => e = .returned (.tuple #[.slice none 0 0, .int .i64 1]) ∧ w = w' := by
  by_cases h : n < 0
  · have d1 : decide (n < 0) = true := decide_eq_true h
    clear hn
    go_enter Try.func33, Try.ntmps33
    go_wp2_with fail
    go_ret2
    exact ⟨rfl, rfl⟩
  · have d1 : decide (n < 0) = false := decide_eq_false h
    have d2 : decide (10 < n) = true := decide_eq_true (by omega)
    clear hn
    go_enter Try.func33, Try.ntmps33
    go_wp2_with fail
    go_ret2
    exact ⟨rfl, rfl⟩
theorem shl64g : ∀ j : Nat, j < 16 → IntKind.i64.wrap (2 ^ j) = ((2 ^ j : Nat) : Int) := by decide
theorem pow10 : ∀ j : Nat, j ≤ 10 → 2 ^ j ≤ 1024 := by decide
set_option maxRecDepth 100000 in
set_option maxHeartbeats 16000000 in
theorem grayWalkLaw (a0 : Int) (w : World) : Calls Try.prog 8 #[.int .i64 a0] w fun e w' => e = .returned (.bool true) ∧ Below w.heap.size w w' := by
  by_cases hno : a0 < 0 ∨ 10 < a0
  · have hw := Lib.hid (grayWalk_no a0 w hno)
    clear hno
    have HF := Lib.hid (Fr.start w)
    go_enter Try.func8, Try.ntmps8
    go_wp2_with fail
    refine (grays_any w).mono ?_; rintro e w' ⟨rfl, rfl⟩
    go_wp2_with fail
    refine hw.out.mono ?_; rintro e w' ⟨rfl, rfl⟩
    go_wp2_with fail
    go_ret
    exact ⟨rfl, HF.out.bel⟩
  · obtain ⟨n, rfl⟩ : ∃ n : Nat, a0 = n := ⟨a0.toNat, by omega⟩
    have hn : n ≤ 10 := by omega
    clear hno
    have hw := Lib.hid (grayWalk_any n w hn)
    have hshl := shl64g n (by omega)
    have hP10 := pow10 n hn
    have hP1 := Nat.two_pow_pos n
    have HLEN := Lib.hid (grI_len n)
    have HAT := Lib.hid (fun i hi => grI_at n i hn hi)
    have HRING := Lib.hid (fun h1 i hi => gray_ring n hn h1 i hi)
    have HND := Lib.hid (grI_nodup n)
    have HMAX := Lib.hid (fun x h => grI_max (x := x) hn h)
    rw [hws_uV] at hw
    have hP2 : 1 < 2 ^ n → 1 ≤ n := fun h => by
      rcases Nat.eq_zero_or_pos n with h0 | h0
      · rw [h0] at h; simp at h
      · exact h0
    have HX16 : Hid (∀ i, i < 2 ^ n → i ^^^ i / 2 < 65536) := Lib.hid fun i hi => of_lt i (by omega)
    obtain ⟨P, hP⟩ : ∃ P, 2 ^ n = P := ⟨_, rfl⟩
    rw [hP] at hw hshl hP10 hP1 HLEN HAT HRING HMAX hP2 HX16
    clear hP
    have HP2 := Lib.hid hP2
    clear hP2
    go_enter Try.func8, Try.ntmps8
    go_wp2_with fail
    refine (grays_any w).mono ?_; rintro e w' ⟨rfl, rfl⟩
    go_wp2_with fail
    refine hw.out.mono ?_; rintro e w1 ⟨ad, cp, rfl, hf⟩
    obtain ⟨g, rfl⟩ : ∃ g, ad = some ⟨g, 0, none⟩ := by
      obtain ⟨g, e, _⟩ := hf.open (by rw [uV_len, HLEN.out]; exact hP1)
      exact ⟨g, e⟩
    have HF := Lib.hid (show Fr w w1 [eU g P cp (grI n)] from hf)
    clear hf hw
    have gP : ((P : Int) == (P : Int)) = true := beq_self_eq_true _
    go_wp2_with fail
    clear hshl
    go_loopw [28] (fun s wr => ∃ i : Nat, s = .int .i64 i ∧ i ≤ P ∧ Hid (Fr w wr [eU g P cp (grI n)])) (fun s _ => (P - intOf s).toNat)
    case atStart => exact ⟨0, rfl, by omega, HF⟩
    case round =>
      obtain ⟨i, rfl, k1, HF2⟩ := hrel
      clear HF
      by_cases hlt : i < P
      · obtain ⟨j, hj⟩ : ∃ j : Nat, (i + 1) % P = j := ⟨_, rfl⟩
        have hjP : j < P := by rw [← hj]; exact Nat.mod_lt _ hP1
        have hji : ((i : Int) + 1) % (P : Int) = (j : Int) := by
          have e : ((i + 1 : Nat) : Int) = (i : Int) + 1 := by omega
          rw [← hj, ← e]
          exact (Int.natCast_emod _ _).symm
        obtain ⟨c1, z1⟩ := HF2.out.openU i hlt
        obtain ⟨c2, z2⟩ := HF2.out.openU j hjP
        rw [HAT.out i hlt] at c1
        rw [HAT.out j hjP] at c2
        have hr := Lib.hid (fun h => by have := HRING.out (HP2.out h) i hlt; rwa [hj] at this)
        obtain ⟨x, hx⟩ : ∃ x, i ^^^ i / 2 = x := ⟨_, rfl⟩
        obtain ⟨y, hy⟩ : ∃ y, j ^^^ j / 2 = y := ⟨_, rfl⟩
        have hx16 := HX16.out i hlt
        have hy16 := HX16.out j hjP
        rw [hx] at c1 hr hx16
        rw [hy] at c2 hr hy16
        have hxy := u16xor x y hx16 hy16
        have hz16 : x ^^^ y < 65536 := Nat.xor_lt_two_pow (n := 16) hx16 hy16
        obtain ⟨z, hz⟩ : ∃ z, x ^^^ y = z := ⟨_, rfl⟩
        rw [hz] at hxy hr hz16
        clear hx hy hz z1 z2 hj
        by_cases h1 : 1 < P
        · have hs := Lib.hid (fun W => Size_nat z W hz16)
          rw [hr.out h1] at hs
          have d1 : decide ((1 : Int) < (P : Int)) = true := decide_eq_true (by omega)
          have d2 : decide (1 < P) = true := decide_eq_true h1
          have r0 : (0 : Int) ≤ (j : Int) := by omega
          have s0 : (j : Int) < (P : Int) := by omega
          go_wp2_with fail
          refine (hs.out _).mono ?_; rintro e w' ⟨rfl, rfl⟩
          go_wp2_with fail
          go_roundw
          case rel => exact ⟨i + 1, by go_num, by omega, HF2⟩
          case measure => simp only [intOf]; omega
        · have d1 : decide ((1 : Int) < (P : Int)) = false := decide_eq_false (by omega)
          have d2 : decide (1 < P) = false := decide_eq_false h1
          have r0 : (0 : Int) ≤ (j : Int) := by omega
          have s0 : (j : Int) < (P : Int) := by omega
          go_wp2_with fail
          go_roundw
          case rel => exact ⟨i + 1, by go_num, by omega, HF2⟩
          case measure => simp only [intOf]; omega
      · have HSA := Lib.hid (show Sa wr (some ⟨g, 0, none⟩) (uV (grI n)) from HF2.out.get 0 rfl)
        go_wp2_with fail
        refine (clnU (grI n) P ⟨g, 0, none⟩ cp _ HSA.out HLEN.out (by omega)).mono ?_; rintro e w2 ⟨ad2, cp2, rfl, hf2⟩
        obtain ⟨g2, rfl⟩ : ∃ g2, ad2 = some ⟨g2, 0, none⟩ := by
          obtain ⟨g2, e, _⟩ := hf2.open (by rw [uV_len, HLEN.out]; exact hP1)
          exact ⟨g2, e⟩
        have HF3 := Lib.hid (show Fr w w2 [eU g2 P cp2 (grI n), eU g P cp (grI n)] from HF2.out.call hf2)
        clear hf2 HF2 HSA
        go_wp2_with fail
        refine (srtU _ HF3.out (by omega)).mono ?_; rintro e w3 ⟨rfl, D, hp, hf3⟩
        have HP := Lib.hid hp; have HF4 := Lib.hid hf3
        clear hp hf3 HF3
        have hcmp := Lib.hid (compU _ HF4.out (fun k hk => perm_apart HP.out HND.out k (by rw [HP.out.length_eq, HLEN.out]; exact hk)) (by omega))
        go_wp2_with fail
        refine hcmp.out.mono ?_; rintro e w4 ⟨rfl, hf4⟩
        have HF5 := Lib.hid (hf4.swap)
        clear hf4 hcmp HF4
        have hmax := Lib.hid (maxU (grI n) P g 0 cp w4 (fun i hi => by rw [Nat.zero_add]; exact (HF5.out.openU i hi).1) HLEN.out hP1 (by omega))
        obtain ⟨Q, hQ⟩ : ∃ Q : Nat, (P : Int) - 1 = Q := ⟨P - 1, by omega⟩
        have w16 : IntKind.u16.wrap (Q : Int) = (Q : Int) := by rw [IntKind.wrap_u16]; omega
        go_wp2_with fail
        refine hmax.out.mono ?_; rintro e w5 ⟨⟨x, rfl, hx⟩, rfl⟩
        have hxe : x = (Q : Int) := by have := HMAX.out x hx; omega
        subst hxe
        have gQ : ((Q : Int) == (Q : Int)) = true := beq_self_eq_true _
        have HB := Lib.hid HF5.out.bel
        clear hx hmax HF5
        go_wp2_with fail
        go_ret
        exact ⟨by first | rfl | simp, HB.out⟩
end Go.Proofs.Ytdabgibmbmhmdaa
