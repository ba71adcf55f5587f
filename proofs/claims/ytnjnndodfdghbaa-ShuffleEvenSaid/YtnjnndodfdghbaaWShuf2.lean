/- The walk of the law ShuffleEven. -/
import Derived.Test.YtnjnndodfdghbaaWShuf1
import Derived.Test.YtnjnndodfdghbaaShufM
import Derived.Test.YtnjnndodfdghbaaSlMM
namespace Go.Proofs.Ytnjnndodfdghbaa
open Go.RowKit

theorem ones_max (l : List Int) (n : Nat) (h0 : 0 < n) (h : ∀ k, k < n → nth l k = 1) : maxK l n = 1 ∧ minK l n = 1 := by
  constructor
  · rcases maxK_at l n with e | ⟨j, h1, e⟩
    · rw [e, h 0 h0]
    · rw [e, h j h1]
  · rcases minK_at l n with e | ⟨j, h1, e⟩
    · rw [e, h 0 h0]
    · rw [e, h j h1]
theorem facN_5 : ∀ n, n ≤ 5 → facN n ≤ 120 := by decide

set_option maxRecDepth 100000 in
set_option maxHeartbeats 8000000 in
theorem shuffleEven_any (n0 : Int) (w : World) :
    Calls Try.prog 9 #[.int .i64 n0] w fun e w' => e = .returned (.bool true) ∧ Below w.heap.size w w' := by
  obtain ⟨n, hn, n5⟩ : ∃ n : Nat, n0 % 6 = n ∧ n ≤ 5 := ⟨(n0 % 6).toNat, by omega, by omega⟩
  have HN0 := Lib.hid hn
  clear hn
  go_enter Try.func9, Try.ntmps9
  go_wp2_with fail
  refine (deals_any _).mono ?_; rintro e w1 ⟨rfl, hb⟩
  have F1 := (Fr.start w).keep hb
  clear hb
  go_wp2_with fail
  refine (within_any _ _ _ (by omega) (by omega)).mono ?_; rintro e w' ⟨rfl, rfl⟩
  rw [HN0.out]
  go_wp2_with fail
  refine (rankCount n _ (by omega)).mono ?_; rintro e w' ⟨rfl, rfl⟩
  have f1 := facN_pos n
  have f2 := facN_5 n n5
  have hall := seen_all n n5
  have HBD := Lib.hid (fun x => kX_bd n x)
  have HSB := Lib.hid (fun x k => seenL_bd n x k)
  have HST := Lib.hid (fun x K => seenL_step n x K)
  have HSL := Lib.hid (fun x => seenL_len n x)
  have hz := seenL_zero n
  obtain ⟨N, hN⟩ : ∃ N, facN n = N := ⟨_, rfl⟩
  rw [hN] at f1 f2 hall hz ⊢
  have HN := Lib.hid hN
  have HALL := Lib.hid hall
  have hmk := make_ints N (by omega)
  have F2 := F1.makeInts N (by omega)
  rw [← hz] at F2
  clear hN hall hz
  go_wp2_with fail
  clear hmk F1
  go_loopw [27] (fun i wr => ∃ x : Nat, x ≤ N ∧ i = .int .i64 x ∧ Fr w wr [⟨3, .slice (some ⟨w1.heap.size, 0, none⟩) N N, ints (seenL n x)⟩]) (fun i _ => N - (intOf i).toNat)
  case atStart => exact ⟨0, by omega, rfl, F2⟩
  case round =>
    obtain ⟨x, hx, rfl, hfr⟩ := hrel
    clear F2
    by_cases hlt : x < N
    · have FA := Lib.hid hfr
      clear hfr
      go_wp2_with fail
      go_loopw [6, 7, 31] (fun y o i wr => ∃ (j : Nat) (ad : Option Addr) (cp : Nat), j ≤ n ∧ i = .int .i64 j ∧ y = .int .i64 ((x / facN j : Nat) : Int) ∧ o = .slice ad j cp ∧ Fr w wr [⟨3, .slice ad j cp, ints (lotsX x j)⟩, ⟨3, .slice (some ⟨w1.heap.size, 0, none⟩) N N, ints (seenL n x)⟩]) (fun _ _ i _ => n - (intOf i).toNat)
      case atStart => exact ⟨0, none, 0, by omega, rfl, by rw [facN, Nat.div_one], rfl, FA.out.nilSlice _⟩
      case round =>
        obtain ⟨j, ad, cp, hj, rfl, rfl, rfl, hfr⟩ := hrel
        clear FA
        by_cases hjn : j < n
        · have e1 : x / facN (j + 1) = x / facN j / (j + 1) := by rw [facN, Nat.mul_comm, Nat.div_div_eq_div_mul]
          have e2 := lotsX_succ x j
          have hy : x / facN j ≤ x := Nat.div_le_self _ _
          obtain ⟨y, hyy⟩ : ∃ y, x / facN j = y := ⟨_, rfl⟩
          rw [hyy] at e1 e2 hy ⊢
          have y120 : y ≤ 120 := by omega
          have HE1 := Lib.hid e1; have HE2 := Lib.hid e2
          have HF := Lib.hid hfr
          have q1 : (y : Int) % ((j : Int) + 1) = ((y % (j + 1) : Nat) : Int) := by simp
          have q2 : (y : Int) / ((j : Int) + 1) = ((y / (j + 1) : Nat) : Int) := by simp
          have hz1 : y % (j + 1) < j + 1 := Nat.mod_lt _ (by omega)
          have hz2 : y / (j + 1) ≤ y := Nat.div_le_self _ _
          obtain ⟨z1, hq1⟩ : ∃ z, y % (j + 1) = z := ⟨_, rfl⟩
          obtain ⟨z2, hq2⟩ : ∃ z, y / (j + 1) = z := ⟨_, rfl⟩
          rw [hq1] at q1 hz1
          rw [hq2] at q2 hz2
          have HQ1 := Lib.hid hq1; have HQ2 := Lib.hid hq2
          have q0 : ((j : Int) + 1 == 0) = false := by rw [beq_eq_false_iff_ne]; omega
          clear hyy e1 e2 hfr hq1 hq2 hy
          go_wp2_with (with_reducible refine at_slot 40 ?_; go_must (refine wpList_pushInt rfl _ _ rfl ad j cp _ (z1 : Int) _ rfl HF.out rfl ?_ ?_); rotate_left; intro ad' cp' w3 hf2 hlt2)
          · rw [← HQ1.out, ← HE2.out] at hf2
            go_roundw
            case rel => exact ⟨j + 1, ad', cp', by omega, by go_num, by rw [HE1.out, HQ2.out], rfl, hf2⟩
            case measure => simp only [intOf]; omega
          · omega
        · obtain rfl : j = n := by omega
          have hkb := HBD.out x
          rw [HN.out] at hkb
          obtain ⟨K, hK⟩ : ∃ K : Nat, kX j x = K := ⟨(kX j x).toNat, by omega⟩
          rw [hK] at hkb
          have HK := Lib.hid hK
          have hst := HST.out x K hK
          have hsb := HSB.out x K (by rw [HN.out]; omega)
          obtain ⟨u, hu⟩ : ∃ u, nth (seenL j x) K = u := ⟨_, rfl⟩
          rw [hu] at hst hsb
          obtain ⟨u1, u2⟩ := hsb
          have HU := Lib.hid hu; have HST2 := Lib.hid hst
          have DO := Lib.hid (dealL_ok _ (lotsX_ok x j))
          have KN : K < N := by omega
          clear hK hst hu hkb
          have HF := Lib.hid hfr
          clear hfr
          go_wp2_with fail
          refine (shDeal (lotsX x j) j _ _ _ (HF.out.get 0 rfl) (lotsX_len x j) (lotsX_ok x j) (by omega)).mono ?_; rintro e w4 ⟨ad4, cp4, rfl, hc4, hf⟩
          have F5 := HF.out.call hf
          clear hf
          go_wp2_with fail
          refine (rankOf (dealL (lotsX x j)) j _ _ _ (F5.get 0 rfl) (by rw [DO.out.1, lotsX_len]) DO.out.2 (by omega) hc4).mono ?_; rintro e w5 ⟨rfl, hb⟩
          rw [show ofC (codeL (dealL (lotsX x j))) = (K : Int) from HK.out]
          have F6 := F5.keep hb
          clear F5 hb
          go_wp2_with fail
          refine (good2b _ w5.heap.size _ rfl).mono ?_; rintro e w' ⟨rfl, rfl⟩
          have F7 := (F6.alloc (.cells #[.int .i64 0, .int .i64 0] 23)).sub (M := [⟨3, .slice (some ⟨w1.heap.size, 0, none⟩) N N, ints (seenL j x)⟩]) (by simp)
          obtain ⟨g, e, _, c1, z1⟩ := F7.openI K (by rw [HSL.out, HN.out]; exact KN)
          cases e
          rw [HU.out] at c1
          have F8 := F7.setInt K (u + 1)
          rw [HST2.out] at F8
          have HF8 := Lib.hid F8
          clear F6 F7 F8
          have d1 : (0 : Int) ≤ (K : Int) := by omega
          have d2 : (K : Int) < (N : Int) := by omega
          have d3 : decide ((K : Int) < 0) = false := decide_eq_false (by omega)
          have d4 : decide (N ≤ K) = false := decide_eq_false (by omega)
          go_wp2_with fail
          go_roundw
          case rel => exact ⟨x + 1, by omega, by go_num, HF8.out⟩
          case measure => simp only [intOf]; omega
    · obtain rfl : x = N := by omega
      obtain ⟨mx, mn⟩ := ones_max (seenL n x) x f1 HALL.out
      have MX := Lib.hid mx; have MN := Lib.hid mn
      have HL : Hid ((seenL n x).length = x) := Lib.hid (by rw [HSL.out, HN.out])
      clear mx mn
      go_wp2_with fail
      refine (slMinK (seenL n x) x _ _ _ (hfr.get 0 rfl) HL.out f1 (by omega)).mono ?_; rintro e w' ⟨rfl, rfl⟩
      rw [MN.out]
      go_wp2_with fail
      refine (slMaxK (seenL n x) x _ _ _ (hfr.get 0 rfl) HL.out f1 (by omega)).mono ?_; rintro e w' ⟨rfl, rfl⟩
      rw [MX.out]
      go_wp2_with fail
      go_ret
      exact ⟨rfl, hfr.bel⟩
end Go.Proofs.Ytnjnndodfdghbaa
