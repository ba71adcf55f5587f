/- The walk of the law PartsEuler, itself. -/
import Derived.Test.YtdcekplmmfenlaaWPartE
namespace Go.Proofs.Ytdcekplmmfenlaa
open Go.RowKit

theorem pent_mul1 (i : Nat) (h : 0 < i) : ((i : Nat) : Int) * (3 * (i : Int) - 1) = ((i * (3 * i - 1) : Nat) : Int) := by
  rw [Int.natCast_mul]; congr 1; omega
theorem pent_mul2 (i : Nat) : ((i : Nat) : Int) * (3 * (i : Int) + 1) = ((i * (3 * i + 1) : Nat) : Int) := by
  rw [Int.natCast_mul]; congr 1
theorem pent_bd : ∀ i, i < 7 → i * (3 * i - 1) ≤ 1000 ∧ i * (3 * i + 1) ≤ 1000 := by decide
theorem pent_6 : 40 < pent1 6 := by decide

def eMid (n t : Nat) : Nat → Int
  | 0 => eSum n t
  | 1 => eSum n t + eTerm n (t + 1) (pent1 (t + 1))
  | _ => eSum n (t + 1)
def pents (t : Nat) : List Int := [((pent1 (t + 1) : Nat) : Int), ((pent2 (t + 1) : Nat) : Int)]
theorem eMid_step (n t j : Nat) (hn : n < 41) (ht : t ≤ 5) (hj : j < 2) : ∃ f : Nat, nth (pents t) j = f ∧ 0 < f ∧ f ≤ 1000 ∧ eMid n t (j + 1) = eMid n t j + eTerm n (t + 1) f ∧ -600000 ≤ eMid n t j ∧ eMid n t j ≤ 600000 := by
  have h0 := eSum_bd n hn t
  have h1 := eTerm_bd n (t + 1) (pent1 (t + 1)) hn
  have hp : ∀ t, t ≤ 5 → 0 < pent1 (t + 1) ∧ 0 < pent2 (t + 1) ∧ pent1 (t + 1) ≤ 1000 ∧ pent2 (t + 1) ≤ 1000 := by decide
  obtain ⟨p1, p2, p3, p4⟩ := hp t ht
  match j, hj with
  | 0, _ => exact ⟨pent1 (t + 1), rfl, p1, p3, rfl, by show _ ≤ eSum n t; omega, by show eSum n t ≤ _; omega⟩
  | 1, _ => exact ⟨pent2 (t + 1), rfl, p2, p4, rfl, by show _ ≤ eSum n t + _; omega, by show eSum n t + _ ≤ _; omega⟩

set_option maxRecDepth 100000 in
set_option maxHeartbeats 4000000 in
theorem partsEuler_any (x y : Int) (w : World) :
    Calls Try.prog 13 #[.int .i64 x, .int .i64 y] w fun e w' => e = .returned (.bool true) ∧ Below w.heap.size w w' := by
  obtain ⟨n0, hn0, hx⟩ : ∃ m : Nat, m < 40 ∧ x % 40 = m := ⟨(x % 40).toNat, by omega, by omega⟩
  obtain ⟨k0, hk0, hy⟩ : ∃ m : Nat, m < 40 ∧ y % 40 = m := ⟨(y % 40).toNat, by omega, by omega⟩
  have HX := Lib.hid hx; have HY := Lib.hid hy; clear hx hy
  go_enter Try.func13, Try.ntmps13
  go_wp2_with fail
  refine (partsLive_any _).mono ?_; rintro e w1 ⟨rfl, hb⟩
  have F := (Fr.start w).keep hb
  clear hb
  go_wp2_with fail
  refine (within_any _ _ _ (by omega) (by omega)).mono ?_; rintro e w' ⟨rfl, rfl⟩
  rw [HX.out]
  go_wp2_with fail
  refine (within_any _ _ _ (by omega) (by omega)).mono ?_; rintro e w' ⟨rfl, rfl⟩
  rw [HY.out]
  go_wp2_with fail
  obtain ⟨n, hn⟩ : ∃ n : Nat, (1 : Int) + (n0 : Int) = (n : Int) := ⟨n0 + 1, by omega⟩
  obtain ⟨k, hk⟩ : ∃ k : Nat, (1 : Int) + (k0 : Int) = (k : Int) := ⟨k0 + 1, by omega⟩
  rw [hn, hk]
  have n1 : 0 < n := by omega
  have n2 : n ≤ 40 := by omega
  have k1 : 0 < k := by omega
  have k2 : k ≤ 40 := by omega
  clear hn hk HX HY hn0 hk0
  refine (partCount_i _ _ n k _ rfl rfl n2 k2).mono ?_; rintro e w2 ⟨rfl, hb⟩
  replace F := F.keep hb
  clear hb
  go_wp2_with fail
  refine (partCount_i _ _ n (k - 1) _ rfl (by omega) n2 (by omega)).mono ?_; rintro e w3 ⟨rfl, hb⟩
  replace F := F.keep hb
  clear hb
  have a1 := pN_small k n (by omega) (by omega)
  have a2 := pN_small (k - 1) n (by omega) (by omega)
  have a3 := pN_small k (n - k) (by omega) (by omega)
  have e1 : pN k n = pN (k - 1) n + if k ≤ n then pN k (n - k) else 0 := by
    obtain ⟨j, rfl⟩ : ∃ j, k = j + 1 := ⟨k - 1, by omega⟩
    by_cases h : j + 1 ≤ n
    · rw [if_pos h, pN_ge j n h]; rfl
    · rw [if_neg h, pN_lt j n (by omega)]; rfl
  have E1 := Lib.hid e1; clear e1
  generalize hA : pN k n = A at *
  generalize hB : pN (k - 1) n = B at *
  have HA := Lib.hid hA; have HB := Lib.hid hB; clear hA hB
  rcases Nat.lt_or_ge n k with hkn | hkn
  case' inl =>
    have ea := E1.out
    rw [if_neg (by omega)] at ea
    have q1 : (((A : Nat) : Int) != (B : Int)) = false := by rw [bne_eq_false_iff_eq]; omega
    have q2 : (((A : Nat) : Int) != (B : Int) + 0) = false := by rw [bne_eq_false_iff_eq]; omega
    clear ea
    go_wp2_with fail
    refine (good2 _ _).mono ?_; rintro e w' ⟨rfl, rfl⟩
    replace F := F.alloc (.cells #[.int .i64 0, .int .i64 0] 24)
    go_wp2_with fail
  case' inr =>
    have ea := E1.out
    rw [if_pos hkn] at ea
    go_wp2_with fail
    refine (partCount_i _ _ (n - k) k _ (by omega) rfl (by omega) k2).mono ?_; rintro e w4 ⟨rfl, hb⟩
    replace F := F.keep hb
    clear hb
    generalize hC : pN k (n - k) = C at *
    have HC := Lib.hid hC; clear hC
    have q1 : (((A : Nat) : Int) != (B : Int) + (C : Int)) = false := by rw [bne_eq_false_iff_eq]; omega
    clear ea
    go_wp2_with fail
    refine (good2 _ _).mono ?_; rintro e w' ⟨rfl, rfl⟩
    replace F := F.alloc (.cells #[.int .i64 0, .int .i64 0] 24)
    go_wp2_with fail
  all_goals
    clear hkn E1 a1 a2 a3 q1 HA HB
    have a4 := pN_small n n (by omega) (by omega)
    refine (partCount_i _ _ n n _ rfl rfl n2 n2).mono ?_; rintro e w5 ⟨rfl, hb⟩
    replace F := F.keep hb
    clear hb
    generalize hD : pN n n = D at *
    have HD := Lib.hid hD; clear hD
    have HF := Lib.hid F; clear F
    go_wp2_with fail
    go_loopw [14, 15] (fun s i wr => ∃ t u : Nat, t ≤ 5 ∧ Hid (u = t + 1) ∧ i = .int .i64 (u : Int) ∧ s = .int .i64 (eSum n t) ∧ Fr w wr []) (fun _ i _ => 10 - (intOf i).toNat)
    case atStart => exact ⟨0, 1, by omega, Lib.hid rfl, rfl, rfl, HF.out⟩
    case round =>
      obtain ⟨t, u, ht, HU, rfl, rfl, hfr⟩ := hrel
      clear HF
      have m1 := pent_mul1 (t + 1) (by omega)
      have m2 := pent_mul2 (t + 1)
      obtain ⟨b1, b2⟩ := pent_bd (t + 1) (by omega)
      have S1 := eSum_bd n (by omega) t
      have d1 : (((t + 1) * (3 * (t + 1) - 1) : Nat) : Int) / 2 = ((pent1 (t + 1) : Nat) : Int) := by unfold pent1; omega
      have d2 : (((t + 1) * (3 * (t + 1) + 1) : Nat) : Int) / 2 = ((pent2 (t + 1) : Nat) : Int) := by unfold pent2; omega
      have c1 : pent1 (t + 1) ≤ 1000 := by unfold pent1; omega
      have c2 : pent2 (t + 1) ≤ 1000 := by unfold pent2; omega
      have hlast : t = 5 → 40 < pent1 (t + 1) := by rintro rfl; exact pent_6
      have hend := euler_end n t n1 (by omega) (by omega)
      have hpar : u % 2 = (t + 1) % 2 := by rw [HU.out]
      have hu6 : u ≤ 6 := by have := HU.out; omega
      rw [← HU.out] at m1 m2 d1 d2 c1 c2 b1 b2 hlast hend
      generalize u * (3 * u - 1) = q1 at *
      generalize u * (3 * u + 1) = q2 at *
      obtain ⟨p1, hp1⟩ : ∃ p1, p1 = pent1 u := ⟨_, rfl⟩
      obtain ⟨p2, hp2⟩ : ∃ p2, p2 = pent2 u := ⟨_, rfl⟩
      rw [← hp1] at d1 c1 hlast hend
      rw [← hp2] at d2 c2
      have HP1 := Lib.hid hp1; have HP2 := Lib.hid hp2; have HL := Lib.hid hlast; have hend' := Lib.hid hend; have HPAR := Lib.hid hpar
      clear hp1 hp2 hlast hend hpar
      by_cases hin : p1 ≤ n
      · go_wp2_with fail
        have F2 := hfr.lit (pents t) #[.int .i64 (p1 : Int), .int .i64 (p2 : Int)] (by rw [HP1.out, HP2.out, HU.out]; rfl) 2 rfl (by omega) 3
        have HF2 := Lib.hid F2
        clear F2 hfr m1 m2 b1 b2 d1 d2 c1 c2 hend' S1
        obtain ⟨wo, rfl⟩ : ∃ wo : World, wo = wr := ⟨_, rfl⟩
        generalize hN : wo.heap.size = NN at *
        have HNN := Lib.hid hN; clear hN
        go_loopw [14, 97] (fun s i wr => ∃ j : Nat, j ≤ 2 ∧ i = .int .i64 j ∧ s = .int .i64 (eMid n t j) ∧ Fr w wr [⟨3, .slice (some ⟨NN, 0, none⟩) 2 2, ints (pents t)⟩]) (fun _ i _ => 2 - (intOf i).toNat)
        case atStart => exact ⟨0, by omega, rfl, rfl, HF2.out⟩
        case round =>
          obtain ⟨j, hj, rfl, rfl, hfr⟩ := hrel
          by_cases hj2 : j < 2
          · obtain ⟨g, e, hg1, hg2, hcg, hz⟩ := hfr.open (by rw [ints_len]; exact (by omega : 0 < 2))
            cases e
            have c1 := hcg j (by rw [ints_len]; exact hj2)
            rw [ints_get (pents t) j hj2] at c1
            obtain ⟨f, hf, f1, f2, f3, f4, f5⟩ := eMid_step n t j (by omega) ht hj2
            rw [hf] at c1
            have F3 := Lib.hid f3
            clear hcg hz f3 hf
            generalize eMid n t j = M at *
            have e1 : (0 : Int) ≤ (j : Int) := by omega
            have e2 : (j : Int) < 2 := by omega
            by_cases hfn : n < f
            · go_wp2_with fail
              go_roundw
              case rel => exact ⟨j + 1, by omega, by go_num, by rw [F3.out]; unfold eTerm; rw [if_pos hfn, Int.add_zero], hfr⟩
              case measure => simp only [intOf]; omega
            · have pb := pN_small (n - f) (n - f) (by omega) (by omega)
              rcases (show t % 2 = 0 ∨ t % 2 = 1 by omega) with hp | hp
              · have tt : (((u : Int) % 2) == 1) = true := by rw [beq_iff_eq]; have := HPAR.out; omega
                go_wp2_with (go_at_call 39; refine (partCount_i _ _ (n - f) (n - f) _ (by omega) (by omega) (by omega) (by omega)).mono ?_; rintro e w6 ⟨rfl, hb⟩)
                go_roundw
                case rel => exact ⟨j + 1, by omega, by go_num, by rw [F3.out]; unfold eTerm; rw [if_neg hfn, if_pos (by omega)], hfr.keep hb⟩
                case measure => simp only [intOf]; omega
              · have tt : (((u : Int) % 2) == 1) = false := by rw [beq_eq_false_iff_ne]; have := HPAR.out; omega
                go_wp2_with (go_at_call 39; refine (partCount_i _ _ (n - f) (n - f) _ (by omega) (by omega) (by omega) (by omega)).mono ?_; rintro e w6 ⟨rfl, hb⟩)
                go_roundw
                case rel => exact ⟨j + 1, by omega, by go_num, by rw [F3.out]; unfold eTerm; rw [if_neg hfn, if_neg (by omega)]; go_num, hfr.keep hb⟩
                case measure => simp only [intOf]; omega
          · obtain rfl : j = 2 := by omega
            go_wp2_with fail
            have h5 : t + 1 ≤ 5 := by
              rcases Nat.lt_or_ge t 5 with h | h
              · omega
              · have := HL.out (by omega)
                omega
            exact ⟨⟨t + 1, u + 1, h5, Lib.hid (by rw [HU.out]), by simp, rfl, hfr.below⟩, by simp only [intOf]; omega⟩
      · have hq := hend'.out (by omega)
        rw [hq, HD.out]
        have q1 : (((D : Nat) : Int) == ((D : Nat) : Int)) = true := by simp
        clear hend' hq
        go_wp2_with fail
        go_ret
        exact ⟨rfl, hfr.bel⟩
end Go.Proofs.Ytdcekplmmfenlaa
