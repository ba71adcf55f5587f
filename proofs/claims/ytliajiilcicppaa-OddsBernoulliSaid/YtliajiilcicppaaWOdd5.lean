/- The walk of the law OddsBernoulli. -/
import Derived.Test.YtliajiilcicppaaWOdd4
import Derived.Test.YtliajiilcicppaaOdds4
import Derived.Test.YtliajiilcicppaaSub1
import Derived.Deep.RegionHeld3
namespace Go.Proofs.Ytliajiilcicppaa
open Go.RowKit

theorem good3d (w : World) (b : Nat) (T : TypeId) (hb : w.heap.size = b) :
    Calls Try.prog 17 #[.slice (some ⟨b, 0, .none⟩) 3 3] (w.alloc (.cells #[.int .i64 0, .int .i64 0, .int .i64 0] T)).drew fun e w' => e = .returned (.bool true) ∧ (w.alloc (.cells #[.int .i64 0, .int .i64 0, .int .i64 0] T)).drew = w' := good3b w.drew b T hb
def cV : Nat → List Int
  | 0 => [0, 1]
  | j + 1 => bothV (cV j) [0, 1]
def cW : Nat → List Int
  | 0 => [1, 1]
  | j + 1 => bothW (cW j) [1, 1]
theorem cV_ok : ∀ j, j < 3 → chkO (cV j) (cW j) = 0 := by decide +kernel
def wK (n k : Nat) : Nat → Nat
  | 0 => 0
  | t + 1 => wK n k t + chN n (k + t)
theorem wK_le : ∀ n, n < 4 → ∀ k, k < 5 → ∀ t, t < 5 → wK n k t ≤ 100 ∧ chN n (k + t) ≤ 100 := by decide +kernel
def bernB (j k : Nat) : Bool :=
  redP (oN k (cV j) (cW j)) (oW (cV j) (cW j)) * 2 ^ (j + 1) == (wK (j + 1) k (j + 2 - k) : Int) * redQ (oN k (cV j) (cW j)) (oW (cV j) (cW j)) && decide (0 ≤ redP (oN k (cV j) (cW j)) (oW (cV j) (cW j))) && decide (redP (oN k (cV j) (cW j)) (oW (cV j) (cW j)) ≤ 100) && decide (0 ≤ redQ (oN k (cV j) (cW j)) (oW (cV j) (cW j))) && decide (redQ (oN k (cV j) (cW j)) (oW (cV j) (cW j)) ≤ 100) && decide (wK (j + 1) k (j + 2 - k) ≤ 100)
theorem bern_all : ∀ j, j < 3 → ∀ k, k < j + 3 → bernB j k = true := by decide +kernel
set_option maxRecDepth 100000 in
set_option maxHeartbeats 8000000 in
theorem oddsBern_any (t0 t1 : Int) (w : World) : Calls Try.prog 12 #[.int .i64 t0, .int .i64 t1] w fun e w' => e = .returned (.bool true) ∧ Below w.heap.size w w' := by
  obtain ⟨n, hn⟩ : ∃ n : Nat, 1 + t0 % 3 = (n : Int) := ⟨(1 + t0 % 3).toNat, by omega⟩
  have n1 : 1 ≤ n := by omega
  have n3 : n ≤ 3 := by omega
  obtain ⟨k, hk⟩ : ∃ k : Nat, t1 % ((n : Int) + 2) = (k : Int) := ⟨(t1 % ((n : Int) + 2)).toNat, by have := Int.emod_nonneg t1 (show (n : Int) + 2 ≠ 0 by omega); omega⟩
  have k2 : k ≤ n + 1 := by have := Int.emod_lt_of_pos t1 (show 0 < (n : Int) + 2 by omega); omega
  go_enter Try.func12, Try.ntmps12
  go_wp2_with fail
  refine (oddsLive_any _).mono ?_; rintro e w1 ⟨rfl, hb⟩
  have HF1 := Lib.hid ((Fr.start w).keep hb); clear hb
  go_wp2_with fail
  refine (within_any _ _ _ (by omega) (by omega)).mono ?_; rintro e w' ⟨rfl, rfl⟩
  go_wp2_with fail
  refine (within_any _ _ _ (by omega) (by omega)).mono ?_; rintro e w' ⟨rfl, rfl⟩
  have F2 := (((HF1.out.lit' [0, 1] #[.int .i64 0, .int .i64 1] rfl 2 rfl (by omega) 3 w1.heap.size rfl).lit' [1, 1] #[.int .i64 1, .int .i64 1] rfl 2 rfl (by omega) 3 (w1.heap.size + 1) (by simp)).ro (.slice (some ⟨w1.heap.size, 0, .none⟩) 2 2) (.slice (some ⟨w1.heap.size + 1, 0, .none⟩) 2 2) (w1.heap.size + 1 + 1) (by simp)).ro (.slice (some ⟨w1.heap.size, 0, .none⟩) 2 2) (.slice (some ⟨w1.heap.size + 1, 0, .none⟩) 2 2) (w1.heap.size + 1 + 1 + 1) (by simp)
  have HF2 := Lib.hid F2
  clear F2
  go_wp2_with fail
  clear hn hk
  obtain ⟨B, hB⟩ : ∃ B, w1.heap.size = B := ⟨_, rfl⟩
  rw [hB] at HF2
  simp only [hB]
  go_loopw [34] (fun i wr => ∃ (j N : Nat) (ad1 ad2 : Option Addr) (q1 q2 : Nat) (L : List Ent), j + 1 ≤ n ∧ i = .int .i64 j ∧ Hid ((cV j).length = N) ∧
    Hid (Fr w wr (eO (B + 1 + 1 + 1) (.slice ad1 N q1) (.slice ad2 N q2) :: eO (B + 1 + 1) (.slice (some ⟨B, 0, .none⟩) 2 2) (.slice (some ⟨B + 1, 0, .none⟩) 2 2) :: L)) ∧
    Hid ((⟨3, .slice ad1 N q1, ints (cV j)⟩ : Ent) ∈ L) ∧ Hid ((⟨3, .slice ad2 N q2, ints (cW j)⟩ : Ent) ∈ L) ∧ Hid ((⟨3, .slice (some ⟨B, 0, .none⟩) 2 2, ints [0, 1]⟩ : Ent) ∈ L) ∧ Hid ((⟨3, .slice (some ⟨B + 1, 0, .none⟩) 2 2, ints [1, 1]⟩ : Ent) ∈ L)) (fun i _ => n - (intOf i).toNat)
  case atStart =>
    exact ⟨0, 2, _, _, 2, 2, _, by omega, rfl, Lib.hid rfl, HF2, Lib.hid (by simp [cV]), Lib.hid (by simp [cW]), Lib.hid (by simp), Lib.hid (by simp)⟩
  case round =>
    obtain ⟨j, N, ad1, ad2, q1, q2, L, hj, rfl, HL, HF, M1, M2, M3, M4⟩ := hrel
    obtain ⟨c0, c1, c2, c3, c4, c5⟩ := HF.out.roAt 0 rfl
    obtain ⟨d0, d1, -, -, -, -⟩ := HF.out.roAt 1 rfl
    have HO := Lib.hid (chkO_ok (cV_ok j (by omega)))
    by_cases hlt : j + 1 < n
    · have HO1 := Lib.hid (chkO_ok (cV_ok 0 (by omega)))
      have g : decide ((j : Int) < (n : Int) - 1) = true := decide_eq_true (by omega)
      go_wp2_with fail
      refine (oddBoth (cV j) (cW j) [0, 1] [1, 1] N 2 ad1 ad2 _ _ q1 q2 2 2 _ (HF.out.mem (List.mem_cons_of_mem _ (List.mem_cons_of_mem _ M1.out))) (HF.out.mem (List.mem_cons_of_mem _ (List.mem_cons_of_mem _ M2.out))) (HF.out.mem (List.mem_cons_of_mem _ (List.mem_cons_of_mem _ M3.out))) (HF.out.mem (List.mem_cons_of_mem _ (List.mem_cons_of_mem _ M4.out))) HL.out rfl HO.out HO1.out).mono ?_
      rintro e w3 (⟨hc, ad3, ad4, q3, q4, rfl, hf⟩ | ⟨hc, -, -⟩)
      · have F3 := (HF.out.call hf).ro (.slice ad3 (N * 2) q3) (.slice ad4 (N * 2) q4) w3.heap.size rfl
        have HL2 : Hid ((cV (j + 1)).length = N * 2) := Lib.hid (by rw [cV, bothV_len, HL.out]; rfl)
        obtain ⟨N2, hN2⟩ : ∃ N2, N * 2 = N2 := ⟨_, rfl⟩
        rw [hN2] at F3 HL2 ⊢
        clear hc hf hN2 c0 c1 c2 c3 c4 c5 d0 d1
        obtain ⟨c0, c1, -, -, -, -⟩ := F3.roAt 3 rfl
        obtain ⟨c2, c3, c4, -, c5, c6⟩ := F3.roAt 0 rfl
        obtain ⟨-, -, c7, -, c8, c9⟩ := F3.roAt 3 rfl
        have HF3 := Lib.hid F3
        clear F3
        go_wp2_with fail
        go_roundw
        case rel =>
          refine ⟨j + 1, N2, ad3, ad4, q3, q4, _, by omega, by go_num, HL2, Lib.hid (?_ : Fr w _ (_ :: _ :: eO w3.heap.size (.slice ad3 N2 q3) (.slice ad4 N2 q4) :: ⟨3, .slice ad3 N2 q3, ints (bothV (cV j) [0, 1])⟩ :: ⟨3, .slice ad4 N2 q4, ints (bothW (cW j) [1, 1])⟩ :: L)), Lib.hid (by simp [cV]), Lib.hid (by simp [cW]), Lib.hid (by simp [M3.out]), Lib.hid (by simp [M4.out])⟩
          have FP : Fr w _ (eO (B + 1 + 1 + 1) (.slice ad1 N q1) (.slice ad2 N q2) :: eO (B + 1 + 1) (.slice (some ⟨B, 0, .none⟩) 2 2) (.slice (some ⟨B + 1, 0, .none⟩) 2 2) :: eO w3.heap.size (.slice ad3 N2 q3) (.slice ad4 N2 q4) :: ⟨3, .slice ad3 N2 q3, ints (bothV (cV j) [0, 1])⟩ :: ⟨3, .slice ad4 N2 q4, ints (bothW (cW j) [1, 1])⟩ :: L) := HF3.out.perm (by
            have : ([eO w3.heap.size (.slice ad3 N2 q3) (.slice ad4 N2 q4), ⟨3, .slice ad3 N2 q3, ints (bothV (cV j) [0, 1])⟩, ⟨3, .slice ad4 N2 q4, ints (bothW (cW j) [1, 1])⟩] ++ [eO (B + 1 + 1 + 1) (.slice ad1 N q1) (.slice ad2 N q2), eO (B + 1 + 1) (.slice (some ⟨B, 0, .none⟩) 2 2) (.slice (some ⟨B + 1, 0, .none⟩) 2 2)]).Perm ([eO (B + 1 + 1 + 1) (.slice ad1 N q1) (.slice ad2 N q2), eO (B + 1 + 1) (.slice (some ⟨B, 0, .none⟩) 2 2) (.slice (some ⟨B + 1, 0, .none⟩) 2 2)] ++ [eO w3.heap.size (.slice ad3 N2 q3) (.slice ad4 N2 q4), ⟨3, .slice ad3 N2 q3, ints (bothV (cV j) [0, 1])⟩, ⟨3, .slice ad4 N2 q4, ints (bothW (cW j) [1, 1])⟩]) := List.perm_append_comm
            exact this.append_right L)
          exact (FP.set 0 (.slice ad3 N2 q3)).set 1 (.slice ad4 N2 q4)
        case measure => simp only [intOf]; omega
      · exact absurd (cV_ok (j + 1) (by omega)) hc
    · obtain rfl : n = j + 1 := by omega
      have g : decide ((j : Int) < ((j + 1 : Nat) : Int) - 1) = false := decide_eq_false (by omega)
      obtain ⟨P, Q, r1⟩ : ∃ X Y, RedIs (oN k (cV j) (cW j)) (oW (cV j) (cW j)) X Y := ⟨_, _, rfl, rfl⟩
      obtain ⟨X, Y, r2⟩ : ∃ X Y, RedIs (oA (cV j) (cW j)) (oW (cV j) (cW j)) X Y := ⟨_, _, rfl, rfl⟩
      obtain ⟨U, V, r3⟩ : ∃ X Y, RedIs (sP (cV j) (cW j)) (sQ (cV j) (cW j)) X Y := ⟨_, _, rfl, rfl⟩
      have HR1 := Lib.hid r1; have HR2 := Lib.hid r2; have HR3 := Lib.hid r3
      clear r1 r2 r3
      clear c2 c3 c4 c5 d0 d1
      go_wp2_with fail
      refine (oddBeyond (cV j) (cW j) N ad1 ad2 q1 q2 k _ (HF.out.mem (List.mem_cons_of_mem _ (List.mem_cons_of_mem _ M1.out))) (HF.out.mem (List.mem_cons_of_mem _ (List.mem_cons_of_mem _ M2.out))) HL.out HO.out P Q HR1.out).mono ?_; rintro e w4 ⟨rfl, hb⟩
      have HG1 := Lib.hid ((HF.out.keep hb).rq P Q w4.heap.size rfl)
      clear c0 c1 hb
      obtain ⟨c0, c1, -, -, -, -⟩ := HG1.out.roAt 1 rfl
      go_wp2_with fail
      refine (oddMean (cV j) (cW j) N ad1 ad2 q1 q2 _ (HG1.out.mem (List.mem_cons_of_mem _ (List.mem_cons_of_mem _ (List.mem_cons_of_mem _ M1.out)))) (HG1.out.mem (List.mem_cons_of_mem _ (List.mem_cons_of_mem _ (List.mem_cons_of_mem _ M2.out)))) HL.out HO.out X Y HR2.out).mono ?_; rintro e w5 ⟨rfl, hb⟩
      have HG2 := Lib.hid ((HG1.out.keep hb).rq X Y w5.heap.size rfl)
      clear c0 c1 hb
      obtain ⟨c0, c1, -, -, -, -⟩ := HG2.out.roAt 2 rfl
      go_wp2_with fail
      refine (oddSpread (cV j) (cW j) N ad1 ad2 q1 q2 _ (HG2.out.mem (List.mem_cons_of_mem _ (List.mem_cons_of_mem _ (List.mem_cons_of_mem _ (List.mem_cons_of_mem _ M1.out))))) (HG2.out.mem (List.mem_cons_of_mem _ (List.mem_cons_of_mem _ (List.mem_cons_of_mem _ (List.mem_cons_of_mem _ M2.out))))) HL.out HO.out U V HR3.out).mono ?_; rintro e w6 ⟨rfl, hb⟩
      have HG3 := Lib.hid ((HG2.out.keep hb).rq U V w6.heap.size rfl)
      clear c0 c1 hb
      go_wp2_with fail
      clear g
      go_loop [15, 16] (fun s i => ∃ t : Nat, k + t ≤ j + 2 ∧ i = .int .i64 ((k + t : Nat) : Int) ∧ s = .int .i64 ((wK (j + 1) k t : Nat) : Int)) (fun _ i => j + 2 - (intOf i).toNat)
      case atStart => exact ⟨0, by omega, rfl, rfl⟩
      case round =>
        obtain ⟨t, ht, rfl, rfl⟩ := hrel
        by_cases hlt3 : k + t ≤ j + 1
        · obtain ⟨w1', w2'⟩ := wK_le (j + 1) (by omega) k (by omega) t (by omega)
          have hw : wK (j + 1) k (t + 1) = wK (j + 1) k t + chN (j + 1) (k + t) := rfl
          have HC := Lib.hid (Choose_nat (j + 1) (k + t))
          generalize chN (j + 1) (k + t) = C at *
          generalize wK (j + 1) k t = S at *
          have HW := Lib.hid hw
          clear hw
          have g : decide (((k + t : Nat) : Int) ≤ ((j + 1 : Nat) : Int)) = true := decide_eq_true (by omega)
          go_wp2_with fail
          refine (HC.out _ (by omega) (by omega)).mono ?_; rintro e w' ⟨rfl, rfl⟩
          go_wp2_with fail
          exact ⟨⟨t + 1, by omega, by go_num, by rw [HW.out]; go_num⟩, by simp only [intOf]; omega⟩
        · obtain rfl : t = j + 2 - k := by omega
          have hkt : k + (j + 2 - k) = j + 2 := by omega
          rw [hkt]
          have g : decide (((j + 2 : Nat) : Int) ≤ ((j + 1 : Nat) : Int)) = false := decide_eq_false (by omega)
          clear hlt3 ht
          have hbn := bern_all j (by omega) k (by omega)
          unfold bernB at hbn
          rw [HR1.out.1, HR1.out.2] at hbn
          simp only [Bool.and_eq_true, beq_iff_eq, decide_eq_true_eq] at hbn
          obtain ⟨⟨⟨⟨⟨h1, h2⟩, h3⟩, h4⟩, h5⟩, h6⟩ := hbn
          obtain ⟨W, hW⟩ : ∃ W : Nat, wK (j + 1) k (j + 2 - k) = W := ⟨_, rfl⟩
          rw [hW] at h1 h6 ⊢
          obtain ⟨R, hR⟩ : ∃ R, (W : Int) * Q = R := ⟨_, rfl⟩
          rw [hR] at h1
          have b0 := mul_bdI W Q 100 100 (by omega) (by omega)
          rw [hR] at b0
          obtain ⟨b1, b2⟩ := b0
          clear hW hkt
          have hcase : j = 0 ∨ j = 1 ∨ j = 2 := by omega
          rcases hcase with rfl | rfl | rfl
          · obtain rfl : X = 1 := HR2.out.1.symm.trans (by decide +kernel)
            obtain rfl : Y = 2 := HR2.out.2.symm.trans (by decide +kernel)
            obtain rfl : U = 1 := HR3.out.1.symm.trans (by decide +kernel)
            obtain rfl : V = 4 := HR3.out.2.symm.trans (by decide +kernel)
            have hP : P * 2 = R := h1
            clear h1 HR1 HR2 HR3
            have HG4 := Lib.hid (HG3.out.alloc (.cells #[.int .i64 0, .int .i64 0, .int .i64 0] 24))
            obtain ⟨d0, d1, -, -, -, -⟩ := HG3.out.rqAt 0 rfl
            obtain ⟨d2, d3, -, -, -, -⟩ := HG3.out.rqAt 1 rfl
            obtain ⟨d4, d5, -, -, -, -⟩ := HG3.out.rqAt 2 rfl
            obtain ⟨c0, c1, -, -, -, -⟩ := HG4.out.rqAt 0 rfl
            obtain ⟨c2, c3, -, -, -, -⟩ := HG4.out.rqAt 1 rfl
            obtain ⟨c4, c5, -, -, -, -⟩ := HG4.out.rqAt 2 rfl
            go_wp2_with fail
            go_region_held3 (fun w' => w'.cell? ⟨w6.heap.size, 0, .none⟩ = some (.int .i64 1) ∧ w'.cell? ⟨w6.heap.size, 1, .none⟩ = some (.int .i64 4) ∧ w'.cell? ⟨w5.heap.size, 0, .none⟩ = some (.int .i64 1) ∧ w'.cell? ⟨w5.heap.size, 1, .none⟩ = some (.int .i64 2) ∧ w'.cell? ⟨w4.heap.size, 0, .none⟩ = some (.int .i64 P) ∧ w'.cell? ⟨w4.heap.size, 1, .none⟩ = some (.int .i64 Q)) (first | exact ⟨d0, d1, d2, d3, d4, d5⟩ | exact ⟨c0, c1, c2, c3, c4, c5⟩ | go_keep) (first | (go_at_call 17; with_reducible refine (good3d _ (w6.heap.size + 1) _ (by simp)).mono ?_; rintro e w' ⟨rfl, rfl⟩))
            all_goals
              go_wp2_with fail
              go_ret
              exact ⟨by simp, HG4.out.drew.bel⟩
          · obtain rfl : X = 1 := HR2.out.1.symm.trans (by decide +kernel)
            obtain rfl : Y = 1 := HR2.out.2.symm.trans (by decide +kernel)
            obtain rfl : U = 1 := HR3.out.1.symm.trans (by decide +kernel)
            obtain rfl : V = 2 := HR3.out.2.symm.trans (by decide +kernel)
            have hP : P * 4 = R := h1
            clear h1 HR1 HR2 HR3
            have HG4 := Lib.hid (HG3.out.alloc (.cells #[.int .i64 0, .int .i64 0, .int .i64 0] 24))
            obtain ⟨d0, d1, -, -, -, -⟩ := HG3.out.rqAt 0 rfl
            obtain ⟨d2, d3, -, -, -, -⟩ := HG3.out.rqAt 1 rfl
            obtain ⟨d4, d5, -, -, -, -⟩ := HG3.out.rqAt 2 rfl
            obtain ⟨c0, c1, -, -, -, -⟩ := HG4.out.rqAt 0 rfl
            obtain ⟨c2, c3, -, -, -, -⟩ := HG4.out.rqAt 1 rfl
            obtain ⟨c4, c5, -, -, -, -⟩ := HG4.out.rqAt 2 rfl
            go_wp2_with fail
            go_region_held3 (fun w' => w'.cell? ⟨w6.heap.size, 0, .none⟩ = some (.int .i64 1) ∧ w'.cell? ⟨w6.heap.size, 1, .none⟩ = some (.int .i64 2) ∧ w'.cell? ⟨w5.heap.size, 0, .none⟩ = some (.int .i64 1) ∧ w'.cell? ⟨w5.heap.size, 1, .none⟩ = some (.int .i64 1) ∧ w'.cell? ⟨w4.heap.size, 0, .none⟩ = some (.int .i64 P) ∧ w'.cell? ⟨w4.heap.size, 1, .none⟩ = some (.int .i64 Q)) (first | exact ⟨d0, d1, d2, d3, d4, d5⟩ | exact ⟨c0, c1, c2, c3, c4, c5⟩ | go_keep) (first | (go_at_call 17; with_reducible refine (good3d _ (w6.heap.size + 1) _ (by simp)).mono ?_; rintro e w' ⟨rfl, rfl⟩))
            all_goals
              go_wp2_with fail
              go_ret
              exact ⟨by simp, HG4.out.drew.bel⟩
          · obtain rfl : X = 3 := HR2.out.1.symm.trans (by decide +kernel)
            obtain rfl : Y = 2 := HR2.out.2.symm.trans (by decide +kernel)
            obtain rfl : U = 3 := HR3.out.1.symm.trans (by decide +kernel)
            obtain rfl : V = 4 := HR3.out.2.symm.trans (by decide +kernel)
            have hP : P * 8 = R := h1
            clear h1 HR1 HR2 HR3
            have HG4 := Lib.hid (HG3.out.alloc (.cells #[.int .i64 0, .int .i64 0, .int .i64 0] 24))
            obtain ⟨d0, d1, -, -, -, -⟩ := HG3.out.rqAt 0 rfl
            obtain ⟨d2, d3, -, -, -, -⟩ := HG3.out.rqAt 1 rfl
            obtain ⟨d4, d5, -, -, -, -⟩ := HG3.out.rqAt 2 rfl
            obtain ⟨c0, c1, -, -, -, -⟩ := HG4.out.rqAt 0 rfl
            obtain ⟨c2, c3, -, -, -, -⟩ := HG4.out.rqAt 1 rfl
            obtain ⟨c4, c5, -, -, -, -⟩ := HG4.out.rqAt 2 rfl
            go_wp2_with fail
            go_region_held3 (fun w' => w'.cell? ⟨w6.heap.size, 0, .none⟩ = some (.int .i64 3) ∧ w'.cell? ⟨w6.heap.size, 1, .none⟩ = some (.int .i64 4) ∧ w'.cell? ⟨w5.heap.size, 0, .none⟩ = some (.int .i64 3) ∧ w'.cell? ⟨w5.heap.size, 1, .none⟩ = some (.int .i64 2) ∧ w'.cell? ⟨w4.heap.size, 0, .none⟩ = some (.int .i64 P) ∧ w'.cell? ⟨w4.heap.size, 1, .none⟩ = some (.int .i64 Q)) (first | exact ⟨d0, d1, d2, d3, d4, d5⟩ | exact ⟨c0, c1, c2, c3, c4, c5⟩ | go_keep) (first | (go_at_call 17; with_reducible refine (good3d _ (w6.heap.size + 1) _ (by simp)).mono ?_; rintro e w' ⟨rfl, rfl⟩))
            all_goals
              go_wp2_with fail
              go_ret
              exact ⟨by simp, HG4.out.drew.bel⟩
end Go.Proofs.Ytliajiilcicppaa
