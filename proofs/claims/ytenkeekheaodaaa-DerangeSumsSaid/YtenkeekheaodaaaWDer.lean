/- The walks of the laws DerangeNext, DerangeSums. -/
import Derived.Test.YtenkeekheaodaaaDer
namespace Go.Proofs.Ytenkeekheaodaaa
open Go.RowKit

set_option maxHeartbeats 400000 in
theorem derangeNext_any (x : Int) (w : World) :
    Calls Try.prog 5 #[.int .i64 x] w fun e w' => e = .returned (.bool true) ∧ Below w.heap.size w w' := by
  obtain ⟨m, hm, hx⟩ : ∃ m : Nat, m < 14 ∧ x % 14 = m := ⟨(x % 14).toNat, by omega, by omega⟩
  have HX := Lib.hid hx; clear hx
  have b1 := derN_small m (by omega)
  have b2 := derN_small (m + 1) (by omega)
  have b3 := derN_small (m + 2) (by omega)
  obtain ⟨t1, t2⟩ := derNext_tab m hm
  have P1 : ((m : Int) + 2) * ((derN (m + 1) : Nat) : Int) = (((m + 2) * derN (m + 1) : Nat) : Int) := by
    rw [show (m : Int) + 2 = ((m + 2 : Nat) : Int) from by omega, ← Int.natCast_mul]
  have P2 : ((m : Int) + 2 - 1) * (((derN (m + 1) : Nat) : Int) + ((derN m : Nat) : Int)) = (derN (m + 2) : Nat) := by
    rw [t2, show (m : Int) + 2 - 1 = ((m + 1 : Nat) : Int) from by omega, ← Int.natCast_add, ← Int.natCast_mul]
  generalize (m + 2) * derN (m + 1) = q at t1 P1
  have hq3 : (derN (m + 2) : Int) + 2 * (m % 2) ≤ q + 1 := by omega
  have hq4 : (q : Int) + 1 ≤ (derN (m + 2) : Int) + 2 * (m % 2) := by omega
  clear t1 t2
  by_cases h2 : (m : Int) % 2 = 1
  all_goals
    have H2 := Lib.hid h2
    first
      | (have E1 : (((m : Int) % 2) == 1) = true := by rw [beq_iff_eq]; exact h2)
      | (have E1 : (((m : Int) % 2) == 1) = false := by rw [beq_eq_false_iff_ne]; exact h2)
    clear h2
    go_enter Try.func5, Try.ntmps5
    go_wp2_with fail
    refine (deranges_any _).mono ?_; rintro e w' ⟨rfl, rfl⟩
    go_wp2_with fail
    refine (within_any _ _ _ (by omega) (by omega)).mono ?_; rintro e w' ⟨rfl, rfl⟩
    rw [HX.out]
    go_wp2_with fail
    rw [show (2 : Int) + (m : Int) = ((m + 2 : Nat) : Int) from by omega]
    refine (derCount_nat (m + 2) _ (by omega)).mono ?_; rintro e w' ⟨rfl, rfl⟩
    go_wp2_with fail
    rw [show (m : Int) + 2 - 1 = ((m + 1 : Nat) : Int) from by omega]
    refine (derCount_nat (m + 1) _ (by omega)).mono ?_; rintro e w' ⟨rfl, rfl⟩
    go_wp2_with fail
    refine (derCount_nat m _ (by omega)).mono ?_; rintro e w' ⟨rfl, rfl⟩
    go_wp2_with fail
    refine (good3 _ _).mono ?_; rintro e w' ⟨rfl, rfl⟩
    go_wp2_with fail
    all_goals first
      | (exfalso; have := H2.out; omega)
      | (go_ret; exact ⟨rfl, (Below.refl _ _).alloc (Nat.le_refl _) _⟩)

theorem fix_tab : ∀ n, n < 16 → sumTo (fixN n) (n + 1) = facN n ∧ sumTo (fun k => k * fixN n k) (n + 1) = (if n = 0 then 0 else facN n) ∧ fixN n 0 = derN n ∧ facN n ≤ 1307674368000 := by decide +kernel
theorem fac15 : ∀ n, n < 16 → facN n ≤ 1307674368000 := by decide +kernel

set_option maxHeartbeats 1000000 in
theorem derangeSums_any (x : Int) (w : World) :
    Calls Try.prog 9 #[.int .i64 x] w fun e w' => e = .returned (.bool true) ∧ Below w.heap.size w w' := by
  obtain ⟨n, hn, hx⟩ : ∃ n : Nat, n < 16 ∧ x % 16 = n := ⟨(x % 16).toNat, by omega, by omega⟩
  have HX := Lib.hid hx; clear hx
  obtain ⟨t1, t2, t3, t4⟩ := fix_tab n hn
  have T1 := Lib.hid t1; have T2 := Lib.hid t2; have T3 := Lib.hid t3; clear t1 t2 t3
  go_enter Try.func9, Try.ntmps9
  go_wp2_with fail
  refine (derFixed_nat 4 1 _ (by omega) (by omega)).mono ?_; rintro e w' ⟨rfl, rfl⟩
  rw [show fixN 4 1 = 8 from by decide]
  go_wp2_with fail
  refine (deranges_any _).mono ?_; rintro e w' ⟨rfl, rfl⟩
  go_wp2_with fail
  refine (within_any _ _ _ (by omega) (by omega)).mono ?_; rintro e w' ⟨rfl, rfl⟩
  rw [HX.out]
  go_wp2_with fail
  go_loop [5, 6, 7, 33] (fun a o m i => ∃ j : Nat, j ≤ n + 1 ∧ a = .int .i64 ((sumTo (fixN n) j : Nat) : Int) ∧ o = .int .i64 ((sumTo (fun k => k * fixN n k) j : Nat) : Int) ∧ m = .int .i64 ((facN (j - 1) : Nat) : Int) ∧ i = .int .i64 j) (fun _ _ _ i => n + 1 - (intOf i).toNat)
  case atStart => exact ⟨0, by omega, rfl, rfl, rfl, rfl⟩
  case round =>
    obtain ⟨j, hj, rfl, rfl, rfl, rfl⟩ := hrel
    by_cases hlt : j < n + 1
    · have s1 := sumTo_succ (fixN n) j
      have s2 := sumTo_succ (fun k => k * fixN n k) j
      have b1 : sumTo (fixN n) (j + 1) ≤ 1307674368000 := Nat.le_trans (sumTo_le _ (by omega)) (Nat.le_trans (Nat.le_of_eq T1.out) t4)
      have b2 : sumTo (fun k => k * fixN n k) (j + 1) ≤ 1307674368000 := by
        refine Nat.le_trans (sumTo_le _ (by omega)) (Nat.le_trans (Nat.le_of_eq T2.out) ?_)
        split <;> omega
      have b3 := fac15 (j - 1) (by omega)
      have b4 := fac15 j (by omega)
      have P1 := natMul j (fixN n j)
      have P2 : ((facN (j - 1) : Nat) : Int) * (j : Int) = ((facN (j - 1) * j : Nat) : Int) := natMul _ _
      have b5 : facN (j - 1) * j ≤ 1307674368000 * 16 := Nat.mul_le_mul b3 (by omega)
      have P3 : 1 ≤ j → facN (j - 1) * j = facN j := by intro h; obtain ⟨i, rfl⟩ : ∃ i, j = i + 1 := ⟨j - 1, by omega⟩; rfl
      have P3' := Lib.hid P3; clear P3
      generalize hf : fixN n j = f at *
      generalize hjf : j * f = jf at *
      generalize ha : sumTo (fixN n) j = A at *
      generalize hb : sumTo (fun k => k * fixN n k) j = B at *
      generalize hm : facN (j - 1) = M at *
      generalize hmj : M * j = MJ at *
      have h1 := Lib.hid hf; have h2 := Lib.hid hjf; have h3 := Lib.hid ha; have h4 := Lib.hid hb; have h5 := Lib.hid hm; have h6 := Lib.hid hmj
      clear hf hjf ha hb hm hmj
      generalize hsa : sumTo (fixN n) (j + 1) = SA at *
      generalize hsb : sumTo (fun k => k * fixN n k) (j + 1) = SB at *
      have g1 := Lib.hid hsa; have g2 := Lib.hid hsb; have g3 := Lib.hid s1; have g4 := Lib.hid s2
      have c1 : A + f ≤ 1307674368000 := by omega
      have c2 : B + jf ≤ 1307674368000 := by omega
      clear hsa hsb s1 s2
      go_wp2_with fail
      refine (derFixed_nat n j _ (by omega) (by omega)).mono ?_; rintro e w' ⟨rfl, rfl⟩
      rw [h1.out]
      go_wp2_with fail
      all_goals refine ⟨⟨j + 1, by omega, val_int (by rw [g1.out, g3.out]; omega), val_int (by rw [g2.out, g4.out]; omega), val_int ?_, by go_num⟩, by simp [intOf]; omega⟩
      · rw [Nat.add_sub_cancel, P3'.out (by omega)]
      · have h9 := h5.out
        obtain (rfl | rfl) : j = 0 ∨ j = 1 := by omega
        · rw [← h9]
        · rw [← h9]; rfl
    · obtain rfl : j = n + 1 := by omega
      by_cases h0 : n = 0
      · subst h0
        have b1 : sumTo (fun k => k * fixN 0 k) (0 + 1) = 0 := by decide
        have b2 : sumTo (fixN 0) (0 + 1) = 1 := by decide
        have b3 : facN (0 + 1 - 1) = 1 := by decide
        have b4 : fixN 0 0 = 1 := by decide
        have b5 : derN 0 = 1 := by decide
        rw [b1, b2, b3]
        go_wp2_with fail
        refine (derFixed_nat 0 0 _ (by omega) (by omega)).mono ?_; rintro e w' ⟨rfl, rfl⟩
        rw [b4]
        go_wp2_with fail
        refine (derCount_nat 0 _ (by omega)).mono ?_; rintro e w' ⟨rfl, rfl⟩
        rw [b5]
        go_wp2_with fail
        refine (good2 _ _).mono ?_; rintro e w' ⟨rfl, rfl⟩
        go_wp2_with fail
        go_ret
        exact ⟨rfl, (Below.refl _ _).alloc (Nat.le_refl _) _⟩
      · have E2 := T2.out
        rw [if_neg h0] at E2
        rw [T1.out, E2, Nat.add_sub_cancel]
        clear E2
        have hp : 1 ≤ n := by omega
        have z1 : ((n : Int) == 0) = false := by simp; omega
        clear h0
        go_wp2_with fail
        refine (derFixed_nat n 0 _ (by omega) (by omega)).mono ?_; rintro e w' ⟨rfl, rfl⟩
        rw [T3.out]
        go_wp2_with fail
        refine (derCount_nat n _ (by omega)).mono ?_; rintro e w' ⟨rfl, rfl⟩
        go_wp2_with fail
        refine (good2 _ _).mono ?_; rintro e w' ⟨rfl, rfl⟩
        go_wp2_with fail
        go_ret
        exact ⟨rfl, (Below.refl _ _).alloc (Nat.le_refl _) _⟩
end Go.Proofs.Ytenkeekheaodaaa
