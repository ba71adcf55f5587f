/- Contracts of rank.Count, pool.Ways, pool.Chosen of no lots. -/
import Derived.Test.YtgblmbhbbjgdiaaPool
import Derived.Test.YtgblmbhbbjgdiaaRankM
namespace Go.Proofs.Ytgblmbhbbjgdiaa
open Go.RowKit

set_option maxHeartbeats 1000000 in
theorem rankFac (n : Nat) (w : World) (h : n ≤ 10) :
    Calls Try.prog 53 #[.int .i64 n] w fun e w' => e = .returned (.int .i64 (facN n : Nat)) ∧ w = w' := by
  go_enter Try.func53, Try.ntmps53
  go_wp2_with fail
  go_loop [3, 4] (fun o i => ∃ k : Nat, 1 ≤ k ∧ (k ≤ n ∨ k = 1) ∧ i = .int .i64 ((k : Int) + 1) ∧ o = .int .i64 (facN k : Nat)) (fun _ i => n + 1 - (intOf i).toNat)
  case atStart => exact ⟨1, by omega, by omega, rfl, rfl⟩
  case round =>
    obtain ⟨k, hk1, hk, rfl, rfl⟩ := hrel
    by_cases hlt : k + 1 ≤ n
    · have b1 := facN_10 k (by omega)
      have b2 := facN_10 (k + 1) (by omega)
      have b3 := facN_pos k
      have hst : (facN k : Int) * ((k : Int) + 1) = (facN (k + 1) : Nat) := by rw [facN, Int.natCast_mul, Int.mul_comm]; rfl
      obtain ⟨f1, hf1⟩ : ∃ f, facN k = f := ⟨_, rfl⟩
      obtain ⟨f2, hf2⟩ : ∃ f, facN (k + 1) = f := ⟨_, rfl⟩
      rw [hf1] at b1 b3 hst ⊢
      rw [hf2] at b2 hst
      have HF2 := Lib.hid hf2
      clear hf1 hf2
      have d1 : (k : Int) + 1 ≤ (n : Int) := by omega
      go_wp2_with fail
      exact ⟨⟨k + 1, by omega, by omega, by simp, by rw [HF2.out]⟩, by simp only [intOf]; omega⟩
    · have hfe : (facN k : Int) = (facN n : Nat) := by
        rcases hk with h1 | h1
        · obtain rfl : k = n := by omega
          rfl
        · subst h1
          have : n ≤ 1 := by omega
          match n, this with
          | 0, _ => rfl
          | 1, _ => rfl
      have HFE := Lib.hid hfe
      clear hfe
      have d1 : (n : Int) < (k : Int) + 1 := by omega
      go_wp2_with fail
      go_ret
      exact ⟨by rw [HFE.out]; rfl, rfl⟩

theorem rankCount (n : Nat) (w : World) (h : n ≤ 10) :
    Calls Try.prog 34 #[.int .i64 n] w fun e w' => e = .returned (.tuple #[.int .i64 (facN n : Nat), .int .i64 0]) ∧ w = w' := by
  have d1 : decide ((n : Int) < 0) = false := decide_eq_false (by omega)
  have d2 : decide ((10 : Int) < (n : Int)) = false := decide_eq_false (by omega)
  go_enter Try.func34, Try.ntmps34
  go_wp2_with fail
  refine (rankFac n _ h).mono ?_; rintro e w' ⟨rfl, rfl⟩
  go_wp2_with fail
  go_ret2
  exact ⟨rfl, rfl⟩

set_option maxHeartbeats 1000000 in
theorem poolFac (n : Nat) (w : World) (h : n ≤ 10) :
    Calls Try.prog 54 #[.int .i64 n] w fun e w' => e = .returned (.int .i64 (facN n : Nat)) ∧ w = w' := by
  go_enter Try.func54, Try.ntmps54
  go_wp2_with fail
  go_loop [3, 4] (fun o i => ∃ k : Nat, 1 ≤ k ∧ (k ≤ n ∨ k = 1) ∧ i = .int .i64 ((k : Int) + 1) ∧ o = .int .i64 (facN k : Nat)) (fun _ i => n + 1 - (intOf i).toNat)
  case atStart => exact ⟨1, by omega, by omega, rfl, rfl⟩
  case round =>
    obtain ⟨k, hk1, hk, rfl, rfl⟩ := hrel
    by_cases hlt : k + 1 ≤ n
    · have b1 := facN_10 k (by omega)
      have b2 := facN_10 (k + 1) (by omega)
      have b3 := facN_pos k
      have hst : (facN k : Int) * ((k : Int) + 1) = (facN (k + 1) : Nat) := by rw [facN, Int.natCast_mul, Int.mul_comm]; rfl
      obtain ⟨f1, hf1⟩ : ∃ f, facN k = f := ⟨_, rfl⟩
      obtain ⟨f2, hf2⟩ : ∃ f, facN (k + 1) = f := ⟨_, rfl⟩
      rw [hf1] at b1 b3 hst ⊢
      rw [hf2] at b2 hst
      have HF2 := Lib.hid hf2
      clear hf1 hf2
      have d1 : (k : Int) + 1 ≤ (n : Int) := by omega
      go_wp2_with fail
      exact ⟨⟨k + 1, by omega, by omega, by simp, by rw [HF2.out]⟩, by simp only [intOf]; omega⟩
    · have hfe : (facN k : Int) = (facN n : Nat) := by
        rcases hk with h1 | h1
        · obtain rfl : k = n := by omega
          rfl
        · subst h1
          have : n ≤ 1 := by omega
          match n, this with
          | 0, _ => rfl
          | 1, _ => rfl
      have HFE := Lib.hid hfe
      clear hfe
      have d1 : (n : Int) < (k : Int) + 1 := by omega
      go_wp2_with fail
      go_ret
      exact ⟨by rw [HFE.out]; rfl, rfl⟩


def waysN (n k : Nat) : Nat := if n < k then facN n else facN k * facN (n - k)
theorem poolWays (n k : Nat) (w : World) (h : n ≤ 10) (k1 : 1 ≤ k) (k12 : k ≤ 12) :
    Calls Try.prog 35 #[.int .i64 n, .int .i64 k] w fun e w' => e = .returned (.tuple #[.int .i64 (waysN n k : Nat), .int .i64 0]) ∧ w = w' := by
  have d1 : decide ((n : Int) < 0) = false := decide_eq_false (by omega)
  have d2 : decide ((10 : Int) < (n : Int)) = false := decide_eq_false (by omega)
  have d3 : decide ((k : Int) < 1) = false := decide_eq_false (by omega)
  have d4 : decide ((12 : Int) < (k : Int)) = false := decide_eq_false (by omega)
  by_cases hlt : n < k
  · have d5 : (n : Int) < (k : Int) := by omega
    have hw : waysN n k = facN n := if_pos hlt
    have HW := Lib.hid hw
    clear hw
    go_enter Try.func35, Try.ntmps35
    go_wp2_with fail
    refine (poolFac n _ h).mono ?_; rintro e w' ⟨rfl, rfl⟩
    rw [← HW.out]
    go_wp2_with fail
    go_ret2
    exact ⟨rfl, rfl⟩
  · obtain ⟨m, hnm⟩ : ∃ m, n = k + m := ⟨n - k, by omega⟩
    have d5 : ¬ ((n : Int) < (k : Int)) := by omega
    have hw : waysN n k = facN k * facN m := by unfold waysN; rw [if_neg hlt, hnm, Nat.add_sub_cancel_left]
    have hsub : (n : Int) - (k : Int) = (m : Int) := by omega
    have hmul : (facN k : Int) * (facN m : Nat) = ((facN k * facN m : Nat) : Int) := by rw [Int.natCast_mul]
    have hb1 := facN_10 k (by omega)
    have hb2 := facN_10 m (by omega)
    have hb3 : facN k * facN m ≤ 3628800 * 3628800 := Nat.mul_le_mul hb1 hb2
    have HW := Lib.hid hw; have HM := Lib.hid hmul
    have hm10 : m ≤ 10 := by omega
    have hk10 : k ≤ 10 := by omega
    clear hw hmul hnm hlt
    go_enter Try.func35, Try.ntmps35
    go_wp2_with fail
    refine (poolFac k _ hk10).mono ?_; rintro e w' ⟨rfl, rfl⟩
    go_wp2_with fail
    refine (poolFac m _ hm10).mono ?_; rintro e w' ⟨rfl, rfl⟩
    obtain ⟨x, hx⟩ : ∃ x, facN k = x := ⟨_, rfl⟩
    obtain ⟨y, hy⟩ : ∃ y, facN m = y := ⟨_, rfl⟩
    have hm2 := HM.out
    have hw2 := HW.out
    rw [hx, hy] at hb3 hm2 hw2
    rw [hx, hy]
    obtain ⟨z, hz⟩ : ∃ z, x * y = z := ⟨_, rfl⟩
    rw [hz] at hb3 hm2 hw2
    have HW2 := Lib.hid hw2
    clear hx hy hw2 hz
    go_wp2_with fail
    go_ret2
    exact ⟨by rw [HW2.out]; rfl, rfl⟩
set_option maxRecDepth 100000 in
theorem insSort0 (ad : Option Addr) (cap : Nat) (w : World) :
    Calls Try.prog 61 #[.slice ad 0 cap, .int .i64 0, .int .i64 0] w fun e w' => e = .returned (.tuple #[]) ∧ w = w' := by
  go_enter Try.func61, Try.ntmps61
  go_wp2_with fail
  go_loop [6] (fun i => i = .int .i64 1) (fun _ => 0)
  case atStart => rfl
  case round =>
    obtain rfl := hrel
    go_wp2_with fail
    go_end0
    exact ⟨rfl, rfl⟩
set_option maxRecDepth 100000 in
set_option maxHeartbeats 1000000 in
theorem pdqSmall0 (ad : Option Addr) (cap : Nat) (x : Int) (w : World) :
    Calls Try.prog 57 #[.slice ad 0 cap, .int .i64 0, .int .i64 0, .int .i64 x] w fun e w' => e = .returned (.tuple #[]) ∧ w = w' := by
  go_enter Try.func57, Try.ntmps57
  go_wp2_with fail
  go_loop [1, 2, 3] (fun a b l => a = .int .i64 0 ∧ b = .int .i64 0) (fun _ _ _ => 0)
  case atStart => exact ⟨rfl, rfl⟩
  case round =>
    obtain ⟨rfl, rfl⟩ := hrel
    go_wp2_with fail
    refine (insSort0 ad cap _).mono ?_; rintro e w' ⟨rfl, rfl⟩
    go_wp2_with fail
    refine bodyPost_ret (results_none rfl _ _ _) rfl ?_
    exact ⟨rfl, rfl⟩
set_option maxRecDepth 100000 in
theorem slSort0 (ad : Option Addr) (cap : Nat) (w : World) :
    Calls Try.prog 40 #[.slice ad 0 cap] w fun e w' => e = .returned (.tuple #[]) ∧ w = w' := by
  go_enter Try.func40, Try.ntmps40
  go_wp2_with fail
  refine (len_12 0 (by omega) _).mono ?_; rintro e w' ⟨⟨x, rfl⟩, rfl⟩
  go_wp2_with fail
  refine (pdqSmall0 ad cap x _).mono ?_; rintro e w' ⟨rfl, rfl⟩
  go_wp2_with fail
  go_end0
  exact ⟨rfl, rfl⟩
set_option maxRecDepth 100000 in
theorem poolChosen0 (k : Nat) (a : Option Addr) (ca : Nat) (w : World) (k1 : 1 ≤ k) (k12 : k ≤ 12) :
    Calls Try.prog 37 #[.int .i64 k, .slice a 0 ca] w (OneSl [] 0 0 w) := by
  go_enter Try.func37, Try.ntmps37
  go_wp2_with fail
  refine (poolRun [] 0 k _ _ _ (Sa.nil _ _) rfl (fun i hi => by simp at hi) (by omega) k1 k12).mono ?_; rintro e w1 ⟨ad, cp, rfl, hcp, F1⟩
  rw [Nat.zero_min] at hcp F1 ⊢
  have HF1 := Lib.hid F1
  clear F1
  go_wp2_with fail
  refine (slSort0 ad cp _).mono ?_; rintro e w2 ⟨rfl, rfl⟩
  go_wp2_with fail
  go_ret2
  exact ⟨_, _, rfl, hcp, HF1.out⟩
end Go.Proofs.Ytgblmbhbbjgdiaa
