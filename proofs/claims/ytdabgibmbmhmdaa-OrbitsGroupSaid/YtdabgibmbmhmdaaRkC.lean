/- Contract of rank.Count. -/
import Derived.Test.YtdabgibmbmhmdaaRankM
namespace Go.Proofs.Ytdabgibmbmhmdaa
open Go.RowKit

set_option maxHeartbeats 1000000 in
theorem rankFac (n : Nat) (w : World) (h : n ≤ 10) :
    Calls Try.prog 94 #[.int .i64 n] w fun e w' => e = .returned (.int .i64 (facN n : Nat)) ∧ w = w' := by
  go_enter Try.func94, Try.ntmps94
  go_wp2_with fail
  go_loop [3, 4] (fun o i => ∃ k : Nat, 1 ≤ k ∧ (k ≤ n ∨ k = 1) ∧ i = .int .i64 ((k : Int) + 1) ∧ o = .int .i64 (facN k : Nat)) (fun _ i => n + 1 - (intOf i).toNat)
  case atStart => exact ⟨1, by omega, by omega, rfl, rfl⟩
  case round =>
    obtain ⟨k, hk1, hk, rfl, rfl⟩ := hrel
    by_cases hlt : k + 1 ≤ n
    · have b1 := facN_10 k (by omega)
      have b2 := facN_10 (k + 1) (by omega)
      have b3 := facN_pos k
      have hst : (facN k : Int) * ((k : Int) + 1) = (facN (k + 1) : Nat) := by rw [facN, Int.natCast_mul, Int.mul_comm]; rfl
      obtain ⟨f1, hf1⟩ : ∃ f, facN k = f := ⟨_, rfl⟩
      obtain ⟨f2, hf2⟩ : ∃ f, facN (k + 1) = f := ⟨_, rfl⟩
      rw [hf1] at b1 b3 hst ⊢
      rw [hf2] at b2 hst
      have HF2 := Lib.hid hf2
      clear hf1 hf2
      have d1 : (k : Int) + 1 ≤ (n : Int) := by omega
      go_wp2_with fail
      exact ⟨⟨k + 1, by omega, by omega, by simp, by rw [HF2.out]⟩, by simp only [intOf]; omega⟩
    · have hfe : (facN k : Int) = (facN n : Nat) := by
        rcases hk with h1 | h1
        · obtain rfl : k = n := by omega
          rfl
        · subst h1
          have : n ≤ 1 := by omega
          match n, this with
          | 0, _ => rfl
          | 1, _ => rfl
      have HFE := Lib.hid hfe
      clear hfe
      have d1 : (n : Int) < (k : Int) + 1 := by omega
      go_wp2_with fail
      go_ret
      exact ⟨by rw [HFE.out]; rfl, rfl⟩

theorem rankCount (n : Nat) (w : World) (h : n ≤ 10) :
    Calls Try.prog 56 #[.int .i64 n] w fun e w' => e = .returned (.tuple #[.int .i64 (facN n : Nat), .int .i64 0]) ∧ w = w' := by
  have d1 : decide ((n : Int) < 0) = false := decide_eq_false (by omega)
  have d2 : decide ((10 : Int) < (n : Int)) = false := decide_eq_false (by omega)
  go_enter Try.func56, Try.ntmps56
  go_wp2_with fail
  refine (rankFac n _ h).mono ?_; rintro e w' ⟨rfl, rfl⟩
  go_wp2_with fail
  go_ret2
  exact ⟨rfl, rfl⟩
end Go.Proofs.Ytdabgibmbmhmdaa
