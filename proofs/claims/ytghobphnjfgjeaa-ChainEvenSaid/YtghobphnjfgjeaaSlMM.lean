/- slices.Max and slices.Min over ints. -/
import Derived.Test.YtghobphnjfgjeaaArr2
namespace Go.Proofs.Ytghobphnjfgjeaa
open Go.RowKit

def maxK (l : List Int) : Nat → Int
  | 0 => nth l 0
  | k + 1 => if maxK l k < nth l k then nth l k else maxK l k
def minK (l : List Int) : Nat → Int
  | 0 => nth l 0
  | k + 1 => if nth l k < minK l k then nth l k else minK l k
theorem maxK_ge (l : List Int) : ∀ k j, j < k → nth l j ≤ maxK l k
  | 0, j, h => by omega
  | k + 1, j, h => by
    rw [maxK]
    by_cases e : j = k
    · subst e; split <;> omega
    · have := maxK_ge l k j (by omega); split <;> omega
theorem maxK_at (l : List Int) : ∀ k, maxK l k = nth l 0 ∨ ∃ j, j < k ∧ maxK l k = nth l j
  | 0 => .inl rfl
  | k + 1 => by
    rw [maxK]
    split
    · exact .inr ⟨k, by omega, rfl⟩
    · rcases maxK_at l k with h | ⟨j, h1, h2⟩
      · exact .inl h
      · exact .inr ⟨j, by omega, h2⟩
theorem minK_le (l : List Int) : ∀ k j, j < k → minK l k ≤ nth l j
  | 0, j, h => by omega
  | k + 1, j, h => by
    rw [minK]
    by_cases e : j = k
    · subst e; split <;> omega
    · have := minK_le l k j (by omega); split <;> omega
theorem minK_at (l : List Int) : ∀ k, minK l k = nth l 0 ∨ ∃ j, j < k ∧ minK l k = nth l j
  | 0 => .inl rfl
  | k + 1 => by
    rw [minK]
    split
    · exact .inr ⟨k, by omega, rfl⟩
    · rcases minK_at l k with h | ⟨j, h1, h2⟩
      · exact .inl h
      · exact .inr ⟨j, by omega, h2⟩

set_option maxHeartbeats 1000000 in
theorem slMaxK (l : List Int) (n : Nat) (a : Option Addr) (cap : Nat) (w : World) (h : Sa w a (ints l)) (hn : l.length = n) (h0 : 0 < n) (hl : n ≤ 1000000) :
    Calls Try.prog 38 #[.slice a n cap] w fun e w' => e = .returned (.int .i64 (maxK l n)) ∧ w = w' := by
  have HN := Lib.hid hn; have HS := Lib.hid h
  clear hn h
  have hc0 := HS.out.int 0 (by rw [HN.out]; exact h0)
  obtain ⟨b, off, rfl, hb, hc0⟩ := hc0
  rw [Nat.add_zero] at hc0
  go_enter Try.func38, Try.ntmps38
  go_wp2_with fail
  go_loop [3, 4] (fun m i => ∃ k : Nat, 0 < k ∧ k ≤ n ∧ m = .int .i64 (maxK l k) ∧ i = .int .i64 k) (fun _ i => n - (intOf i).toNat)
  case atStart => exact ⟨1, by omega, by omega, by rw [maxK, maxK]; simp, rfl⟩
  case round =>
    obtain ⟨k, hk0, hk, rfl, rfl⟩ := hrel
    by_cases hlt : k < n
    · obtain ⟨_, _, e, _, hc⟩ := HS.out.int k (by rw [HN.out]; exact hlt)
      cases e
      have hst := Lib.hid (show maxK l (k + 1) = if maxK l k < nth l k then nth l k else maxK l k from rfl)
      obtain ⟨M, hM⟩ : ∃ M, maxK l k = M := ⟨_, rfl⟩
      obtain ⟨x, hx⟩ : ∃ x, nth l k = x := ⟨_, rfl⟩
      rw [hx] at hc
      have KM := Lib.hid hM; have KX := Lib.hid hx
      rw [hM]
      clear hM hx
      go_wp2_with fail
      exact ⟨⟨k + 1, by omega, by omega, by rw [hst.out, KM.out, KX.out], by simp⟩, by simp only [intOf]; omega⟩
    · obtain rfl : k = n := by omega
      go_wp2_with fail
      go_ret
      exact ⟨rfl, rfl⟩
set_option maxHeartbeats 1000000 in
theorem slMinK (l : List Int) (n : Nat) (a : Option Addr) (cap : Nat) (w : World) (h : Sa w a (ints l)) (hn : l.length = n) (h0 : 0 < n) (hl : n ≤ 1000000) :
    Calls Try.prog 37 #[.slice a n cap] w fun e w' => e = .returned (.int .i64 (minK l n)) ∧ w = w' := by
  have HN := Lib.hid hn; have HS := Lib.hid h
  clear hn h
  have hc0 := HS.out.int 0 (by rw [HN.out]; exact h0)
  obtain ⟨b, off, rfl, hb, hc0⟩ := hc0
  rw [Nat.add_zero] at hc0
  go_enter Try.func37, Try.ntmps37
  go_wp2_with fail
  go_loop [3, 4] (fun m i => ∃ k : Nat, 0 < k ∧ k ≤ n ∧ m = .int .i64 (minK l k) ∧ i = .int .i64 k) (fun _ i => n - (intOf i).toNat)
  case atStart => exact ⟨1, by omega, by omega, by rw [minK, minK]; simp, rfl⟩
  case round =>
    obtain ⟨k, hk0, hk, rfl, rfl⟩ := hrel
    by_cases hlt : k < n
    · obtain ⟨_, _, e, _, hc⟩ := HS.out.int k (by rw [HN.out]; exact hlt)
      cases e
      have hst := Lib.hid (show minK l (k + 1) = if nth l k < minK l k then nth l k else minK l k from rfl)
      obtain ⟨M, hM⟩ : ∃ M, minK l k = M := ⟨_, rfl⟩
      obtain ⟨x, hx⟩ : ∃ x, nth l k = x := ⟨_, rfl⟩
      rw [hx] at hc
      have KM := Lib.hid hM; have KX := Lib.hid hx
      rw [hM]
      clear hM hx
      go_wp2_with fail
      exact ⟨⟨k + 1, by omega, by omega, by rw [hst.out, KM.out, KX.out], by simp⟩, by simp only [intOf]; omega⟩
    · obtain rfl : k = n := by omega
      go_wp2_with fail
      go_ret
      exact ⟨rfl, rfl⟩
end Go.Proofs.Ytghobphnjfgjeaa
