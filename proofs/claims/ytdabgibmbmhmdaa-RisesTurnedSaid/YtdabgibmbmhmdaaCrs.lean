/- Contract of rises.Crossed. -/
import Derived.Test.YtdabgibmbmhmdaaPerm
import Derived.Test.YtdabgibmbmhmdaaRankM
import Derived.Test.YtdabgibmbmhmdaaOneS
namespace Go.Proofs.Ytdabgibmbmhmdaa
open Go.RowKit

def moreC (x : Int) (l : List Int) : Nat := l.countP (fun y => decide (x < y))
theorem moreC_snoc (x y : Int) (l : List Int) : moreC x (l ++ [y]) = moreC x l + if x < y then 1 else 0 := by
  unfold moreC
  rw [List.countP_append, List.countP_singleton]; by_cases h : x < y <;> simp [h]
theorem moreC_le (x : Int) (l : List Int) : moreC x l ≤ l.length := List.countP_le_length
def crossK (p : List Int) : Nat → Nat
  | 0 => 0
  | k + 1 => crossK p k + moreC (nth p k) (p.take k)
theorem crossK_le (p : List Int) : ∀ k, crossK p k ≤ k * k
  | 0 => by simp [crossK]
  | k + 1 => by
    rw [crossK]
    have h1 := crossK_le p k
    have h2 := moreC_le (nth p k) (p.take k)
    rw [List.length_take] at h2
    have : (k + 1) * (k + 1) = k * k + 2 * k + 1 := by rw [Nat.add_mul, Nat.mul_add]; omega
    omega
theorem crossK_A (p : List Int) : ∀ k, k ≤ p.length → crossA (p.take k) (p.drop k) + (crossK p k : Nat) = crossA [] p
  | 0, _ => by simp [crossK]
  | k + 1, hk => by
    have ih := crossK_A p k (by omega)
    have dr : p.drop k = nth p k :: p.drop (k + 1) := by rw [List.drop_eq_getElem_cons (by omega)]; simp [nth, show k < p.length from by omega]
    rw [dr, crossA] at ih
    rw [crossK, take_nth p k (by omega), ← ih]
    have : (p.take k).countP (fun y => decide (nth p k < y)) = moreC (nth p k) (p.take k) := rfl
    rw [this, Int.natCast_add]; omega
theorem crossK_code (p : List Int) : ((crossK p p.length : Nat) : Int) = isumR (codeL p) := by
  rw [← cross_code, ← crossK_A p p.length (Nat.le_refl _), List.take_length, List.drop_of_length_le (Nat.le_refl _), crossA]; omega

set_option maxRecDepth 100000 in
set_option maxHeartbeats 4000000 in
theorem crossed (p : List Int) (n : Nat) (a : Option Addr) (cap : Nat) (w : World) (h : Sa w a (ints p)) (hn : p.length = n) (hp : IsP p) (h10 : n ≤ 10) (hc : n ≤ cap) :
    Calls Try.prog 25 #[.slice a n cap] w fun e w' => e = .returned (.tuple #[.int .i64 (crossK p n : Nat), .int .i64 0]) ∧ Below w.heap.size w w' := by
  have HN := Lib.hid hn; have HS := Lib.hid h; have HP := Lib.hid hp
  clear hn h hp
  go_enter Try.func25, Try.ntmps25
  go_wp2_with fail
  refine (permChk p n _ _ _ HS.out HN.out HP.out h10).mono ?_; rintro e w1 ⟨rfl, hf⟩
  have HSA := Lib.hid (hf.old HS.out)
  go_wp2_with fail
  go_loop [5, 17] (fun o i => ∃ k : Nat, k ≤ n ∧ i = .int .i64 k ∧ o = .int .i64 (crossK p k : Nat)) (fun _ i => n - (intOf i).toNat)
  case atStart => exact ⟨0, by omega, rfl, rfl⟩
  case round =>
    obtain ⟨k, hk, rfl, rfl⟩ := hrel
    by_cases hlt : k < n
    · obtain ⟨b, off, rfl, hb, hcell⟩ := HSA.out.int k (by rw [HN.out]; exact hlt)
      have hkk := crossK_le p k
      have hk100 : crossK p k ≤ 100 := Nat.le_trans hkk (Nat.mul_le_mul (show k ≤ 10 by omega) (show k ≤ 10 by omega))
      have hst : crossK p (k + 1) = crossK p k + moreC (nth p k) (p.take k) := rfl
      obtain ⟨x, hx⟩ : ∃ x, nth p k = x := ⟨_, rfl⟩
      rw [hx] at hcell hst
      obtain ⟨c, hcc⟩ : ∃ c, crossK p k = c := ⟨_, rfl⟩
      rw [hcc] at hst hk100 ⊢
      have HST := Lib.hid hst
      clear hx hcc hst hkk
      have d1 : (0 : Int) ≤ (k : Int) := by omega
      have d2 : (k : Int) < (n : Int) := by omega
      have d3 : (k : Int) ≤ (cap : Int) := by omega
      go_wp2_with fail
      go_loop [5, 26] (fun o j => ∃ j' : Nat, j' ≤ k ∧ j = .int .i64 j' ∧ o = .int .i64 ((c + moreC x (p.take j') : Nat) : Int)) (fun _ j => k - (intOf j).toNat)
      case atStart => exact ⟨0, by omega, rfl, rfl⟩
      case round =>
        obtain ⟨j, hj, rfl, rfl⟩ := hrel
        by_cases hj' : j < k
        · obtain ⟨_, _, e, _, hc2⟩ := HSA.out.int j (by rw [HN.out]; omega)
          cases e
          have hsn := take_nth p j (by rw [HN.out]; omega)
          obtain ⟨y, hy⟩ : ∃ y, nth p j = y := ⟨_, rfl⟩
          rw [hy] at hc2 hsn
          have hle := moreC_le x (p.take j)
          rw [List.length_take] at hle
          have hst2 : moreC x (p.take (j + 1)) = moreC x (p.take j) + if x < y then 1 else 0 := by rw [hsn, moreC_snoc]
          obtain ⟨d, hd⟩ : ∃ d, c + moreC x (p.take j) = d := ⟨_, rfl⟩
          have hd2 : d ≤ 110 := by omega
          have hst3 : c + moreC x (p.take (j + 1)) = d + if x < y then 1 else 0 := by omega
          rw [hd]
          clear hy hsn hle hst2 hd
          by_cases hxy : x < y
          · rw [if_pos hxy] at hst3
            have HS3 := Lib.hid hst3
            clear hst3
            go_wp2_with fail
            exact ⟨⟨j + 1, by omega, by simp, val_int (by rw [HS3.out]; rfl)⟩, by simp only [intOf]; omega⟩
          · rw [if_neg hxy, Nat.add_zero] at hst3
            have HS3 := Lib.hid hst3
            clear hst3
            go_wp2_with fail
            exact ⟨⟨j + 1, by omega, by simp, val_int (by rw [HS3.out]; rfl)⟩, by simp only [intOf]; omega⟩
        · obtain rfl : j = k := by omega
          rw [← HST.out]
          go_wp2_with fail
          exact ⟨⟨j + 1, by omega, by simp, rfl⟩, by simp only [intOf]; omega⟩
    · obtain rfl : k = n := by omega
      go_wp2_with fail
      go_ret2
      exact ⟨rfl, hf.bel⟩
end Go.Proofs.Ytdabgibmbmhmdaa
