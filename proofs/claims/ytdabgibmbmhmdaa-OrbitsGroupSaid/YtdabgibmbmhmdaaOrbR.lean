/- What one order makes; rings: in plain words. -/
import Derived.Test.YtdabgibmbmhmdaaOrbL
namespace Go.Proofs.Ytdabgibmbmhmdaa
open Go.RowKit

/-- an order, so many times -/
def itT (n : Nat) (p : List Int) : Nat → List Int
  | 0 => oneP n
  | k + 1 => tmL p (itT n p k)
theorem gen_it (n : Nat) (p : List Int) : ∀ k, Gen n [p] (itT n p k)
  | 0 => .one
  | k + 1 => .step _ _ (by simp) (gen_it n p k)
theorem oneGrp {n m : Nat} {p : List Int} (hp : Pn n p) (h0 : 0 < m) (hm : itT n p m = oneP n) (hs : ((List.range m).map (itT n p)).Pairwise (fun a b => lexC a b < 0)) : IsGrp n [p] ((List.range m).map (itT n p)) := by
  refine ⟨fun q hq => by rw [List.mem_singleton] at hq; subst hq; exact hp, hs, fun q => ⟨fun hq => ?_, fun hg => ?_⟩⟩
  · obtain ⟨k, -, rfl⟩ := List.mem_map.1 hq
    exact gen_it n p k
  · induction hg with
    | one => exact List.mem_map.2 ⟨0, List.mem_range.2 h0, rfl⟩
    | step p' q hp' _ ih =>
      rw [List.mem_singleton] at hp'
      subst hp'
      obtain ⟨k, hk, rfl⟩ := List.mem_map.1 ih
      have hk := List.mem_range.1 hk
      by_cases e : k + 1 = m
      · subst e
        exact List.mem_map.2 ⟨0, List.mem_range.2 h0, hm.symm⟩
      · exact List.mem_map.2 ⟨k + 1, List.mem_range.2 (by omega), rfl⟩
/-- a ring of p -/
def ringL (p : Nat) : List Int := (List.range p).map fun j : Nat => (((j + 1) % p : Nat) : Int)
def rotL (p : Nat) : List (List Int) := (List.range p).map (itT p (ringL p))
theorem pn_of {n : Nat} {p : List Int} (hl : p.length = n) (h1 : ∀ i, i < p.length → 0 ≤ nth p i ∧ nth p i < p.length) (h2 : ∀ i, i < p.length → ∀ j, j < p.length → nth p i = nth p j → i = j) : Pn n p := ⟨hl, isP_lit p h1 h2⟩
theorem ring2 : IsGrp 2 [ringL 2] (rotL 2) := oneGrp (pn_of (by decide) (by decide) (by decide)) (by decide) (by decide) (by decide)
theorem ring3 : IsGrp 3 [ringL 3] (rotL 3) := oneGrp (pn_of (by decide) (by decide) (by decide)) (by decide) (by decide) (by decide)
theorem ring5 : IsGrp 5 [ringL 5] (rotL 5) := oneGrp (pn_of (by decide) (by decide) (by decide)) (by decide) (by decide) (by decide)
theorem ringGrp {p : Nat} (h : p = 2 ∨ p = 3 ∨ p = 5) : IsGrp p [ringL p] (rotL p) := by
  rcases h with rfl | rfl | rfl
  · exact ring2
  · exact ring3
  · exact ring5
theorem ring_col : ∀ p ∈ [2, 3, 5], ∀ k, k < 11 → colS (rotL p) k (rotL p).length / (rotL p).length = k + (k ^ p - k) / p ∧ (k ^ p - k) % p = 0 ∧ k ≤ k ^ p := by decide +kernel
theorem ring_len (p : Nat) : (ringL p).length = p ∧ (rotL p).length = p := by simp [ringL, rotL]
theorem turns_col : colS (rotL 3) 2 (rotL 3).length / (rotL 3).length = 4 := by decide +kernel
end Go.Proofs.Ytdabgibmbmhmdaa
