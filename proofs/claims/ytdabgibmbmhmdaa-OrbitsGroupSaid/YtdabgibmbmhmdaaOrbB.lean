/- Burnside's law over the rows of few colours, in plain words. -/
import Derived.Test.YtdabgibmbmhmdaaOrbL
namespace Go.Proofs.Ytdabgibmbmhmdaa
open Go.RowKit

/-- the row that a number names -/
def digL (n k x : Nat) : List Int := (List.range n).map fun i : Nat => ((x / k ^ i % k : Nat) : Int)
theorem digL_len (n k x : Nat) : (digL n k x).length = n := by simp [digL]
theorem digL_nth (n k x i : Nat) (h : i < n) : nth (digL n k x) i = (x / k ^ i % k : Nat) := by simp [digL, nth, h]
def idxK (k : Nat) : List Int → Nat
  | [] => 0
  | a :: r => a.toNat + k * idxK k r
def rowsX (n k : Nat) : List (List Int) := (List.range (k ^ n)).map (digL n k)
theorem rows_inj : ∀ n < 5, ∀ k < 4, ∀ x < k ^ n, idxK k (digL n k x) = x := by decide +kernel
theorem rows_closed : ∀ n < 5, ∀ k < 4, ∀ g ∈ allP n, ∀ x ∈ rowsX n k, idxK k (actL g x) < k ^ n ∧ digL n k (idxK k (actL g x)) = actL g x := by decide +kernel
theorem rows_fix : ∀ n < 5, ∀ k < 4, ∀ g ∈ allP n, ((rowsX n k).filter fun x => decide (actL g x = x)).length = k ^ cycN g := by decide +kernel
/-- how many of the first j are the least of their own -/
def minC (G : List (List Int)) (n k j : Nat) : Nat := ((List.range j).filter fun x => decide (leastL G (digL n k x) = digL n k x)).length
theorem minC_succ (G : List (List Int)) (n k j : Nat) : minC G n k (j + 1) = minC G n k j + if leastL G (digL n k j) = digL n k j then 1 else 0 := by
  unfold minC
  rw [List.range_succ, List.filter_append, List.length_append]
  congr 1
  by_cases h : leastL G (digL n k j) = digL n k j
  · rw [if_pos h]; simp [h]
  · rw [if_neg h]; simp [h]
theorem minC_le (G : List (List Int)) (n k j : Nat) : minC G n k j ≤ j := by
  have := List.length_filter_le (fun x => decide (leastL G (digL n k x) = digL n k x)) (List.range j)
  rw [List.length_range] at this; exact this
theorem colours_least {n k : Nat} {ls G : List (List Int)} (H : IsGrp n ls G) (n4 : n < 5) (k3 : k < 4) : colS G k G.length / G.length = minC G n k (k ^ n) := by
  have hmem : ∀ x ∈ rowsX n k, x.length = n := fun x hx => by
    obtain ⟨i, -, rfl⟩ := List.mem_map.1 hx
    exact digL_len n k i
  have hG : ∀ g ∈ G, g ∈ allP n := fun g hg => (allP_mem n g).2 (H.pn hg)
  have hcl : ∀ g ∈ G, ∀ x ∈ rowsX n k, actL g x ∈ rowsX n k := fun g hg x hx => by
    obtain ⟨h1, h2⟩ := rows_closed n n4 k k3 g (hG g hg) x hx
    rw [← h2]
    exact List.mem_map.2 ⟨_, List.mem_range.2 h1, rfl⟩
  have hX : (rowsX n k).Nodup := nodup_map List.nodup_range fun a ha b hb e => by
    have h1 := rows_inj n n4 k k3 a (List.mem_range.1 ha)
    have h2 := rows_inj n n4 k k3 b (List.mem_range.1 hb)
    rw [e] at h1; omega
  have hb := burnside G (rowsX n k) hX tmL actL (leastL G) hcl (fun g hg h hh x _ => actL_mul (H.pn hg) (H.pn hh) x) (fun t ht => H.permR ht)
    (fun g hg x hx y hy e => actL_inj (H.pn hg) (hmem x hx) (hmem y hy) e)
    (fun x hx => by
      obtain ⟨t, ht, e⟩ := least_in H (hmem x hx)
      refine ⟨by rw [e]; exact hcl t ht x hx, invL t, H.inv ht, ?_⟩
      rw [e, actL_inv (H.pn ht) (hmem x hx)])
    (fun x hx g hg => least_turn H (hmem x hx) hg)
  have e1 : colS G k G.length = sumOn G (fun g => ((rowsX n k).filter fun x => decide (actL g x = x)).length) := by
    unfold colS
    rw [List.take_length]
    exact sumOn_congr fun g hg => (rows_fix n n4 k k3 g (hG g hg)).symm
  have e2 : ((rowsX n k).filter fun x => decide (leastL G x = x)).length = minC G n k (k ^ n) := by
    unfold rowsX minC
    rw [List.filter_map, List.length_map]
    rfl
  rw [e1, hb, e2, Nat.mul_div_cancel_left _ H.pos]
end Go.Proofs.Ytdabgibmbmhmdaa
