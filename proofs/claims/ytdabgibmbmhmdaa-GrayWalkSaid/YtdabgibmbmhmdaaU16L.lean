/- The reflected code, plain: all numbers once, neighbours one bit apart, also around. -/
import Derived.Test.YtdabgibmbmhmdaaTopM
import Derived.Test.YtdabgibmbmhmdaaU16S
namespace Go.Proofs.Ytdabgibmbmhmdaa
open Go.RowKit

theorem or_pow {x k : Nat} (h : x < 2 ^ k) : x ||| 2 ^ k = x + 2 ^ k := by
  rw [Nat.or_comm, Nat.add_comm]
  exact (Nat.two_pow_add_eq_or_of_lt h 1 |> fun e => by simpa using e.symm)
theorem grayL_nodup : ∀ k, (grayL k).Nodup
  | 0 => by simp [grayL]
  | k + 1 => by
    rw [grayL, List.nodup_append]
    refine ⟨grayL_nodup k, ?_, ?_⟩
    · rw [List.Nodup, List.pairwise_map]
      have hr : ((grayL k).reverse).Nodup := (List.reverse_perm _).nodup_iff.2 (grayL_nodup k)
      refine List.Pairwise.imp_of_mem (fun {a b} ha hb hab => ?_) hr
      have h1 := grayL_lt k a (List.mem_reverse.1 ha)
      have h2 := grayL_lt k b (List.mem_reverse.1 hb)
      rw [or_pow h1, or_pow h2]
      omega
    · intro a ha b hb
      have h1 := grayL_lt k a ha
      obtain ⟨y, hy, rfl⟩ := List.mem_map.1 hb
      have h2 := grayL_lt k y (List.mem_reverse.1 hy)
      rw [or_pow h2]
      omega
theorem grayL_at10 : ∀ m : Nat, m ≤ 10 → ∀ i, i < 2 ^ m → (grayL m).getD i 0 = i ^^^ i / 2 := by decide +kernel
theorem gray_ring : ∀ m : Nat, m ≤ 10 → 1 ≤ m → ∀ i, i < 2 ^ m → onesB ((i ^^^ i / 2) ^^^ (((i + 1) % 2 ^ m) ^^^ ((i + 1) % 2 ^ m) / 2)) 16 = 1 := by decide +kernel
theorem gray_top : ∀ m : Nat, m ≤ 10 → (grayL m).contains (2 ^ m - 1) = true := by decide +kernel
def grI (m : Nat) : List Int := (grayL m).map fun x : Nat => (x : Int)
theorem grI_len (m : Nat) : (grI m).length = 2 ^ m := by simp [grI, grayL_len]
theorem hws_uV (m : Nat) : hws (grayL m) = uV (grI m) := by simp [hws, uV, grI]
theorem grI_at (m i : Nat) (hm : m ≤ 10) (hi : i < 2 ^ m) : nth (grI m) i = ((i ^^^ i / 2 : Nat) : Int) := by
  rw [← grayL_at10 m hm i hi]
  simp [nth, grI, grayL_len, hi]
theorem grI_nodup (m : Nat) : (grI m).Nodup := by
  unfold grI
  rw [List.Nodup, List.pairwise_map]
  exact (grayL_nodup m).imp fun h e => h (by omega)
theorem grI_max {m : Nat} (hm : m ≤ 10) {x : Int} (h : x ∈ grI m ∧ ∀ y ∈ grI m, y ≤ x) : x = ((2 ^ m - 1 : Nat) : Int) := by
  obtain ⟨h1, h2⟩ := h
  obtain ⟨a, ha, rfl⟩ := List.mem_map.1 h1
  have hlt := grayL_lt m a ha
  have htop : ((2 ^ m - 1 : Nat) : Int) ∈ grI m := List.mem_map.2 ⟨2 ^ m - 1, by simpa using gray_top m hm, rfl⟩
  have := h2 _ htop
  omega
/-- what stands side by side in a permutation is not the same -/
theorem perm_apart {d l : List Int} (hp : d.Perm l) (hl : l.Nodup) (k : Nat) (hk : k + 1 < d.length) : nth d (k + 1) ≠ nth d k := by
  have hd : d.Nodup := hp.nodup_iff.2 hl
  have e1 : nth d (k + 1) = d[k + 1] := by simp [nth, hk]
  have e2 : nth d k = d[k] := by simp [nth, show k < d.length by omega]
  rw [e1, e2]
  exact fun e => (List.pairwise_iff_getElem.1 hd k (k + 1) (by omega) hk (by omega)) e.symm
end Go.Proofs.Ytdabgibmbmhmdaa
