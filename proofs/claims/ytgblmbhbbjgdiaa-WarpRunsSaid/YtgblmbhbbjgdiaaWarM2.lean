/- Steps of next and turn. -/
import Derived.Test.YtgblmbhbbjgdiaaWarM
namespace Go.Proofs.Ytgblmbhbbjgdiaa
open Go.RowKit

theorem next_yes (L : List Rn) (k : Nat) (ht : (rnA L k).th = true) (h : besW L k < 0 ∨ eW (rnA L k) < leastW L k) : besW L (k + 1) = k ∧ leastW L (k + 1) = eW (rnA L k) := by
  have e : besW L (k + 1) = k := by
    rw [besW, if_pos]
    refine ⟨ht, ?_⟩
    rcases h with h | h
    · exact .inl h
    · by_cases h0 : besW L k < 0
      · exact .inl h0
      · unfold leastW at h; rw [if_neg h0] at h; exact .inr h
  refine ⟨e, ?_⟩
  unfold leastW
  rw [e, if_neg (by omega)]; simp
theorem next_no (L : List Rn) (k : Nat) (h : (rnA L k).th = false ∨ (0 ≤ besW L k ∧ leastW L k ≤ eW (rnA L k))) : besW L (k + 1) = besW L k ∧ leastW L (k + 1) = leastW L k := by
  have e : besW L (k + 1) = besW L k := by
    rw [besW, if_neg]
    rintro ⟨h1, h2⟩
    rcases h with h | ⟨h3, h4⟩
    · rw [h] at h1; cases h1
    · unfold leastW at h4; rw [if_neg (by omega)] at h4; omega
  refine ⟨e, ?_⟩
  unfold leastW
  rw [e]
theorem any_yes (L : List Rn) (k : Nat) (ht : (rnA L k).th = true) (h : anyR L k = false ∨ (rnA L k).ps < lstR L k) : anyR L (k + 1) = true ∧ lstR L (k + 1) = (rnA L k).ps := by
  constructor
  · rw [anyR, ht]; simp
  · rw [lstR, if_pos ⟨ht, h⟩]
theorem any_no (L : List Rn) (k : Nat) (h : (rnA L k).th = false ∨ (anyR L k = true ∧ lstR L k ≤ (rnA L k).ps)) : anyR L (k + 1) = anyR L k ∧ lstR L (k + 1) = lstR L k := by
  constructor
  · rw [anyR]
    rcases h with h | ⟨h, _⟩
    · rw [h]; simp
    · rw [h]; simp
  · rw [lstR, if_neg]
    rintro ⟨h1, h2⟩
    rcases h with h | ⟨h3, h4⟩
    · rw [h] at h1; cases h1
    · rcases h2 with h2 | h2
      · rw [h3] at h2; cases h2
      · omega
theorem turn1 (L : List Rn) (t : Int) (j : Nat) : turnR L ⟨t, j, 1⟩ = L.set j { rnA L j with th := false } := by simp [turnR]
theorem turn2a (L : List Rn) (t : Int) (j : Nat) (h : (rnA L j).th = true) : turnR L ⟨t, j, 2⟩ = L := by simp [turnR, h]
theorem turn2b (L : List Rn) (t : Int) (j n : Nat) (hn : L.length = n) (h : (rnA L j).th = false) (ha : anyR L n = true) : turnR L ⟨t, j, 2⟩ = L.set j { rnA L j with th := true, ps := max (rnA L j).ps (lstR L n) } := by simp [turnR, h, hn, ha]
theorem turn2c (L : List Rn) (t : Int) (j n : Nat) (hn : L.length = n) (h : (rnA L j).th = false) (ha : anyR L n = false) : turnR L ⟨t, j, 2⟩ = L.set j { rnA L j with th := true } := by simp [turnR, h, hn, ha]
theorem turn3 (L : List Rn) (t : Int) (j : Nat) : turnR L ⟨t, j, 3⟩ = L.set j { rnA L j with ah := true } := by simp [turnR]
theorem turn4 (L : List Rn) (t : Int) (j : Nat) : turnR L ⟨t, j, 4⟩ = L.set j { rnA L j with ah := false } := by simp [turnR]
theorem set_th (L : List Rn) (j : Nat) (r : Rn) (hj : j < L.length) (hr : rnA L j = r) (b : Bool) : (rns L).set (j * 5 + 2) (.bool b) = rns (L.set j { r with th := b }) := rns_set L j 2 _ _ hj (by omega) (by rw [hr]; rfl)
theorem set_ah (L : List Rn) (j : Nat) (r : Rn) (hj : j < L.length) (hr : rnA L j = r) (b : Bool) : (rns L).set (j * 5 + 3) (.bool b) = rns (L.set j { r with ah := b }) := rns_set L j 3 _ _ hj (by omega) (by rw [hr]; rfl)
theorem set_ps (L : List Rn) (j : Nat) (r : Rn) (hj : j < L.length) (hr : rnA L j = r) (p : Int) : (rns L).set (j * 5 + 4) (.int .i64 p) = rns (L.set j { r with ps := p }) := rns_set L j 4 _ _ hj (by omega) (by rw [hr]; rfl)
end Go.Proofs.Ytgblmbhbbjgdiaa
