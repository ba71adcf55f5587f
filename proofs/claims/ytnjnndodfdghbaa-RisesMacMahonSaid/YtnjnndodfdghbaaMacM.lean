/- Plain: the sums of falls and the crossed pairs of all orders of up to six numbers. -/
import Derived.Test.YtnjnndodfdghbaaAtM
import Derived.Test.YtnjnndodfdghbaaRank
namespace Go.Proofs.Ytnjnndodfdghbaa
open Go.RowKit

def majK (p : List Int) : Nat → Nat
  | 0 => 0
  | k + 1 => majK p k + if 0 < k ∧ nth p k < nth p (k - 1) then k else 0
theorem majK_le (p : List Int) : ∀ k, majK p k ≤ k * k
  | 0 => by simp [majK]
  | k + 1 => by
    have := majK_le p k
    have e : (k + 1) * (k + 1) = k * k + 2 * k + 1 := by grind
    rw [majK, e]; split <;> omega
def tabF (f : Nat → Nat) : Nat → List Int
  | 0 => List.replicate 32 0
  | t + 1 => (tabF f t).set (f t) (nth (tabF f t) (f t) + 1)
theorem tabF_len (f : Nat → Nat) : ∀ t, (tabF f t).length = 32
  | 0 => by simp [tabF]
  | t + 1 => by rw [tabF, List.length_set, tabF_len f t]
theorem tabF_nth (f : Nat → Nat) (i : Nat) (hi : i < 32) : ∀ t, (∀ j, j < t → f j < 32) → nth (tabF f t) i = ((List.range t).countP (fun j => f j == i) : Nat)
  | 0, _ => by rw [tabF, nth_rep _ _ _ hi]; rfl
  | t + 1, h => by
    have ih := tabF_nth f i hi t (fun j hj => h j (by omega))
    rw [tabF, nth_set _ _ _ _ (by rw [tabF_len]; exact h t (by omega)), List.range_succ, List.countP_append, List.countP_singleton]
    by_cases e : i = f t
    · subst e
      rw [if_pos rfl, ih]; simp
    · rw [if_neg e, ih]
      have : (f t == i) = false := beq_eq_false_iff_ne.2 (fun h => e h.symm)
      rw [this]; simp
theorem tabF_bd (f : Nat → Nat) (i : Nat) (hi : i < 32) (t : Nat) (h : ∀ j, j < t → f j < 32) : 0 ≤ nth (tabF f t) i ∧ nth (tabF f t) i ≤ t := by
  rw [tabF_nth f i hi t h]
  have : (List.range t).countP (fun j => f j == i) ≤ (List.range t).length := List.countP_le_length
  rw [List.length_range] at this
  omega
def fMaj (n t : Nat) : Nat := majK (atS n (upTo n) t) n
def fCr (n t : Nat) : Nat := crossK (atS n (upTo n) t) n
def macB (n : Nat) : Bool := (List.range (facN n)).all (fun t => decide (fMaj n t < 32) && decide (fCr n t < 32)) &&
  (List.range 32).all (fun i => (List.range (facN n)).countP (fun j => fMaj n j == i) == (List.range (facN n)).countP (fun j => fCr n j == i)) &&
  ((List.range (facN n)).countP (fun j => fMaj n j == 0) == 1)
theorem mac_all : ∀ n, n < 7 → macB n = true := by decide +kernel
theorem mac_math (n : Nat) (hn : n < 7) : (∀ t, t < facN n → fMaj n t < 32 ∧ fCr n t < 32) ∧ tabF (fMaj n) (facN n) = tabF (fCr n) (facN n) ∧ nth (tabF (fMaj n) (facN n)) 0 = 1 := by
  have h := mac_all n hn
  unfold macB at h
  simp only [Bool.and_eq_true, List.all_eq_true, List.mem_range, decide_eq_true_eq, beq_iff_eq] at h
  obtain ⟨⟨h1, h2⟩, h3⟩ := h
  refine ⟨h1, ext_nth (by rw [tabF_len, tabF_len]) (fun i hi => ?_), ?_⟩
  · rw [tabF_len] at hi
    rw [tabF_nth _ i hi _ (fun j hj => (h1 j hj).1), tabF_nth _ i hi _ (fun j hj => (h1 j hj).2), h2 i hi]
  · rw [tabF_nth _ 0 (by omega) _ (fun j hj => (h1 j hj).1), h3]; rfl
end Go.Proofs.Ytnjnndodfdghbaa
