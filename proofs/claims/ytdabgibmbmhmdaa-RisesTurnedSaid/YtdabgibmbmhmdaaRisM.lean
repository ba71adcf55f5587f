/- Plain laws of falls and crossings: from behind, and undone. -/
import Derived.Test.YtdabgibmbmhmdaaCycP
import Derived.Test.YtdabgibmbmhmdaaCrs
namespace Go.Proofs.Ytdabgibmbmhmdaa
open Go.RowKit

theorem sumN_first (F : Nat → Nat) : ∀ m, sumN F (m + 1) = F 0 + sumN (fun i => F (i + 1)) m
  | 0 => by simp [sumN]
  | m + 1 => by rw [sumN, sumN_first F m, sumN]; omega
theorem sumN_rev (F : Nat → Nat) : ∀ m, sumN (fun i => F (m - 1 - i)) m = sumN F m
  | 0 => rfl
  | m + 1 => by
    rw [sumN_first]
    have : sumN (fun i => F (m + 1 - 1 - (i + 1))) m = sumN (fun i => F (m - 1 - i)) m := sumN_congr m fun i _ => by congr 1; omega
    rw [this, sumN_rev F m, sumN]
    have : m + 1 - 1 - 0 = m := by omega
    rw [this]; omega
theorem sumN_comm (F : Nat → Nat → Nat) (n : Nat) : ∀ m, sumN (fun i => sumN (fun j => F i j) n) m = sumN (fun j => sumN (fun i => F i j) m) n
  | 0 => by simp only [sumN]; exact (sumN_zero n).symm
  | m + 1 => by
    rw [sumN, sumN_comm F n m, ← sumN_add]
    exact sumN_congr n fun j _ => by rw [sumN]
theorem sumN_cut (F : Nat → Nat) (k : Nat) : ∀ n, k ≤ n → sumN (fun j => if j < k then F j else 0) n = sumN F k
  | 0, h => by rw [show k = 0 by omega]; rfl
  | n + 1, h => by
    by_cases e : k = n + 1
    · subst e; exact sumN_congr _ fun i hi => by rw [if_pos hi]
    · rw [sumN, sumN_cut F k n (by omega), if_neg (by omega)]; rfl
/-- how often it falls, up to the place m -/
def fallN (p : List Int) (m : Nat) : Nat := sumN (fun i => if nth p (i + 1) < nth p i then 1 else 0) m
theorem nth_rev (l : List Int) (i : Nat) (h : i < l.length) : nth l.reverse i = nth l (l.length - 1 - i) := by
  unfold nth
  rw [List.getD_eq_getElem?_getD, List.getD_eq_getElem?_getD, List.getElem?_reverse h]
theorem fall_rev {p : List Int} (h : IsP p) : fallN p (p.length - 1) + fallN p.reverse (p.length - 1) = p.length - 1 := by
  unfold fallN
  rw [← sumN_rev (fun i => if nth p.reverse (i + 1) < nth p.reverse i then 1 else 0), ← sumN_add]
  have : sumN (fun i => (if nth p (i + 1) < nth p i then 1 else 0) + if nth p.reverse (p.length - 1 - 1 - i + 1) < nth p.reverse (p.length - 1 - 1 - i) then 1 else 0) (p.length - 1) = sumN (fun _ => 1) (p.length - 1) := sumN_congr _ fun i hi => by
    rw [nth_rev _ _ (by omega), nth_rev _ _ (by omega), show p.length - 1 - (p.length - 1 - 1 - i + 1) = i by omega, show p.length - 1 - (p.length - 1 - 1 - i) = i + 1 by omega]
    have hne : nth p i ≠ nth p (i + 1) := fun e => by have := h.inj i (i + 1) (by omega) (by omega) e; omega
    by_cases c : nth p (i + 1) < nth p i
    · rw [if_pos c, if_neg (by omega)]
    · rw [if_neg c, if_pos (by omega)]
  rw [this, sumN_one]
theorem more_sum (p : List Int) (x : Int) : ∀ k, k ≤ p.length → moreC x (p.take k) = sumN (fun j => if x < nth p j then 1 else 0) k
  | 0, _ => by simp [moreC, sumN]
  | k + 1, h => by rw [take_nth p k (by omega), moreC_snoc, more_sum p x k (by omega), sumN]
theorem cross_sum (p : List Int) : ∀ k, k ≤ p.length → crossK p k = sumN (fun k => sumN (fun j => if j < k ∧ nth p k < nth p j then 1 else 0) p.length) k
  | 0, _ => rfl
  | k + 1, h => by
    have e := sumN_cut (fun j => if nth p k < nth p j then 1 else 0) k p.length (by omega)
    rw [crossK, cross_sum p k (by omega), sumN, more_sum p _ k (by omega), ← e]
    congr 1
    refine sumN_congr _ fun j _ => ?_
    by_cases c : j < k
    · simp [c]
    · simp [c]
theorem cross_inv {p : List Int} (h : IsP p) : crossK (invL p) p.length = crossK p p.length := by
  have hl := invL_len p
  rw [show crossK (invL p) p.length = crossK (invL p) (invL p).length by rw [hl], cross_sum _ _ (Nat.le_refl _), cross_sum _ _ (Nat.le_refl _), hl]
  rw [← sumN_perm h (fun k => sumN (fun j => if j < k ∧ nth (invL p) k < nth (invL p) j then 1 else 0) p.length)]
  have : sumN (fun i => sumN (fun j => if j < pf p i ∧ nth (invL p) (pf p i) < nth (invL p) j then 1 else 0) p.length) p.length = sumN (fun i => sumN (fun j => if i < j ∧ nth p j < nth p i then 1 else 0) p.length) p.length := by
    refine sumN_congr _ fun i hi => ?_
    rw [← sumN_perm h (fun j => if j < pf p i ∧ nth (invL p) (pf p i) < nth (invL p) j then 1 else 0)]
    refine sumN_congr _ fun j hj => ?_
    have e1 : nth (invL p) (pf p i) = i := invL_at h i hi
    have e2 : nth (invL p) (pf p j) = j := invL_at h j hj
    have e3 := (h.at i hi).2
    have e4 := (h.at j hj).2
    rw [e1, e2]
    have : (pf p j < pf p i ∧ (i : Int) < (j : Int)) ↔ (i < j ∧ nth p j < nth p i) := by
      unfold pf
      constructor
      · rintro ⟨a, b⟩; exact ⟨by omega, by omega⟩
      · rintro ⟨a, b⟩; exact ⟨by omega, by omega⟩
    simp only [this]
  rw [this, sumN_comm]
theorem gtC_rev (x : Int) (l : List Int) : gtC x l.reverse = gtC x l := by unfold gtC; exact (List.reverse_perm l).countP_eq _
theorem xx_nil (A : List Int) : xx A [] = 0 := by
  induction A with
  | nil => rfl
  | cons a A ih => rw [xx, ih]; rfl
theorem inv_rev : ∀ l : List Int, l.Nodup → 2 * (invN l + invN l.reverse) + l.length = l.length * l.length
  | [], _ => rfl
  | x :: l, h => by
    rw [List.nodup_cons] at h
    have ih := inv_rev l h.2
    have h1 := lt_gt x l h.1
    rw [List.reverse_cons, invN_split, xx_cons, xx_nil, gtC_rev, invN, invN, invN, List.length_cons]
    have : lessC x [] = 0 := rfl
    have e : (l.length + 1) * (l.length + 1) = l.length * l.length + 2 * l.length + 1 := by rw [Nat.add_mul, Nat.mul_add]; omega
    omega
theorem isP_nodup {p : List Int} (h : IsP p) : p.Nodup := by
  refine List.pairwise_iff_getElem.2 fun i j hi hj hij e => ?_
  have := h.inj i j hi hj (by simp [nth, hi, hj, e])
  omega
theorem cross_N (p : List Int) : crossK p p.length = invN p := by
  have h1 := crossK_code p
  rw [← invN_code] at h1; omega
theorem cross_rev {p : List Int} (h : IsP p) : 2 * (crossK p p.length + crossK p.reverse p.length) + p.length = p.length * p.length := by
  have := inv_rev p (isP_nodup h)
  rw [cross_N]
  have e : crossK p.reverse p.length = invN p.reverse := by have := cross_N p.reverse; rwa [List.length_reverse] at this
  rw [e]; exact this
theorem rev_isP {p : List Int} (h : IsP p) : IsP p.reverse := by
  refine ⟨fun i hi => ?_, fun i j hi hj e => ?_⟩
  · rw [List.length_reverse] at hi ⊢
    rw [nth_rev _ _ hi]; exact h.bd _ (by omega)
  · rw [List.length_reverse] at hi hj
    rw [nth_rev _ _ hi, nth_rev _ _ hj] at e
    have := h.inj _ _ (by omega) (by omega) e
    omega
end Go.Proofs.Ytdabgibmbmhmdaa
