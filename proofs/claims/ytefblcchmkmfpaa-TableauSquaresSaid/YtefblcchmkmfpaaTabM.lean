/- Plain laws of the numbers of tableaux: all shapes of up to ten cells, reckoned. -/
import Derived.Test.YtefblcchmkmfpaaTabC
import Derived.Test.YtefblcchmkmfpaaForms
import Derived.Test.YtefblcchmkmfpaaRankM
namespace Go.Proofs.Ytefblcchmkmfpaa
open Go.RowKit

def shpB (l : List Int) : Bool :=
  (List.range l.length).all (fun i => decide (1 ≤ nth l i)) && (List.range l.length).all (fun i => decide (i + 1 < l.length → nth l (i + 1) ≤ nth l i)) && (List.range (l.length + 1)).all (fun i => decide (psumL l i ≤ 12))
theorem shp_of {l : List Int} (h : shpB l = true) : Shp l := by
  unfold shpB at h
  rw [Bool.and_eq_true, Bool.and_eq_true, List.all_eq_true, List.all_eq_true, List.all_eq_true] at h
  obtain ⟨⟨h1, h2⟩, h3⟩ := h
  exact ⟨fun i hi => of_decide_eq_true (h1 i (List.mem_range.2 hi)), fun i hi => of_decide_eq_true (h2 i (List.mem_range.2 (by omega))) hi, fun i hi => of_decide_eq_true (h3 i (List.mem_range.2 (by omega)))⟩
/-- one cell taken from row i -/
def cutR (l : List Int) (i : Nat) : List Int := if nth l i - 1 = 0 then (l.set i (nth l i - 1)).take i else l.set i (nth l i - 1)
/-- may a cell be taken there? -/
def corner (l : List Int) (i : Nat) : Bool := decide (i + 1 = l.length) || decide (nth l (i + 1) < nth l i)
def lessK (l : List Int) : Nat → Int
  | 0 => 0
  | i + 1 => lessK l i + if corner l i = true then cntL (cutR l i) else 0
def okT (l : List Int) : Bool :=
  shpB l && decide (0 ≤ cntL l ∧ cntL l ≤ 1000) && decide (l.length ≤ 10) && ((List.range l.length).all fun i => !corner l i || (shpB (cutR l i) && decide (0 ≤ cntL (cutR l i) ∧ cntL (cutR l i) ≤ 1000))) &&
    (decide (l = []) || decide (cntL l = lessK l l.length))
def sqs : List (List Int) → Int
  | [] => 0
  | l :: r => cntL l * cntL l + sqs r
theorem forms_ok : ∀ n, n < 11 → ∀ l ∈ fL n n n, okT l = true := by decide +kernel
theorem forms_sq : ∀ n, n < 11 → sqs (fL n n n) = (facN n : Int) := by decide +kernel
theorem forms_few : ∀ n, n < 11 → 1 ≤ (fL n n n).length ∧ (fL n n n).length ≤ 42 := by decide +kernel
theorem forms_nil : ∀ n, n < 11 → ∀ l ∈ fL n n n, n = 0 ∨ l ≠ [] := by decide +kernel
theorem sqs_snoc : ∀ (a : List (List Int)) (l : List Int), sqs (a ++ [l]) = sqs a + cntL l * cntL l
  | [], l => by simp [sqs]
  | x :: a, l => by rw [List.cons_append, sqs, sqs, sqs_snoc a l]; omega
end Go.Proofs.Ytefblcchmkmfpaa
