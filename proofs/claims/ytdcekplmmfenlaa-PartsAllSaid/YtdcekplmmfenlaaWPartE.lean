/- The walk of the law PartsEuler. -/
import Derived.Test.YtdcekplmmfenlaaPartT
import Derived.Test.YtdcekplmmfenlaaPartC
import Derived.Test.YtdcekplmmfenlaaSlEq2
namespace Go.Proofs.Ytdcekplmmfenlaa
open Go.RowKit

set_option maxHeartbeats 1000000 in
theorem partsLive_any (w : World) : Calls Try.prog 38 #[] w fun e w' => e = .returned (.bool true) ∧ Below w.heap.size w w' := by
  have HP := Lib.hid (show PartOk [3, 1] from by unfold PartOk; decide)
  have e1 : trn [3, 1] = [2, 1, 1] := by decide
  have e2 : ((pN 5 5 : Nat) : Int) = 7 := by decide
  have E1 := Lib.hid e1; have E2 := Lib.hid e2; clear e1 e2
  go_enter Try.func38, Try.ntmps38
  go_wp2_with fail
  have F1 := (Fr.start w).lit [3, 1] #[.int .i64 3, .int .i64 1] rfl 2 rfl (by omega) 3
  refine (partTurned [3, 1] 2 _ _ _ (F1.get 0 rfl) rfl HP.out).mono ?_; rintro e w1 ⟨ad, cp, rfl, hc, hf⟩
  rw [E1.out] at hf hc ⊢
  have F2 := F1.below.call hf
  clear F1 hf
  go_wp2_with fail
  refine (partCount_i _ _ 5 5 _ rfl rfl (by omega) (by omega)).mono ?_; rintro e w2 ⟨rfl, hb⟩
  rw [E2.out]
  replace F2 := F2.keep hb
  clear hb
  go_wp2_with fail
  refine (good2 _ _).mono ?_; rintro e w' ⟨rfl, rfl⟩
  have F3 := (F2.alloc (.cells #[.int .i64 0, .int .i64 0] 24)).lit' [2, 1, 1] #[.int .i64 2, .int .i64 1, .int .i64 1] rfl 3 rfl (by omega) 3 (w2.heap.size + 1) (by simp)
  go_wp2_with fail
  refine (slEqual [2, 1, 1] [2, 1, 1] 3 3 _ _ _ _ _ (F3.get 1 rfl) (F3.get 0 rfl) rfl rfl (by omega) (by omega)).mono ?_; rintro e w4 ⟨rfl, hf⟩
  replace F3 := F3.keep hf.bel
  go_wp2_with fail
  go_ret
  exact ⟨rfl, F3.bel⟩

/-- one of Euler's terms -/
def eTerm (n i f : Nat) : Int := if n < f then 0 else if i % 2 = 1 then (pN (n - f) (n - f) : Nat) else -(pN (n - f) (n - f) : Nat)
def pent1 (i : Nat) : Nat := i * (3 * i - 1) / 2
def pent2 (i : Nat) : Nat := i * (3 * i + 1) / 2
def eSum (n : Nat) : Nat → Int
  | 0 => 0
  | i + 1 => eSum n i + eTerm n (i + 1) (pent1 (i + 1)) + eTerm n (i + 1) (pent2 (i + 1))
def pAt (k n : Nat) : Nat := (pRow k).getD n 0
theorem pAt_eq (k n : Nat) (hn : n < 41) : pAt k n = pN k n := pRow_get k n hn
def eTermA (tab : List Nat) (n i f : Nat) : Int := if n < f then 0 else if i % 2 = 1 then (tab.getD (n - f) 0 : Nat) else -(tab.getD (n - f) 0 : Nat)
def eSumA (tab : List Nat) (n : Nat) : Nat → Int
  | 0 => 0
  | i + 1 => eSumA tab n i + eTermA tab n (i + 1) (pent1 (i + 1)) + eTermA tab n (i + 1) (pent2 (i + 1))
def diag : List Nat := (List.range 41).map fun n => (pRow n).getD n 0
theorem diag_get (n : Nat) (h : n < 41) : diag.getD n 0 = pN n n := by
  rw [← pRow_get n n h]; simp [diag, h]
theorem eTermA_eq (n i f : Nat) (hn : n < 41) : eTermA diag n i f = eTerm n i f := by
  unfold eTermA eTerm
  rw [diag_get (n - f) (by omega)]
theorem eSumA_eq (n : Nat) (hn : n < 41) : ∀ i, eSumA diag n i = eSum n i
  | 0 => rfl
  | i + 1 => by rw [eSumA, eSum, eSumA_eq n hn i, eTermA_eq _ _ _ hn, eTermA_eq _ _ _ hn]
theorem euler_tab : (let d := diag; (List.range 41).all fun n => n = 0 || (List.range 6).all fun i => !(decide (n < pent1 (i + 1))) || decide (eSumA d n i = ((d.getD n 0 : Nat) : Int))) = true := by decide +kernel
theorem euler_end (n i : Nat) (h0 : 0 < n) (hn : n < 41) (hi : i < 6) (h : n < pent1 (i + 1)) : eSum n i = ((pN n n : Nat) : Int) := by
  have t := euler_tab
  simp only [List.all_eq_true, List.mem_range] at t
  have := t n hn
  simp only [Bool.or_eq_true, decide_eq_true_eq, List.all_eq_true, List.mem_range] at this
  rcases this with e | e
  · omega
  · have := e i hi
    simp only [Bool.not_eq_true', decide_eq_false_iff_not, h, not_true_eq_false, false_or] at this
    rw [eSumA_eq n hn, diag_get n hn] at this
    exact this
theorem eTerm_bd (n i f : Nat) (hn : n < 41) : -40000 ≤ eTerm n i f ∧ eTerm n i f ≤ 40000 := by
  unfold eTerm
  have := pN_small (n - f) (n - f) (by omega) (by omega)
  split
  · omega
  · split <;> omega
theorem eSum_bd (n : Nat) (hn : n < 41) : ∀ i : Nat, -80000 * (i : Int) ≤ eSum n i ∧ eSum n i ≤ 80000 * (i : Int)
  | 0 => by simp [eSum]
  | i + 1 => by
    have h1 := eSum_bd n hn i
    have h2 := eTerm_bd n (i + 1) (pent1 (i + 1)) hn
    have h3 := eTerm_bd n (i + 1) (pent2 (i + 1)) hn
    rw [eSum]; omega
end Go.Proofs.Ytdcekplmmfenlaa
