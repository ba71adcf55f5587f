/- Contract of parts.Count: partitions with parts of at most so much. -/
import Derived.Test.YtdabgibmbmhmdaaBase
import Derived.Test.YtdabgibmbmhmdaaRow2
import Derived.RegionTactic
namespace Go.Proofs.Ytdabgibmbmhmdaa
open Go.RowKit

def pStep (prev : Nat → Nat) (k : Nat) : Nat → Nat → Nat
  | 0, _ => 0
  | f + 1, x => prev x + (if k ≤ x then pStep prev k f (x - k) else 0)
/-- how many sums of x with numbers of at most k -/
def pN : Nat → Nat → Nat
  | 0 => fun x => if x = 0 then 1 else 0
  | k + 1 => fun x => pStep (pN k) (k + 1) (x + 1) x
theorem pStep_fuel (prev : Nat → Nat) (k : Nat) (hk : 0 < k) : ∀ f x, x < f → pStep prev k f x = pStep prev k (x + 1) x := by
  intro f
  induction f using Nat.strongRecOn with
  | _ f ih =>
    intro x hx
    obtain ⟨g, rfl⟩ : ∃ g, f = g + 1 := ⟨f - 1, by omega⟩
    rw [pStep, pStep]
    by_cases h : k ≤ x
    · rw [if_pos h, if_pos h]
      by_cases hg : g = x
      · rw [hg]
      · rw [ih g (by omega) (x - k) (by omega), ih x (by omega) (x - k) (by omega)]
    · rw [if_neg h, if_neg h]
theorem pN_0 (x : Nat) : pN 0 x = if x = 0 then 1 else 0 := rfl
theorem pN_lt (k x : Nat) (h : x < k + 1) : pN (k + 1) x = pN k x := by
  show pStep (pN k) (k + 1) (x + 1) x = _
  rw [pStep, if_neg (by omega), Nat.add_zero]
theorem pN_ge (k x : Nat) (h : k + 1 ≤ x) : pN (k + 1) x = pN k x + pN (k + 1) (x - (k + 1)) := by
  show pStep (pN k) (k + 1) (x + 1) x = _
  rw [pStep, if_pos h, pStep_fuel _ _ (by omega) x (x - (k + 1)) (by omega)]
  rfl
def pMix (k t j : Nat) : Int := if j < t then (pN (k + 1) j : Nat) else (pN k j : Nat)
theorem pMix_set (k t j : Nat) (v : Int) (hv : v = (pN (k + 1) t : Nat)) : (if j = t then v else pMix k t j) = pMix k (t + 1) j := by
  unfold pMix
  by_cases h : j = t
  · subst h; rw [if_pos rfl, if_pos (by omega), hv]
  · rw [if_neg h]
    by_cases h2 : j < t
    · rw [if_pos h2, if_pos (by omega)]
    · rw [if_neg h2, if_neg (by omega)]
/-! the same by rows, for the kernel to reckon -/
def rowGo (k : Nat) : List Nat → List Nat → List Nat
  | acc, [] => acc
  | acc, a :: r => rowGo k ((a + acc.getD k 0) :: acc) r
def pRow : Nat → List Nat
  | 0 => 1 :: List.replicate 40 0
  | k + 1 => (rowGo k [] (pRow k)).reverse
theorem rev_range (f : Nat → Nat) (m : Nat) : ((List.range (m + 1)).map f).reverse = f m :: ((List.range m).map f).reverse := by
  rw [List.range_succ, List.map_append, List.reverse_append]; rfl
theorem rev_get (f : Nat → Nat) : ∀ m k, (((List.range m).map f).reverse).getD k 0 = if k + 1 ≤ m then f (m - (k + 1)) else 0
  | 0, k => by simp
  | m + 1, 0 => by rw [rev_range]; simp
  | m + 1, k + 1 => by
    rw [rev_range, List.getD_cons_succ, rev_get f m k, show m + 1 - (k + 1 + 1) = m - (k + 1) from by omega]
    by_cases h : k + 1 ≤ m
    · rw [if_pos h, if_pos (by omega)]
    · rw [if_neg h, if_neg (by omega)]
theorem rowGo_all (k : Nat) : ∀ d m, rowGo k (((List.range m).map (pN (k + 1))).reverse) ((List.range' m d).map (pN k)) = ((List.range (m + d)).map (pN (k + 1))).reverse
  | 0, m => by simp [rowGo]
  | d + 1, m => by
    rw [List.range'_succ, List.map_cons, rowGo, rev_get]
    have e : pN k m + (if k + 1 ≤ m then pN (k + 1) (m - (k + 1)) else 0) = pN (k + 1) m := by
      by_cases h : k + 1 ≤ m
      · rw [if_pos h, pN_ge k m h]
      · rw [if_neg h, pN_lt k m (by omega), Nat.add_zero]
    rw [e, ← rev_range, rowGo_all k d (m + 1), show m + 1 + d = m + (d + 1) from by omega]
theorem pRow_all : ∀ k, pRow k = (List.range 41).map (pN k)
  | 0 => by decide
  | k + 1 => by
    have h := rowGo_all k 41 0
    rw [pRow, pRow_all k, List.range_eq_range']
    rw [show ((List.range 0).map (pN (k + 1))).reverse = [] from rfl] at h
    rw [h, List.reverse_reverse, Nat.zero_add, List.range_eq_range']
theorem pRow_get (k x : Nat) (h : x < 41) : (pRow k).getD x 0 = pN k x := by
  rw [pRow_all]; simp [h]
theorem pN_small (k x : Nat) (hk : k < 41) (hx : x < 41) : pN k x ≤ 40000 := by
  have : ∀ k, k < 41 → (pRow k).all (fun a => a ≤ 40000) = true := by decide +kernel
  have h := this k hk
  rw [pRow_all, List.all_eq_true] at h
  simpa using h (pN k x) (List.mem_map_of_mem (by simpa using hx))

set_option maxHeartbeats 1000000 in
theorem partCount_nat (n most : Nat) (w : World) (hn : n ≤ 40) (hm : most ≤ 40) :
    Calls Try.prog 85 #[.int .i64 n, .int .i64 most] w fun e w' => e = .returned (.tuple #[.int .i64 (pN most n : Nat), .int .i64 0]) ∧ Below w.heap.size w w' := by
  have h1 : decide ((n : Int) < 0) = false := by simp
  have h2 : decide ((40 : Int) < (n : Int)) = false := by simp; omega
  have h3 : decide ((most : Int) < 0) = false := by simp
  have h4 : decide ((40 : Int) < (most : Int)) = false := by simp; omega
  have hmk := make_ints (n + 1) (by omega)
  rw [show (((n + 1 : Nat) : Int)) = (n : Int) + 1 from rfl] at hmk
  have hR0 := RowAt.new w 3 (n + 1) (fun _ => 0)
  have hc0 := hR0.cell 0 (by omega)
  have hf0 := hR0.thawed 0
  clear hR0
  go_enter Try.func85, Try.ntmps85
  go_wp2_with fail
  go_loopw [7] (fun m wr => ∃ k : Nat, k ≤ most ∧ m = .int .i64 ((k + 1 : Nat) : Int) ∧ RowAt wr w.heap.size 3 (n + 1) (fun j => (pN k j : Nat)) ∧ Below w.heap.size w wr) (fun m _ => 50 - (intOf m).toNat)
  case atStart =>
    refine ⟨0, by omega, rfl, (RowAt.new' w 3 (n + 1) _ _ (rowCells_set _ _ 0 1)).congr ?_, (Below.refl _ _).alloc (Nat.le_refl _) _⟩
    intro i _
    rw [pN_0]; split <;> rfl
  case round =>
    obtain ⟨k, hk, rfl, hrow, hbel⟩ := hrel
    clear hmk hc0 hf0
    by_cases hlt : k < most
    · have HROW := Lib.hid hrow; have HBEL := Lib.hid hbel; clear hrow hbel
      rw [show ((k + 1 : Nat) : Int) = (k : Int) + 1 from rfl]
      go_wp2_with fail
      go_loopw [8] (fun x wi => ∃ t : Nat, k + 1 ≤ t ∧ (t ≤ n + 1 ∨ t = k + 1) ∧ x = .int .i64 (t : Int) ∧ RowAt wi w.heap.size 3 (n + 1) (pMix k t) ∧ Below w.heap.size w wi) (fun x _ => 50 - (intOf x).toNat)
      case atStart =>
        refine ⟨k + 1, by omega, .inr rfl, rfl, HROW.out.congr (fun j _ => ?_), HBEL.out⟩
        unfold pMix
        by_cases h : j < k + 1
        · rw [if_pos h, pN_lt k j h]
        · rw [if_neg h]
      case round =>
        obtain ⟨t, ht, htn, rfl, hrow, hbel⟩ := hrel
        by_cases htb : t ≤ n
        · have hc1 := hrow.cell t (by omega)
          have hc2 := hrow.cell (t - (k + 1)) (by omega)
          have hf := hrow.thawed t
          have ea : pMix k t t = ((pN k t : Nat) : Int) := by unfold pMix; rw [if_neg (by omega)]
          have eb : pMix k t (t - (k + 1)) = ((pN (k + 1) (t - (k + 1)) : Nat) : Int) := by unfold pMix; rw [if_pos (by omega)]
          have ba := pN_small k t (by omega) (by omega)
          have bb := pN_small (k + 1) (t - (k + 1)) (by omega) (by omega)
          have hv := Lib.hid (pN_ge k t ht)
          rw [ea] at hc1
          rw [eb] at hc2
          clear ea eb htn
          have HROW := Lib.hid hrow; have HBEL := Lib.hid hbel; clear hrow hbel
          go_wp2_with fail
          go_region
          go_wp2_with fail
          go_roundw
          case rel => exact ⟨t + 1, by omega, .inl (by omega), by go_num, (HROW.out.set t _).drew.congr (fun j _ => pMix_set k t j _ (by rw [hv.out]; rfl)), (HBEL.out.setCell (Nat.le_refl _) _).drew⟩
          case measure => simp [intOf]; omega
        · have HROW := Lib.hid hrow; have HBEL := Lib.hid hbel; clear hrow hbel htn
          go_wp2_with fail
          go_roundw
          case rel => exact ⟨k + 1, by omega, by go_num, HROW.out.congr (fun j hj => by unfold pMix; rw [if_pos (by omega)]), HBEL.out⟩
          case measure => simp [intOf]; omega
    · obtain rfl : k = most := by omega
      have hcell := hrow.cell n (by omega)
      have HROW := Lib.hid hrow; have HBEL := Lib.hid hbel; clear hrow hbel
      go_wp2_with fail
      go_ret2
      exact ⟨rfl, HBEL.out⟩
theorem partCount_i (x y : Int) (n most : Nat) (w : World) (hx : x = n) (hy : y = most) (hn : n ≤ 40) (hm : most ≤ 40) :
    Calls Try.prog 85 #[.int .i64 x, .int .i64 y] w fun e w' => e = .returned (.tuple #[.int .i64 (pN most n : Nat), .int .i64 0]) ∧ Below w.heap.size w w' := by
  subst hx; subst hy; exact partCount_nat n most w hn hm
end Go.Proofs.Ytdabgibmbmhmdaa
