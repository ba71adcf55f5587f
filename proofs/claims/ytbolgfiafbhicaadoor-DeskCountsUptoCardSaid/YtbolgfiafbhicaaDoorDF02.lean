/- Several of my texts in one: Row2, MathSum, MathCat, Nest, Good. -/
import Derived.Test.YtbolgfiafbhicaaDoorDF01
import Derived.Test.YtbolgfiafbhicaaDoorRows
import Derived.RegionTactic
/- More on a block known whole. -/
namespace Go.Proofs.YtbolgfiafbhicaaDoor
open Go.RowKit
theorem RowAt.other {w : World} {B T n : Nat} {f : Nat → Int} (h : RowAt w B T n f) (a : Addr) (v : Value) (hne : B ≠ a.block) : RowAt (w.setCell a v) B T n f := by
  unfold RowAt at *
  rw [Below.heap_setCell w a v B hne, h]
end Go.Proofs.YtbolgfiafbhicaaDoor
/- Plain mathematics: sums over 0 .. k-1, factorials. -/
namespace Go.Proofs.YtbolgfiafbhicaaDoor
def sumTo (f : Nat → Nat) : Nat → Nat
  | 0 => 0
  | k + 1 => sumTo f k + f k
def facNS : Nat → Nat
  | 0 => 1
  | n + 1 => facNS n * (n + 1)
theorem sumTo_succ (f : Nat → Nat) (k : Nat) : sumTo f (k + 1) = sumTo f k + f k := rfl
theorem sumTo_le (f : Nat → Nat) {a b : Nat} (h : a ≤ b) : sumTo f a ≤ sumTo f b := by
  induction b with
  | zero => rw [show a = 0 from by omega]; exact Nat.le_refl _
  | succ b ih =>
    by_cases hb : a = b + 1
    · subst hb; exact Nat.le_refl _
    · have := ih (by omega); rw [sumTo_succ]; omega
theorem sumTo_bound (f : Nat → Nat) (B : Nat) : ∀ k, (∀ i, i < k → f i ≤ B) → sumTo f k ≤ k * B
  | 0, _ => by simp [sumTo]
  | k + 1, h => by
    have h1 := sumTo_bound f B k (fun i hi => h i (by omega))
    have h2 := h k (by omega)
    rw [sumTo_succ, Nat.succ_mul]; omega
theorem sumTo_congr (f g : Nat → Nat) : ∀ k, (∀ i, i < k → f i = g i) → sumTo f k = sumTo g k
  | 0, _ => rfl
  | k + 1, h => by rw [sumTo_succ, sumTo_succ, sumTo_congr f g k (fun i hi => h i (by omega)), h k (by omega)]
theorem sumTo_pair (f : Nat → Nat) {j n B : Nat} (h : j < n) (hB : sumTo f n ≤ B) : sumTo f j + f j ≤ B := Nat.le_trans (sumTo_le f (a := j + 1) h) hB
theorem natMul (a b : Nat) : (a : Int) * (b : Int) = ((a * b : Nat) : Int) := by simp
end Go.Proofs.YtbolgfiafbhicaaDoor
/- Plain mathematics: paths that stay at or above 0; Catalan and ballot numbers by rows. -/
namespace Go.Proofs.YtbolgfiafbhicaaDoor
/-- how many paths of t steps lead from 0 to h, none of them below 0 -/
def pathN : Nat → Nat → Nat
  | 0, 0 => 1
  | 0, _ + 1 => 0
  | t + 1, 0 => pathN t 1
  | t + 1, h + 1 => pathN t h + pathN t (h + 2)
def addL : List Nat → List Nat → List Nat
  | [], l => l
  | l, [] => l
  | a :: l, b :: m => (a + b) :: addL l m
theorem addL_get : ∀ (l m : List Nat) (i : Nat), (addL l m).getD i 0 = l.getD i 0 + m.getD i 0
  | [], m, i => by simp [addL]
  | a :: l, [], i => by simp [addL]
  | a :: l, b :: m, 0 => by simp [addL]
  | a :: l, b :: m, i + 1 => by
    have := addL_get l m i
    simpa [addL] using this
def pathRow : Nat → List Nat
  | 0 => [1]
  | t + 1 => addL (pathRow t).tail (0 :: pathRow t)
theorem pathRow_get : ∀ t h, (pathRow t).getD h 0 = pathN t h
  | 0, 0 => rfl
  | 0, h + 1 => by simp [pathRow, pathN]
  | t + 1, 0 => by
    have := pathRow_get t 1
    rw [pathRow, addL_get, pathN, ← this]
    cases pathRow t <;> simp
  | t + 1, h + 1 => by
    have h1 := pathRow_get t h
    have h2 := pathRow_get t (h + 2)
    rw [pathRow, addL_get, pathN, ← h1, ← h2]
    cases pathRow t with
    | nil => simp
    | cons a l => simp; omega
theorem pathN_gt : ∀ t h, t < h → pathN t h = 0
  | 0, 0, h => by omega
  | 0, h + 1, _ => rfl
  | t + 1, 0, h => by omega
  | t + 1, h + 1, hh => by rw [pathN, pathN_gt t h (by omega), pathN_gt t (h + 2) (by omega)]
theorem pathN_le : ∀ t h, pathN t h ≤ 2 ^ t
  | 0, 0 => by simp [pathN]
  | 0, h + 1 => by simp [pathN]
  | t + 1, 0 => by have := pathN_le t 1; rw [pathN, Nat.pow_succ]; omega
  | t + 1, h + 1 => by have := pathN_le t h; have := pathN_le t (h + 2); rw [pathN, Nat.pow_succ]; omega
theorem pathN_le31 (t h : Nat) (ht : t ≤ 31) : pathN t h ≤ 2147483648 := Nat.le_trans (pathN_le t h) (Nat.pow_le_pow_right (n := 2) (by omega) ht)
/-- Catalan numbers -/
def catN (n : Nat) : Nat := pathN (2 * n) 0
def catL (n : Nat) : Nat := (pathRow (2 * n)).getD 0 0
theorem catL_eq (n : Nat) : catL n = catN n := pathRow_get (2 * n) 0
theorem cat_small : ∀ n, n < 17 → catN n ≤ 100000000 := by
  intro n hn
  rw [← catL_eq]
  have : ∀ n, n < 17 → catL n ≤ 100000000 := by decide +kernel
  exact this n hn
end Go.Proofs.YtbolgfiafbhicaaDoor
/- Contracts of nests.ways and nests.Count. -/
namespace Go.Proofs.YtbolgfiafbhicaaDoor
open Go.RowKit

def wayMix (t j i : Nat) : Nat := (if i + 1 < j then pathN t (i + 1) else 0) + (if 1 ≤ i ∧ i ≤ j then pathN t (i - 1) else 0)
theorem wayMix_0 (t i : Nat) : wayMix t 0 i = 0 := by
  unfold wayMix; rw [if_neg (by omega), if_neg (by omega)]
theorem wayMix_end (t n i : Nat) (ht : t ≤ n) (hi : i < n + 2) : wayMix t (n + 2) i = pathN (t + 1) i := by
  unfold wayMix
  cases i with
  | zero => rw [if_pos (by omega), if_neg (by omega)]; rfl
  | succ i =>
    rw [if_pos (c := 1 ≤ i + 1 ∧ i + 1 ≤ n + 2) (by omega)]
    show _ = pathN t i + pathN t (i + 2)
    by_cases h : i + 1 + 1 < n + 2
    · rw [if_pos h, show i + 1 - 1 = i from rfl, Nat.add_comm]
    · rw [if_neg h, pathN_gt t (i + 2) (by omega)]; simp
theorem wayMix_small (t j i : Nat) (ht : t ≤ 31) : wayMix t j i ≤ 4294967296 := by
  unfold wayMix
  have h1 := pathN_le31 t (i + 1) ht
  have h2 := pathN_le31 t (i - 1) ht
  split <;> split <;> omega
theorem wayMix_at1 (t j : Nat) : wayMix t j (j + 1) = 0 := by
  unfold wayMix; rw [if_neg (by omega), if_neg (by omega)]
theorem wayMix_next (t j i : Nat) : wayMix t (j + 1) i = wayMix t j i + (if i + 1 = j then pathN t j else 0) + (if i = j + 1 then pathN t j else 0) := by
  unfold wayMix
  grind

set_option maxHeartbeats 1000000 in
theorem ways_nat (high n : Nat) (w : World) (hn : n ≤ 30) :
    Calls Tryd.prog 67 #[.int .i64 high, .int .i64 n] w fun e w' => e = .returned (.int .i64 (pathN n high : Nat)) ∧ Below w.heap.size w w' := by
  have hmk := make_ints (n + 2) (by omega)
  rw [show (((n + 2 : Nat) : Int)) = (n : Int) + 2 from rfl] at hmk
  have hR0 := RowAt.new w 3 (n + 2) (fun _ => 0)
  have hc0 := hR0.cell 0 (by omega)
  have hf0 := hR0.thawed 0
  have HR0 := Lib.hid hR0; clear hR0
  go_enter Tryd.func67, Tryd.ntmps67
  go_wp2_with fail
  go_loopw [5, 15] (fun r m wr => ∃ t B : Nat, t ≤ n ∧ r = .slice (some ⟨B, 0, none⟩) (n + 2) (n + 2) ∧ m = .int .i64 (t : Int) ∧ RowAt wr B 3 (n + 2) (fun i => (pathN t i : Nat)) ∧ w.heap.size ≤ B ∧ Below w.heap.size w wr) (fun _ m _ => n - (intOf m).toNat)
  case atStart =>
    refine ⟨0, w.heap.size, by omega, rfl, rfl, (RowAt.new' w 3 (n + 2) _ _ (rowCells_set _ _ 0 1)).congr ?_, Nat.le_refl _, (Below.refl _ _).alloc (Nat.le_refl _) _⟩
    intro i _
    match i with
    | 0 => rfl
    | i + 1 => rfl
  case round =>
    obtain ⟨t, B, ht, rfl, rfl, hrow, hB, hbel⟩ := hrel
    clear hc0 hf0 HR0
    by_cases hlt : t < n
    · have hBlt := hrow.lt
      have hnew := RowAt.new wr 3 (n + 2) (fun _ => 0)
      have hold := hrow.alloc (.cells (rowCells (n + 2) (fun _ => 0)) 3)
      have hk := hbel.alloc hbel.size (.cells (rowCells (n + 2) (fun _ => 0)) 3)
      have HNEW := Lib.hid hnew; have HOLD := Lib.hid hold; have HK := Lib.hid hk; have hsz := hbel.size
      clear hrow hbel hnew hold hk
      go_wp2_with fail
      go_loopw [22] (fun i wi => ∃ j : Nat, j ≤ n + 2 ∧ i = .int .i64 (j : Int) ∧ RowAt wi B 3 (n + 2) (fun i => (pathN t i : Nat)) ∧ RowAt wi wr.heap.size 3 (n + 2) (fun i => (wayMix t j i : Nat)) ∧ Below w.heap.size w wi) (fun i _ => n + 2 - (intOf i).toNat)
      case atStart => exact ⟨0, by omega, rfl, HOLD.out, HNEW.out.congr (fun i _ => by rw [wayMix_0]; rfl), HK.out⟩
      case round =>
        obtain ⟨j, hj, rfl, hrow, hmix, hbel⟩ := hrel
        by_cases hjl : j < n + 2
        · have hc := hrow.cell j hjl
          have bp := pathN_le31 t j (by omega)
          have ft := hmix.thawed (j + 1)
          have ft' := hmix.thawed (j - 1)
          by_cases h0 : j = 0
          · subst h0
            have hm1 := hmix.cell (0 + 1) (by omega)
            rw [wayMix_at1] at hm1
            have HROW := Lib.hid hrow; have HMIX := Lib.hid hmix; have HBEL := Lib.hid hbel; clear hrow hmix hbel
            have hx := Lib.hid (wayMix_next t 0)
            generalize hp : pathN t 0 = p at *
            have HP := Lib.hid hp; clear hp
            go_wp2_with fail
            go_roundw
            case rel =>
              refine ⟨1, by omega, rfl, HROW.out.other _ _ (Nat.ne_of_lt hBlt), (HMIX.out.set 1 p).congr ?_, HBEL.out.setCell (by simp; omega) _⟩
              intro i _
              rw [hx.out i]
              by_cases h : i = 1
              · subst h; rw [if_pos rfl, wayMix_at1 t 0]; simp
              · rw [if_neg h, if_neg (by omega), if_neg (by omega)]; simp
            case measure => simp [intOf] <;> omega
          · have hjp : 0 < j := by omega
            have hm0 := hmix.cell (j - 1) (by omega)
            have bm := wayMix_small t j (j - 1) (by omega)
            have hx := Lib.hid (wayMix_next t j)
            by_cases h1 : j + 1 < n + 2
            · have hm1 := hmix.cell (j + 1) h1
              rw [wayMix_at1] at hm1
              have HROW := Lib.hid hrow; have HMIX := Lib.hid hmix; have HBEL := Lib.hid hbel; clear hrow hmix hbel h0
              generalize hp : pathN t j = p at *
              generalize hq : wayMix t j (j - 1) = q at *
              have HP := Lib.hid hp; clear hp
              have HQ := Lib.hid hq; clear hq
              go_wp2_with fail
              go_roundw
              case rel =>
                refine ⟨j + 1, by omega, by go_num, (HROW.out.other _ _ (Nat.ne_of_lt hBlt)).other _ _ (Nat.ne_of_lt hBlt), ((HMIX.out.set (j - 1) (q + p)).set (j + 1) p).congr ?_, (HBEL.out.setCell (by simp; omega) _).setCell (by simp; omega) _⟩
                intro i _
                rw [hx.out i]
                by_cases h : i = j + 1
                · subst h; rw [if_pos rfl, wayMix_at1 t j, if_neg (by omega), if_pos rfl]; simp
                · rw [if_neg h, if_neg h]
                  by_cases h' : i = j - 1
                  · subst h'; rw [if_pos rfl, if_pos (by omega), HQ.out]; simp
                  · rw [if_neg h', if_neg (by omega)]; simp
              case measure => simp [intOf] <;> omega
            · have HROW := Lib.hid hrow; have HMIX := Lib.hid hmix; have HBEL := Lib.hid hbel; clear hrow hmix hbel h0
              generalize hp : pathN t j = p at *
              generalize hq : wayMix t j (j - 1) = q at *
              have HP := Lib.hid hp; clear hp
              have HQ := Lib.hid hq; clear hq
              go_wp2_with fail
              go_roundw
              case rel =>
                refine ⟨j + 1, by omega, by go_num, HROW.out.other _ _ (Nat.ne_of_lt hBlt), (HMIX.out.set (j - 1) (q + p)).congr ?_, HBEL.out.setCell (by simp; omega) _⟩
                intro i hi
                rw [hx.out i, if_neg (c := i = j + 1) (by omega)]
                by_cases h' : i = j - 1
                · subst h'; rw [if_pos rfl, if_pos (by omega), HQ.out]; simp
                · rw [if_neg h', if_neg (by omega)]; simp
              case measure => simp [intOf] <;> omega
        · obtain rfl : j = n + 2 := by omega
          have HROW := Lib.hid hrow; have HMIX := Lib.hid hmix; have HBEL := Lib.hid hbel; clear hrow hmix hbel
          go_wp2_with fail
          go_roundw
          case rel => exact ⟨t + 1, _, by omega, rfl, by go_num, HMIX.out.congr (fun i hi => by rw [wayMix_end t n i (by omega) hi]), hsz, HBEL.out⟩
          case measure => simp [intOf] <;> omega
    · obtain rfl : t = n := by omega
      by_cases hhi : high < t + 2
      · have hcell := hrow.cell high hhi
        have HROW := Lib.hid hrow; have HBEL := Lib.hid hbel; clear hrow hbel
        go_wp2_with fail
        go_ret
        exact ⟨rfl, HBEL.out⟩
      · have HROW := Lib.hid hrow; have HBEL := Lib.hid hbel; clear hrow hbel
        go_wp2_with fail
        go_ret
        exact ⟨ret_int (by rw [pathN_gt t high (by omega)]; rfl), HBEL.out⟩

theorem ways_i (x y : Int) (high n : Nat) (w : World) (hx : x = high) (hy : y = n) (hn : n ≤ 30) :
    Calls Tryd.prog 67 #[.int .i64 x, .int .i64 y] w fun e w' => e = .returned (.int .i64 (pathN n high : Nat)) ∧ Below w.heap.size w w' := by
  subst hx; subst hy; exact ways_nat high n w hn

theorem nestCount_i (x : Int) (n : Nat) (w : World) (hx : x = n) (hn : n ≤ 15) :
    Calls Tryd.prog 66 #[.int .i64 x] w fun e w' => e = .returned (.tuple #[.int .i64 (catN n : Nat), .int .i64 0]) ∧ Below w.heap.size w w' := by
  subst hx
  have h1 : decide ((n : Int) < 0) = false := by simp
  have h2 : decide ((15 : Int) < (n : Int)) = false := by simp; omega
  go_enter Tryd.func66, Tryd.ntmps66
  go_wp2_with fail
  refine (ways_i _ _ 0 (2 * n) _ (by omega) (by omega) (by omega)).mono ?_; rintro e w1 ⟨rfl, hb⟩
  have HB := Lib.hid hb; clear hb
  go_wp2_with fail
  go_ret2
  exact ⟨rfl, HB.out⟩
end Go.Proofs.YtbolgfiafbhicaaDoor
/- good over literal slices, the block told by its number. -/
namespace Go.Proofs.YtbolgfiafbhicaaDoor
open Go.RowKit
end Go.Proofs.YtbolgfiafbhicaaDoor
