/- Several of my texts in one: LotW, SlEq2, Perm, OneS. -/
import Derived.Test.YtbolgfiafbhicaaDoorDF06
import Derived.Test.YtbolgfiafbhicaaDoorDF05
import Derived.Test.YtbolgfiafbhicaaDoorDF11
import Derived.RegionTactic
import Derived.ChangeAlike
/- lottery.Winner for every lot: one word. -/
namespace Go.Proofs.YtbolgfiafbhicaaDoor
open Go.RowKit

set_option maxHeartbeats 800000 in
theorem lotWinnerX (l : List Int) (n : Nat) (a : Option Addr) (cap : Nat) (lot : Int) (w : World) (h : Sa w a (ints l)) (hn : l.length = n) (hp : TkOk l) (h1 : isum l ≠ 0) (h2 : lot < 0 ∨ isum l ≤ lot) :
    Calls Tryd.prog 52 #[.slice a n cap, .int .i64 lot] w fun e w' => e = .returned (.tuple #[.int .i64 0, .int .i64 1]) ∧ w = w' := by
  have HN := Lib.hid hn; have HS := Lib.hid h; have HP := Lib.hid hp
  obtain ⟨S, hS⟩ : ∃ S, isum l = S := ⟨_, rfl⟩
  rw [hS] at h1 h2
  have HSS := Lib.hid hS
  have z : (S == 0) = false := by rw [beq_eq_false_iff_ne]; exact h1
  clear hn h hp h1 hS
  by_cases h0 : lot < 0
  · have d : decide (lot < 0) = true := decide_eq_true h0
    clear h2
    go_enter Tryd.func52, Tryd.ntmps52
    go_wp2_with fail
    refine (lotAll l n _ _ _ HS.out HN.out HP.out).mono ?_; rintro e w' ⟨rfl, rfl⟩
    rw [HSS.out]
    go_wp2_with fail
    go_ret2
    exact ⟨rfl, rfl⟩
  · have d : decide (lot < 0) = false := decide_eq_false h0
    have d2 : decide (S ≤ lot) = true := decide_eq_true (by omega)
    clear h2
    go_enter Tryd.func52, Tryd.ntmps52
    go_wp2_with fail
    refine (lotAll l n _ _ _ HS.out HN.out HP.out).mono ?_; rintro e w' ⟨rfl, rfl⟩
    rw [HSS.out]
    go_wp2_with fail
    go_ret2
    exact ⟨rfl, rfl⟩
/-- who wins, and with which error -/
def winW (l : List Int) (lot : Int) : Int × Int := if isum l = 0 then (0, 4) else if lot < 0 ∨ isum l ≤ lot then (0, 1) else (((winL l lot : Nat) : Int), 0)
theorem lotWinAny (l : List Int) (n : Nat) (a : Option Addr) (cap : Nat) (lot : Int) (w : World) (h : Sa w a (ints l)) (hn : l.length = n) (hp : TkOk l) :
    Calls Tryd.prog 52 #[.slice a n cap, .int .i64 lot] w fun e w' => e = .returned (.tuple #[.int .i64 (winW l lot).1, .int .i64 (winW l lot).2]) ∧ w = w' := by
  by_cases h1 : isum l = 0
  · have e : winW l lot = (0, 4) := by unfold winW; rw [if_pos h1]
    rw [e]; exact lotWinner0 l n a cap lot w h hn hp h1
  · by_cases h2 : lot < 0 ∨ isum l ≤ lot
    · have e : winW l lot = (0, 1) := by unfold winW; rw [if_neg h1, if_pos h2]
      rw [e]; exact lotWinnerX l n a cap lot w h hn hp h1 h2
    · have e : winW l lot = (((winL l lot : Nat) : Int), 0) := by unfold winW; rw [if_neg h1, if_neg h2]
      rw [e]; exact lotWinner l n a cap lot w h hn hp (by omega) (by omega)
end Go.Proofs.YtbolgfiafbhicaaDoor
/- slices.Equal over ints, whatever they hold. -/
namespace Go.Proofs.YtbolgfiafbhicaaDoor
open Go.RowKit

def RetB (b : Bool) (w : World) (e : Ending) (w' : World) : Prop := e = .returned (.bool b) ∧ Fr w w' []
theorem eq_of_take {l m : List Int} {n : Nat} (hl : l.length = n) (hm : m.length = n) (h : ∀ i, i < n → nth l i = nth m i) : decide (l = m) = true :=
  decide_eq_true (ext_nth (by omega) (fun i hi => h i (by omega)))
theorem ne_of_nth {l m : List Int} (i : Nat) (h : nth l i ≠ nth m i) : decide (l = m) = false := decide_eq_false (fun e => h (by rw [e]))
theorem ne_of_len {l m : List Int} (h : l.length ≠ m.length) : decide (l = m) = false := decide_eq_false (fun e => h (by rw [e]))

end Go.Proofs.YtbolgfiafbhicaaDoor
/- Contracts of perm.Check, castref.Dealt, castkeep.PermOf. -/
namespace Go.Proofs.YtbolgfiafbhicaaDoor
open Go.RowKit

def snL (p : List Int) (k : Nat) : List Value := (List.range 10).map fun v : Nat => Value.bool ((p.take k).any (· == (v : Int)))
theorem snL_len (p : List Int) (k : Nat) : (snL p k).length = 10 := by simp [snL]
theorem snL_get (p : List Int) (k v : Nat) (h : v < 10) : (snL p k)[v]? = some (.bool ((p.take k).any (· == (v : Int)))) := by simp [snL, h]
theorem snL_new {p : List Int} (h : IsP p) (k x : Nat) (hk : k < p.length) (hx : nth p k = x) : (p.take k).any (· == (x : Int)) = false := by
  rw [← Bool.not_eq_true, List.any_eq_true]
  rintro ⟨y, hy, e⟩
  obtain ⟨i, hi, e2⟩ := List.getElem_of_mem hy
  rw [List.length_take] at hi
  rw [List.getElem_take] at e2
  have := h.inj i k (by omega) hk (by
    rw [hx]; unfold nth
    rw [List.getD_eq_getElem?_getD, List.getElem?_eq_getElem (by omega)]
    simp at e; rw [← e, ← e2]; rfl)
  omega
theorem snL_step (p : List Int) (k x : Nat) (hk : k < p.length) (hx : nth p k = x) : (snL p k).set x (.bool true) = snL p (k + 1) := by
  apply List.ext_getElem (by simp [snL])
  intro v h1 h2
  rw [List.length_set, snL_len] at h1
  rw [List.getElem_set]
  have e : (snL p (k + 1))[v]'h2 = .bool ((p.take (k + 1)).any (· == (v : Int))) := by simp [snL]
  rw [e, take_nth p k hk, List.any_append, hx]
  by_cases ev : x = v
  · rw [if_pos ev]; subst ev; simp
  · rw [if_neg ev]
    have : (snL p k)[v]'(by rw [snL_len]; exact h1) = .bool ((p.take k).any (· == (v : Int))) := by simp [snL]
    rw [this]
    have hf : ((x : Int) == (v : Int)) = false := by rw [beq_eq_false_iff_ne]; omega
    simp [hf]

set_option maxRecDepth 100000 in
set_option maxHeartbeats 2000000 in
theorem permChk (p : List Int) (n : Nat) (a : Option Addr) (cap : Nat) (w : World) (h : Sa w a (ints p)) (hn : p.length = n) (hp : IsP p) (h10 : n ≤ 10) :
    Calls Tryd.prog 89 #[.slice a n cap] w fun e w' => e = .returned (.int .i64 0) ∧ Fr w w' [] := by
  have HN := Lib.hid hn; have HS := Lib.hid h; have HP := Lib.hid hp
  clear hn h hp
  go_enter Tryd.func89, Tryd.ntmps89
  go_wp2_with fail
  have F1 := (Fr.start w).new 141 #[.bool false, .bool false, .bool false, .bool false, .bool false, .bool false, .bool false, .bool false, .bool false, .bool false] (snL p 0) rfl 10 rfl (by omega)
  go_loopw [11] (fun i wr => ∃ k : Nat, k ≤ n ∧ i = .int .i64 k ∧ Fr w wr [⟨141, .slice (some ⟨w.heap.size, 0, none⟩) 10 10, snL p k⟩]) (fun i _ => n - (intOf i).toNat)
  case atStart => exact ⟨0, by omega, rfl, F1⟩
  case round =>
    obtain ⟨k, hk, rfl, hfr⟩ := hrel
    clear F1
    by_cases hlt : k < n
    · obtain ⟨b, off, rfl, hb, hc⟩ := (hfr.old HS.out).int k (by rw [HN.out]; exact hlt)
      have hbd := HP.out.bd k (by rw [HN.out]; exact hlt)
      rw [HN.out] at hbd
      obtain ⟨x, hx⟩ : ∃ x : Nat, nth p k = x := ⟨(nth p k).toNat, by omega⟩
      have hnew := snL_new HP.out k x (by rw [HN.out]; exact hlt) hx
      have hst := snL_step p k x (by rw [HN.out]; exact hlt) hx
      rw [hx] at hc hbd
      have hxn : x < n := by omega
      obtain ⟨g, e, _, _, hcell, hz⟩ := hfr.open (by rw [snL_len]; omega)
      cases e
      have c1 := hcell x (by rw [snL_len]; omega)
      rw [snL_get p k x (by omega), hnew] at c1
      have z1 := hz x
      have F2 := hfr.set x (.bool true)
      rw [hst] at F2
      have HF := Lib.hid F2
      clear hcell hz hx hnew hst hfr F2 hbd
      have d1 : (0 : Int) ≤ (x : Int) := by omega
      have d2 : (x : Int) < 10 := by omega
      have d3 : decide ((x : Int) < 0) = false := decide_eq_false (by omega)
      have d4 : decide (n ≤ x) = false := decide_eq_false (by omega)
      have d5 : x < 10 := by omega
      go_wp2_with fail
      go_roundw
      case rel => exact ⟨k + 1, by omega, by go_num, HF.out⟩
      case measure => simp only [intOf]; omega
    · go_wp2_with fail
      go_ret
      exact ⟨rfl, hfr.below⟩

def lotsL (l : List Int) (t : Nat) : List Int := (List.range (min t l.length)).map fun i : Nat => nth l i % ((i : Int) + 1)
theorem lotsL_len (l : List Int) (t : Nat) : (lotsL l t).length = min t l.length := by simp [lotsL]
theorem lotsL_nth (l : List Int) (t i : Nat) (h : i < min t l.length) : nth (lotsL l t) i = nth l i % ((i : Int) + 1) := by
  unfold nth lotsL
  rw [List.getD_eq_getElem?_getD, List.getElem?_map, List.getElem?_range h]; rfl
theorem lotsL_ok (l : List Int) (t : Nat) : LotOk (lotsL l t) := fun i hi => by
  rw [lotsL_len] at hi
  rw [lotsL_nth _ _ _ hi]
  have := Int.emod_nonneg (nth l i) (b := (i : Int) + 1) (by omega)
  have := Int.emod_lt_of_pos (nth l i) (b := (i : Int) + 1) (by omega)
  omega
theorem lotsL_take (l : List Int) (t k : Nat) (h : k < min t l.length) : (lotsL l t).take k ++ [nth l k % ((k : Int) + 1)] = (lotsL l t).take (k + 1) := by
  rw [take_nth _ k (by rw [lotsL_len]; exact h), lotsL_nth _ _ _ h]

def OneP (l : List Int) (n : Nat) (w : World) (e : Ending) (w' : World) : Prop :=
  ∃ (ad : Option Addr) (cp : Nat), e = .returned (.slice ad n cp) ∧ n ≤ cp ∧ Fr w w' [⟨3, .slice ad n cp, ints l⟩]

def MadeP (l : List Int) (w : World) (e : Ending) (w' : World) : Prop :=
  ∃ (ad : Option Addr) (n cp : Nat), e = .returned (.slice ad n cp) ∧ l.length = n ∧ n ≤ cp ∧ Fr w w' [⟨3, .slice ad n cp, ints l⟩]
def permL (l : List Int) (t : Nat) : List Int := dealL (lotsL l t)
theorem permL_ok (l : List Int) (t : Nat) : (permL l t).length = min t l.length ∧ IsP (permL l t) := by
  have := dealL_ok (lotsL l t) (lotsL_ok l t)
  rw [lotsL_len] at this; exact this

end Go.Proofs.YtbolgfiafbhicaaDoor
/- One slice and an error, handed back. -/
namespace Go.Proofs.YtbolgfiafbhicaaDoor
open Go.RowKit

theorem bothR {a b c d : Int} (h1 : a = b) (h2 : c = d) : Ending.returned (.tuple #[.int .i64 a, .int .i64 c]) = .returned (.tuple #[.int .i64 b, .int .i64 d]) := by rw [h1, h2]
def OneSl (l : List Int) (n : Nat) (err : Int) (w : World) (e : Ending) (w' : World) : Prop :=
  ∃ ad cp, e = .returned (.tuple #[.slice ad n cp, .int .i64 err]) ∧ n ≤ cp ∧ Fr w w' [⟨3, .slice ad n cp, ints l⟩]
end Go.Proofs.YtbolgfiafbhicaaDoor
