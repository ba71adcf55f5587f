/- Several of my texts in one: Odds, Good, Lin2. -/
import Derived.Test.YtooghdnlaonkaaaRw07
import Derived.Test.YtooghdnlaonkaaaRw04
import Derived.Test.YtooghdnlaonkaaaRw09
import Derived.RegionTactic
import Derived.Shelf.Abstract
import Derived.Test.YtooghdnlaonkaaaRw01
import Derived.Test.YtooghdnlaonkaaaRw26
/- Contracts of package odds: Check, sum, Mean, Spread. -/
namespace Go.Proofs.Ytooghdnlaonkaaa
open Go.RowKit

/-- a ratio in a block of its own -/
def eQ (b : Nat) (X Y : Int) : Ent := ⟨128, .slice (some ⟨b, 0, .none⟩) 2 2, ints [X, Y]⟩
theorem Fr.rq {w0 w : World} {L : List Ent} (h : Fr w0 w L) (X Y : Int) (N : Nat) (hN : w.heap.size = N) : Fr w0 (w.alloc (.cells #[.int .i64 X, .int .i64 Y] 128)) (eQ N X Y :: L) := by
  subst hN; exact h.lit [X, Y] #[.int .i64 X, .int .i64 Y] rfl 2 rfl (by omega) 128
theorem Fr.rqAt {w0 w : World} {L : List Ent} (h : Fr w0 w L) (i : Nat) {b : Nat} {X Y : Int} (he : L[i]? = some (eQ b X Y)) :
    w.cell? ⟨b, 0, .none⟩ = some (.int .i64 X) ∧ w.cell? ⟨b, 1, .none⟩ = some (.int .i64 Y) ∧ b < w.heap.size ∧ w0.heap.size ≤ b ∧ w.frozen? ⟨b, 0, .none⟩ = false ∧ w.frozen? ⟨b, 1, .none⟩ = false := by
  have hO := h.os.own _ (List.mem_of_getElem? he)
  have h1 := World.ownsRow.cellAt hO 0 (by decide)
  have h2 := World.ownsRow.cellAt hO 1 (by decide)
  have h3 := Ent.own.lt hO b rfl
  exact ⟨h1, h2, h3.2, h3.1, World.ownsRow.frozenAt hO 0, World.ownsRow.frozenAt hO 1⟩
theorem Fr.rqPut {w0 w : World} {L : List Ent} {b : Nat} {X Y : Int} (h : Fr w0 w (eQ b X Y :: L)) (X' Y' : Int) :
    Fr w0 ((w.setCell ⟨b, 0, .none⟩ (.int .i64 X')).setCell ⟨b, 1, .none⟩ (.int .i64 Y')) (eQ b X' Y' :: L) := (h.setInt 0 X').setInt 1 Y'
end Go.Proofs.Ytooghdnlaonkaaa
/- good over literal slices, the block told by its number. -/
namespace Go.Proofs.Ytooghdnlaonkaaa
open Go.RowKit
theorem good1b (w : World) (b : Nat) (T : TypeId) (hb : w.heap.size = b) :
    Calls Try.prog 67 #[.slice (some ⟨b, 0, none⟩) 1 1] (w.alloc (.cells #[.int .i64 0] T)) fun e w' => e = .returned (.bool true) ∧ w.alloc (.cells #[.int .i64 0] T) = w' := by
  subst hb; exact good1 w T
theorem good2b (w : World) (b : Nat) (T : TypeId) (hb : w.heap.size = b) :
    Calls Try.prog 67 #[.slice (some ⟨b, 0, none⟩) 2 2] (w.alloc (.cells #[.int .i64 0, .int .i64 0] T)) fun e w' => e = .returned (.bool true) ∧ w.alloc (.cells #[.int .i64 0, .int .i64 0] T) = w' := by
  subst hb; exact good2 w T
theorem good3b (w : World) (b : Nat) (T : TypeId) (hb : w.heap.size = b) :
    Calls Try.prog 67 #[.slice (some ⟨b, 0, none⟩) 3 3] (w.alloc (.cells #[.int .i64 0, .int .i64 0, .int .i64 0] T)) fun e w' => e = .returned (.bool true) ∧ w.alloc (.cells #[.int .i64 0, .int .i64 0, .int .i64 0] T) = w' := by
  subst hb; exact good3 w T
theorem good4b (w : World) (b : Nat) (T : TypeId) (hb : w.heap.size = b) :
    Calls Try.prog 67 #[.slice (some ⟨b, 0, none⟩) 4 4] (w.alloc (.cells #[.int .i64 0, .int .i64 0, .int .i64 0, .int .i64 0] T)) fun e w' => e = .returned (.bool true) ∧ w.alloc (.cells #[.int .i64 0, .int .i64 0, .int .i64 0, .int .i64 0] T) = w' := by
  subst hb; exact good4 w T
theorem good5b (w : World) (b : Nat) (T : TypeId) (hb : w.heap.size = b) :
    Calls Try.prog 67 #[.slice (some ⟨b, 0, none⟩) 5 5] (w.alloc (.cells #[.int .i64 0, .int .i64 0, .int .i64 0, .int .i64 0, .int .i64 0] T)) fun e w' => e = .returned (.bool true) ∧ w.alloc (.cells #[.int .i64 0, .int .i64 0, .int .i64 0, .int .i64 0, .int .i64 0] T) = w' := by
  subst hb; exact good5 w T
theorem good6b (w : World) (b : Nat) (T : TypeId) (hb : w.heap.size = b) :
    Calls Try.prog 67 #[.slice (some ⟨b, 0, none⟩) 6 6] (w.alloc (.cells #[.int .i64 0, .int .i64 0, .int .i64 0, .int .i64 0, .int .i64 0, .int .i64 0] T)) fun e w' => e = .returned (.bool true) ∧ w.alloc (.cells #[.int .i64 0, .int .i64 0, .int .i64 0, .int .i64 0, .int .i64 0, .int .i64 0] T) = w' := by
  subst hb; exact good6 w T
theorem good7b (w : World) (b : Nat) (T : TypeId) (hb : w.heap.size = b) :
    Calls Try.prog 67 #[.slice (some ⟨b, 0, none⟩) 7 7] (w.alloc (.cells #[.int .i64 0, .int .i64 0, .int .i64 0, .int .i64 0, .int .i64 0, .int .i64 0, .int .i64 0] T)) fun e w' => e = .returned (.bool true) ∧ w.alloc (.cells #[.int .i64 0, .int .i64 0, .int .i64 0, .int .i64 0, .int .i64 0, .int .i64 0, .int .i64 0] T) = w' := by
  subst hb; exact good7 w T
theorem good8b (w : World) (b : Nat) (T : TypeId) (hb : w.heap.size = b) :
    Calls Try.prog 67 #[.slice (some ⟨b, 0, none⟩) 8 8] (w.alloc (.cells #[.int .i64 0, .int .i64 0, .int .i64 0, .int .i64 0, .int .i64 0, .int .i64 0, .int .i64 0, .int .i64 0] T)) fun e w' => e = .returned (.bool true) ∧ w.alloc (.cells #[.int .i64 0, .int .i64 0, .int .i64 0, .int .i64 0, .int .i64 0, .int .i64 0, .int .i64 0, .int .i64 0] T) = w' := by
  subst hb; exact good8 w T
theorem good9b (w : World) (b : Nat) (T : TypeId) (hb : w.heap.size = b) :
    Calls Try.prog 67 #[.slice (some ⟨b, 0, none⟩) 9 9] (w.alloc (.cells #[.int .i64 0, .int .i64 0, .int .i64 0, .int .i64 0, .int .i64 0, .int .i64 0, .int .i64 0, .int .i64 0, .int .i64 0] T)) fun e w' => e = .returned (.bool true) ∧ w.alloc (.cells #[.int .i64 0, .int .i64 0, .int .i64 0, .int .i64 0, .int .i64 0, .int .i64 0, .int .i64 0, .int .i64 0, .int .i64 0] T) = w' := by
  subst hb; exact good9 w T
theorem good10b (w : World) (b : Nat) (T : TypeId) (hb : w.heap.size = b) :
    Calls Try.prog 67 #[.slice (some ⟨b, 0, none⟩) 10 10] (w.alloc (.cells #[.int .i64 0, .int .i64 0, .int .i64 0, .int .i64 0, .int .i64 0, .int .i64 0, .int .i64 0, .int .i64 0, .int .i64 0, .int .i64 0] T)) fun e w' => e = .returned (.bool true) ∧ w.alloc (.cells #[.int .i64 0, .int .i64 0, .int .i64 0, .int .i64 0, .int .i64 0, .int .i64 0, .int .i64 0, .int .i64 0, .int .i64 0, .int .i64 0] T) = w' := by
  subst hb; exact good10 w T
end Go.Proofs.Ytooghdnlaonkaaa
/- Contracts of lines.Check, Up, Down, Split. -/
namespace Go.Proofs.Ytooghdnlaonkaaa
open Go.RowKit

theorem linChk (n : Nat) (a : Option Addr) (cap : Nat) (w : World) : Calls Try.prog 102 #[.slice a n cap] w fun e w' => e = .returned (.int .i64 (if 30 < n then 2 else 0)) ∧ w = w' := by
  by_cases h : 30 < n
  · have d : decide ((30 : Int) < (n : Int)) = true := decide_eq_true (by omega)
    rw [if_pos h]
    clear h
    go_enter Try.func102, Try.ntmps102
    go_wp2_with fail
    go_ret
    exact ⟨rfl, rfl⟩
  · have d : decide ((30 : Int) < (n : Int)) = false := decide_eq_false (by omega)
    rw [if_neg h]
    clear h
    go_enter Try.func102, Try.ntmps102
    go_wp2_with fail
    go_ret
    exact ⟨rfl, rfl⟩
def mUp : Int → Int → Bool := fun a b => decide (a < b)
def mDn : Int → Int → Bool := fun a b => decide (b ≤ a)
theorem up1 (x y : Int) (W : World) : Calls Try.prog 104 #[.int .i64 x, .int .i64 y] W fun e w' => e = .returned (.bool (mUp x y)) ∧ W = w' := by
  unfold mUp
  go_enter Try.func104, Try.ntmps104
  go_wp2_with fail
  go_ret
  exact ⟨rfl, rfl⟩
theorem down1 (x y : Int) (W : World) : Calls Try.prog 105 #[.int .i64 x, .int .i64 y] W fun e w' => e = .returned (.bool (mDn x y)) ∧ W = w' := by
  unfold mDn
  go_enter Try.func105, Try.ntmps105
  go_wp2_with fail
  go_ret
  exact ⟨rfl, rfl⟩
def LinSaid (l : List Int) (w : World) (e : Ending) (w' : World) : Prop :=
  ∃ ad cp, e = .returned (.tuple #[.slice ad l.length cp, .int .i64 0]) ∧ l.length ≤ cp ∧ Fr w w' [⟨3, .slice ad l.length cp, ints l⟩]
set_option maxRecDepth 100000 in
theorem lin_up (l : List Int) (n : Nat) (a : Option Addr) (cap : Nat) (w : World) (h : Sa w a (ints l)) (hn : l.length = n) (h30 : n ≤ 30) (hc : n ≤ cap) :
    Calls Try.prog 56 #[.slice a n cap] w (LinSaid (bestK mUp l n) w) := by
  have HS := Lib.hid h; have HN := Lib.hid hn
  clear h hn
  go_enter Try.func56, Try.ntmps56
  go_wp2_with fail
  refine (linChk n a cap w).mono ?_; rintro e w' ⟨rfl, rfl⟩
  rw [if_neg (show ¬ 30 < n by omega)]
  go_wp2_with fail
  refine (longest_any mUp 104 (enters_of Try.func104 (by kernel_rfl) rfl) up1 l n a cap w HS.out HN.out h30 hc).mono ?_; rintro e w1 ⟨ad, cp, rfl, hcp, hf⟩
  have HF := Lib.hid hf
  clear hf
  go_wp2_with fail
  go_ret2
  exact ⟨ad, cp, rfl, hcp, HF.out⟩
set_option maxRecDepth 100000 in
theorem lin_down (l : List Int) (n : Nat) (a : Option Addr) (cap : Nat) (w : World) (h : Sa w a (ints l)) (hn : l.length = n) (h30 : n ≤ 30) (hc : n ≤ cap) :
    Calls Try.prog 57 #[.slice a n cap] w (LinSaid (bestK mDn l n) w) := by
  have HS := Lib.hid h; have HN := Lib.hid hn
  clear h hn
  go_enter Try.func57, Try.ntmps57
  go_wp2_with fail
  refine (linChk n a cap w).mono ?_; rintro e w' ⟨rfl, rfl⟩
  rw [if_neg (show ¬ 30 < n by omega)]
  go_wp2_with fail
  refine (longest_any mDn 105 (enters_of Try.func105 (by kernel_rfl) rfl) down1 l n a cap w HS.out HN.out h30 hc).mono ?_; rintro e w1 ⟨ad, cp, rfl, hcp, hf⟩
  have HF := Lib.hid hf
  clear hf
  go_wp2_with fail
  go_ret2
  exact ⟨ad, cp, rfl, hcp, HF.out⟩
theorem lin_up_no (n : Nat) (a : Option Addr) (cap : Nat) (w : World) (h : 30 < n) : Calls Try.prog 56 #[.slice a n cap] w fun e w' => e = .returned (.tuple #[.slice .none 0 0, .int .i64 2]) ∧ w = w' := by
  go_enter Try.func56, Try.ntmps56
  go_wp2_with fail
  refine (linChk n a cap w).mono ?_; rintro e w' ⟨rfl, rfl⟩
  rw [if_pos h]
  go_wp2_with fail
  go_ret2
  exact ⟨rfl, rfl⟩
theorem lin_down_no (n : Nat) (a : Option Addr) (cap : Nat) (w : World) (h : 30 < n) : Calls Try.prog 57 #[.slice a n cap] w fun e w' => e = .returned (.tuple #[.slice .none 0 0, .int .i64 2]) ∧ w = w' := by
  go_enter Try.func57, Try.ntmps57
  go_wp2_with fail
  refine (linChk n a cap w).mono ?_; rintro e w' ⟨rfl, rfl⟩
  rw [if_pos h]
  go_wp2_with fail
  go_ret2
  exact ⟨rfl, rfl⟩
theorem lin_split_no (n : Nat) (a : Option Addr) (cap : Nat) (w : World) (h : 30 < n) : Calls Try.prog 58 #[.slice a n cap] w fun e w' => e = .returned (.tuple #[.slice .none 0 0, .int .i64 2]) ∧ w = w' := by
  go_enter Try.func58, Try.ntmps58
  go_wp2_with fail
  refine (linChk n a cap w).mono ?_; rintro e w' ⟨rfl, rfl⟩
  rw [if_pos h]
  go_wp2_with fail
  go_ret2
  exact ⟨rfl, rfl⟩

/-! the first of some ints -/
def IdxF (P : Int → Bool) (l : List Int) (n : Nat) (w : World) (e : Ending) (w' : World) : Prop :=
  ∃ r : Int, e = .returned (.int .i64 r) ∧ ((r = -1 ∧ ∀ i, i < n → P (nth l i) = false) ∨ ∃ k : Nat, k < n ∧ r = k ∧ P (nth l k) = true ∧ ∀ i, i < k → P (nth l i) = false) ∧ w = w'
set_option maxHeartbeats 1000000 in
theorem idxF_any (P : Int → Bool) (g : Nat) (cl : Array Value) (hg : ∀ args w, (callFunc g args).run Try.prog w = .ok (.enter g args) w)
    (l : List Int) (n : Nat) (a : Option Addr) (cap : Nat) (w : World) (hf : ∀ x, Calls Try.prog g (#[.int .i64 x] ++ cl) w fun e w' => e = .returned (.bool (P x)) ∧ w = w') (h : Sa w a (ints l)) (hn : l.length = n) (hl : n ≤ 1000000) :
    Calls Try.prog 106 #[.slice a n cap, .func (.func g) #[] cl] w (IdxF P l n w) := by
  have HS := Lib.hid h; have HN := Lib.hid hn; have HF := Lib.hid hf
  clear h hn hf
  go_enter Try.func106, Try.ntmps106
  go_wp2_with fail
  go_loop [8] (fun i => ∃ k : Nat, k ≤ n ∧ Hid (∀ i, i < k → P (nth l i) = false) ∧ i = .int .i64 k) (fun i => n - (intOf i).toNat)
  case atStart => exact ⟨0, Nat.zero_le _, Lib.hid (by intro i hi; omega), rfl⟩
  case round =>
    obtain ⟨k, hk, hz, rfl⟩ := hrel
    by_cases hlt : k < n
    · obtain ⟨b, off, rfl, hb, hc⟩ := HS.out.int k (by rw [HN.out]; exact hlt)
      obtain ⟨x, hx⟩ : ∃ x, nth l k = x := ⟨_, rfl⟩
      rw [hx] at hc
      have HX := Lib.hid hx
      have HC := Lib.hid (HF.out x)
      have e1 : (0 : Int) ≤ (k : Int) := by omega
      have e2 : (k : Int) < (n : Int) := by omega
      obtain ⟨B, hB⟩ : ∃ B, P x = B := ⟨_, rfl⟩
      have HB := Lib.hid hB
      clear hx hB
      cases B
      · go_wp2_with (go_at_fn g; refine HC.out.mono ?_; rintro e w' ⟨rfl, rfl⟩; rw [HB.out])
        go_round
        case rel =>
          refine ⟨k + 1, by omega, Lib.hid fun i hi => ?_, by go_num⟩
          by_cases h : i = k
          · subst h; rw [HX.out]; exact HB.out
          · exact hz.out i (by omega)
        case measure => simp [intOf]; omega
      · go_wp2_with (go_at_fn g; refine HC.out.mono ?_; rintro e w' ⟨rfl, rfl⟩; rw [HB.out])
        go_ret
        exact ⟨k, rfl, .inr ⟨k, hlt, rfl, by rw [HX.out]; exact HB.out, hz.out⟩, rfl⟩
    · obtain rfl : k = n := by omega
      go_wp2_with fail
      go_ret
      exact ⟨-1, rfl, .inl ⟨rfl, hz.out⟩, rfl⟩
theorem split1 (x y : Int) (b : Nat) (W : World) (hc : W.cell? ⟨b, 0, .none⟩ = some (.int .i64 x)) : Calls Try.prog 107 #[.int .i64 y, .pointer (some ⟨b, 0, .none⟩)] W fun e w' => e = .returned (.bool (decide (x ≤ y))) ∧ W = w' := by
  go_enter Try.func107, Try.ntmps107
  go_wp2_with fail
  go_ret
  exact ⟨rfl, rfl⟩
end Go.Proofs.Ytooghdnlaonkaaa
