/- Several of my texts in one: Base. -/
import Derived.Test.YtooghdnlaonkaaaRows
import Derived.WalkKit
import Derived.IntWalk
import Derived.ProofKit
import Derived.OpenShut
import Derived.Outline
import Derived.WalkSpells
import Derived.Lib.Hide
import Derived.LoopTactic
import Derived.WalkSmall
import Derived.Deep.QuietTactic
import Derived.BigQuiet
import Derived.Deep.RegionWith
/- Contracts of the small helpers that many laws call: Rest, Within, good. -/
namespace Go.Proofs.Ytooghdnlaonkaaa
open Go.RowKit

theorem ret_int {k : IntKind} {a b : Int} (h : a = b) : Ending.returned (.int k a) = .returned (.int k b) := by rw [h]
theorem ret_bool {a b : Bool} (h : a = b) : Ending.returned (.bool a) = .returned (.bool b) := by rw [h]

/-- a contract that leaves the world alone, in a region that draws its order -/
theorem quiet_eq {P : Program} {f : FuncId} {args : Array Value} {w : World} {n : Nat} {v : Value}
    (h : Calls P f args (w.drewN n) fun e w' => e = .returned v ∧ w.drewN n = w') : Calls P f args (w.drewN n) fun e w'' => e = .returned v ∧ ∃ m, w'' = w.drewN m :=
  Calls.quiet_of_same (h.mono fun _ _ ⟨a, b⟩ => ⟨a, b.symm⟩)

theorem grown_drewN {W w' : World} (h : Grown W w') (n : Nat) : Grown W (w'.drewN n) := h
theorem grown_trans {W w1 w2 : World} (h1 : Grown W w1) (h2 : Grown w1 w2) : Grown W w2 := by
  refine ⟨World.keptBut_trans h1.1 h2.1, fun a => by rw [h2.2.1, h1.2.1], Nat.le_trans h1.2.2 h2.2.2⟩

theorem ret2_int {k l : IntKind} {a b c d : Int} (h : a = b) (h2 : c = d) : Ending.returned (.tuple #[.int k a, .int l c]) = .returned (.tuple #[.int k b, .int l d]) := by rw [h, h2]
theorem kin_trans {a b c : World} (h : Below a.heap.size a b) (k : Below b.heap.size b c) : Below a.heap.size a c := h.trans (k.mono h.size)
theorem bcell {W w1 : World} (hb : Below W.heap.size W w1) : (∀ b o, b < W.heap.size → w1.cell? ⟨b, o, none⟩ = W.cell? ⟨b, o, none⟩) ∧ (∀ b o, b < W.heap.size → w1.frozen? ⟨b, o, none⟩ = W.frozen? ⟨b, o, none⟩) :=
  ⟨fun b o h => hb.cell (p := ⟨b, o, none⟩) h, fun b o h => hb.frozen (p := ⟨b, o, none⟩) h⟩
theorem kin_alloc {a b : World} (h : Below a.heap.size a b) (o : Obj) : Below a.heap.size a (b.alloc o) := h.alloc h.size o
theorem val_int {k : IntKind} {a b : Int} (h : a = b) : Value.int k a = Value.int k b := by rw [h]
theorem wrap64_eq {a b : Int} (h : a = b) (h1 : -9223372036854775808 ≤ b) (h2 : b ≤ 9223372036854775807) : wrap64 a = b := by
  rw [h]; exact IntWalk.wrap64_in b ⟨h1, h2⟩
theorem val_wrap {a b : Int} (h : a = b) (h1 : -9223372036854775808 ≤ b) (h2 : b ≤ 9223372036854775807) : Value.int .i64 (wrap64 a) = Value.int .i64 b := by
  rw [wrap64_eq h h1 h2]

theorem emod_of_tmod (k n : Int) (h : 1 ≤ n) : k % n = if k.tmod n < 0 then k.tmod n + n else k.tmod n := by
  rw [Int.tmod_eq_emod]
  have := Int.emod_nonneg k (b := n) (by omega)
  have := Int.emod_lt_of_pos k (b := n) (by omega)
  have hn : (n.natAbs : Int) = n := by omega
  by_cases hc : 0 ≤ k ∨ n ∣ k
  · rw [if_pos hc]; simp; omega
  · rw [if_neg hc]
    rw [hn]
    split <;> omega

/-- are all of these numbers 0? -/
def allZ (xs : List Int) : Bool := xs.all (fun x => x == 0)

theorem goodneq (x : Int) (w : World) :
    Calls Try.prog 123 #[.int .i64 x] w fun e w' => e = .returned (.bool (x != 0)) ∧ w = w' := by
  go_enter Try.func123, Try.ntmps123
  go_wp2
  go_ret
  exact ⟨rfl, rfl⟩

/-- what IndexFunc tells over the numbers f 0 .. f (n-1) -/
def IdxSaid (f : Nat → Int) (n : Nat) (w : World) (e : Ending) (w' : World) : Prop :=
  ∃ r : Int, e = .returned (.int .i64 r) ∧ (r = -1 ∧ (∀ i, i < n → f i = 0) ∨ 0 ≤ r ∧ r ≤ 1000000 ∧ ∃ i, i < n ∧ f i ≠ 0) ∧ w = w'

set_option maxHeartbeats 1000000 in
theorem index_any (f : Nat → Int) (n b off cap : Nat) (w : World) (hl : n ≤ 1000000)
    (hc : ∀ i, i < n → w.cell? ⟨b, off + i, none⟩ = some (.int .i64 (f i))) :
    Calls Try.prog 147 #[.slice (some ⟨b, off, none⟩) n cap, .func (.func 123) #[] #[]] w
      (IdxSaid f n w) := by
  have HC := Lib.hid hc; clear hc
  go_enter Try.func147, Try.ntmps147
  go_wp2_with fail
  go_loop [8] (fun i => ∃ k : Nat, k ≤ n ∧ Hid (∀ i, i < k → f i = 0) ∧ i = .int .i64 k) (fun i => n - (intOf i).toNat)
  case atStart => exact ⟨0, Nat.zero_le _, Lib.hid (by intro i hi; omega), rfl⟩
  case round =>
    obtain ⟨k, hk, hz, rfl⟩ := hrel
    by_cases hlt : k < n
    · have hcell := HC.out k hlt
      cases hx : (f k != 0)
      · have HX := Lib.hid hx
        go_wp2_with (go_at_call 123; refine (goodneq _ _).mono ?_; rintro e w' ⟨rfl, rfl⟩)
        go_round
        case rel =>
          refine ⟨k + 1, by omega, Lib.hid ?_, by go_num⟩
          intro i hi
          by_cases h : i = k
          · subst h; simpa using HX.out
          · exact hz.out i (by omega)
        case measure => simp [intOf]; omega
      · have HX := Lib.hid hx
        go_wp2_with (go_at_call 123; refine (goodneq _ _).mono ?_; rintro e w' ⟨rfl, rfl⟩)
        go_ret
        exact ⟨k, rfl, .inr ⟨by omega, by omega, k, hlt, by simpa using HX.out⟩, rfl⟩
    · obtain rfl : k = n := by omega
      go_wp2_with fail
      go_ret
      exact ⟨-1, rfl, .inl ⟨rfl, hz.out⟩, rfl⟩

def IffAll (r : Bool) (f : Nat → Int) (n : Nat) : Prop := r = true ↔ ∀ i, i < n → f i = 0
def GoodSaid (f : Nat → Int) (n : Nat) (w : World) (e : Ending) (w' : World) : Prop :=
  ∃ r : Bool, e = .returned (.bool r) ∧ IffAll r f n ∧ w = w'

set_option maxHeartbeats 400000 in
theorem contains_any (f : Nat → Int) (n b off cap : Nat) (w : World) (hl : n ≤ 1000000)
    (hc : ∀ i, i < n → w.cell? ⟨b, off + i, none⟩ = some (.int .i64 (f i))) :
    Calls Try.prog 122 #[.slice (some ⟨b, off, none⟩) n cap, .func (.func 123) #[] #[]] w
      fun e w' => ∃ r : Bool, e = .returned (.bool (!r)) ∧ IffAll r f n ∧ w = w' := by
  have HC := Lib.hid hc; clear hc
  go_enter Try.func122, Try.ntmps122
  go_wp2_with fail
  refine (index_any f n b off cap w hl HC.out).mono ?_
  rintro e w' ⟨r, rfl, hr, rfl⟩
  rcases hr with ⟨hr, hz⟩ | ⟨hr, hr2, i, hi, hne⟩
  · have HZ := Lib.hid hz; clear hz
    subst hr
    go_wp2_with fail
    go_ret
    exact ⟨true, rfl, ⟨fun _ => HZ.out, fun _ => rfl⟩, rfl⟩
  · have HI : Hid (i < n ∧ f i ≠ 0) := Lib.hid ⟨hi, hne⟩; clear hi hne
    go_wp2_with fail
    go_ret
    exact ⟨false, rfl, ⟨fun h => by simp at h, fun h => absurd (h i HI.out.1) HI.out.2⟩, rfl⟩

set_option maxHeartbeats 400000 in
theorem good_said (f : Nat → Int) (n b off cap : Nat) (w : World) (hl : n ≤ 1000000)
    (hc : ∀ i, i < n → w.cell? ⟨b, off + i, none⟩ = some (.int .i64 (f i))) :
    Calls Try.prog 67 #[.slice (some ⟨b, off, none⟩) n cap] w (GoodSaid f n w) := by
  have HC := Lib.hid hc; clear hc
  go_enter Try.func67, Try.ntmps67
  go_wp2_with fail
  refine (contains_any f n b off cap w hl HC.out).mono ?_
  rintro e w' ⟨r, rfl, hr, rfl⟩
  cases r
  all_goals
    go_wp2_with fail
    go_ret
  · exact ⟨false, rfl, hr, rfl⟩
  · exact ⟨true, rfl, hr, rfl⟩

/-- all errors are nil -/
theorem good_yes (n b off cap : Nat) (w : World) (hl : n ≤ 1000000)
    (hc : ∀ i, i < n → w.cell? ⟨b, off + i, none⟩ = some (.int .i64 0)) :
    Calls Try.prog 67 #[.slice (some ⟨b, off, none⟩) n cap] w fun e w' => e = .returned (.bool true) ∧ w = w' :=
  (good_said (fun _ => 0) n b off cap w hl hc).mono fun _ _ ⟨r, he, hr, hw⟩ => ⟨by rw [he, hr.2 (fun _ _ => rfl)], hw⟩

theorem cell_new (w : World) (c : Array Value) (T : TypeId) (i : Nat) : (w.alloc (.cells c T)).cell? ⟨w.heap.size, 0 + i, none⟩ = c[i]? := by
  have : (w.alloc (.cells c T)).heap[w.heap.size]? = some (.cells c T) := by
    show (w.heap.push _)[w.heap.size]? = _
    exact Array.getElem?_push_size
  unfold World.cell?
  rw [show ((⟨w.heap.size, 0 + i, none⟩ : Addr).block) = w.heap.size from rfl, this]
  simp
theorem good1 (w : World) (T : TypeId) :
    Calls Try.prog 67 #[.slice (some ⟨w.heap.size, 0, none⟩) 1 1] (w.alloc (.cells #[.int .i64 0] T)) fun e w' => e = .returned (.bool true) ∧ w.alloc (.cells #[.int .i64 0] T) = w' :=
  good_yes 1 w.heap.size 0 1 _ (by omega) (fun i hi => by
    rw [cell_new]
    match i, hi with
    | 0, _ => rfl)
theorem good2 (w : World) (T : TypeId) :
    Calls Try.prog 67 #[.slice (some ⟨w.heap.size, 0, none⟩) 2 2] (w.alloc (.cells #[.int .i64 0, .int .i64 0] T)) fun e w' => e = .returned (.bool true) ∧ w.alloc (.cells #[.int .i64 0, .int .i64 0] T) = w' :=
  good_yes 2 w.heap.size 0 2 _ (by omega) (fun i hi => by
    rw [cell_new]
    match i, hi with
    | 0, _ => rfl | 1, _ => rfl)
theorem good3 (w : World) (T : TypeId) :
    Calls Try.prog 67 #[.slice (some ⟨w.heap.size, 0, none⟩) 3 3] (w.alloc (.cells #[.int .i64 0, .int .i64 0, .int .i64 0] T)) fun e w' => e = .returned (.bool true) ∧ w.alloc (.cells #[.int .i64 0, .int .i64 0, .int .i64 0] T) = w' :=
  good_yes 3 w.heap.size 0 3 _ (by omega) (fun i hi => by
    rw [cell_new]
    match i, hi with
    | 0, _ => rfl | 1, _ => rfl | 2, _ => rfl)
theorem good4 (w : World) (T : TypeId) :
    Calls Try.prog 67 #[.slice (some ⟨w.heap.size, 0, none⟩) 4 4] (w.alloc (.cells #[.int .i64 0, .int .i64 0, .int .i64 0, .int .i64 0] T)) fun e w' => e = .returned (.bool true) ∧ w.alloc (.cells #[.int .i64 0, .int .i64 0, .int .i64 0, .int .i64 0] T) = w' :=
  good_yes 4 w.heap.size 0 4 _ (by omega) (fun i hi => by
    rw [cell_new]
    match i, hi with
    | 0, _ => rfl | 1, _ => rfl | 2, _ => rfl | 3, _ => rfl)
theorem good5 (w : World) (T : TypeId) :
    Calls Try.prog 67 #[.slice (some ⟨w.heap.size, 0, none⟩) 5 5] (w.alloc (.cells #[.int .i64 0, .int .i64 0, .int .i64 0, .int .i64 0, .int .i64 0] T)) fun e w' => e = .returned (.bool true) ∧ w.alloc (.cells #[.int .i64 0, .int .i64 0, .int .i64 0, .int .i64 0, .int .i64 0] T) = w' :=
  good_yes 5 w.heap.size 0 5 _ (by omega) (fun i hi => by
    rw [cell_new]
    match i, hi with
    | 0, _ => rfl | 1, _ => rfl | 2, _ => rfl | 3, _ => rfl | 4, _ => rfl)
theorem good6 (w : World) (T : TypeId) :
    Calls Try.prog 67 #[.slice (some ⟨w.heap.size, 0, none⟩) 6 6] (w.alloc (.cells #[.int .i64 0, .int .i64 0, .int .i64 0, .int .i64 0, .int .i64 0, .int .i64 0] T)) fun e w' => e = .returned (.bool true) ∧ w.alloc (.cells #[.int .i64 0, .int .i64 0, .int .i64 0, .int .i64 0, .int .i64 0, .int .i64 0] T) = w' :=
  good_yes 6 w.heap.size 0 6 _ (by omega) (fun i hi => by
    rw [cell_new]
    match i, hi with
    | 0, _ => rfl | 1, _ => rfl | 2, _ => rfl | 3, _ => rfl | 4, _ => rfl | 5, _ => rfl)
theorem good7 (w : World) (T : TypeId) :
    Calls Try.prog 67 #[.slice (some ⟨w.heap.size, 0, none⟩) 7 7] (w.alloc (.cells #[.int .i64 0, .int .i64 0, .int .i64 0, .int .i64 0, .int .i64 0, .int .i64 0, .int .i64 0] T)) fun e w' => e = .returned (.bool true) ∧ w.alloc (.cells #[.int .i64 0, .int .i64 0, .int .i64 0, .int .i64 0, .int .i64 0, .int .i64 0, .int .i64 0] T) = w' :=
  good_yes 7 w.heap.size 0 7 _ (by omega) (fun i hi => by
    rw [cell_new]
    match i, hi with
    | 0, _ => rfl | 1, _ => rfl | 2, _ => rfl | 3, _ => rfl | 4, _ => rfl | 5, _ => rfl | 6, _ => rfl)
theorem good8 (w : World) (T : TypeId) :
    Calls Try.prog 67 #[.slice (some ⟨w.heap.size, 0, none⟩) 8 8] (w.alloc (.cells #[.int .i64 0, .int .i64 0, .int .i64 0, .int .i64 0, .int .i64 0, .int .i64 0, .int .i64 0, .int .i64 0] T)) fun e w' => e = .returned (.bool true) ∧ w.alloc (.cells #[.int .i64 0, .int .i64 0, .int .i64 0, .int .i64 0, .int .i64 0, .int .i64 0, .int .i64 0, .int .i64 0] T) = w' :=
  good_yes 8 w.heap.size 0 8 _ (by omega) (fun i hi => by
    rw [cell_new]
    match i, hi with
    | 0, _ => rfl | 1, _ => rfl | 2, _ => rfl | 3, _ => rfl | 4, _ => rfl | 5, _ => rfl | 6, _ => rfl | 7, _ => rfl)
theorem good9 (w : World) (T : TypeId) :
    Calls Try.prog 67 #[.slice (some ⟨w.heap.size, 0, none⟩) 9 9] (w.alloc (.cells #[.int .i64 0, .int .i64 0, .int .i64 0, .int .i64 0, .int .i64 0, .int .i64 0, .int .i64 0, .int .i64 0, .int .i64 0] T)) fun e w' => e = .returned (.bool true) ∧ w.alloc (.cells #[.int .i64 0, .int .i64 0, .int .i64 0, .int .i64 0, .int .i64 0, .int .i64 0, .int .i64 0, .int .i64 0, .int .i64 0] T) = w' :=
  good_yes 9 w.heap.size 0 9 _ (by omega) (fun i hi => by
    rw [cell_new]
    match i, hi with
    | 0, _ => rfl | 1, _ => rfl | 2, _ => rfl | 3, _ => rfl | 4, _ => rfl | 5, _ => rfl | 6, _ => rfl | 7, _ => rfl | 8, _ => rfl)
theorem good10 (w : World) (T : TypeId) :
    Calls Try.prog 67 #[.slice (some ⟨w.heap.size, 0, none⟩) 10 10] (w.alloc (.cells #[.int .i64 0, .int .i64 0, .int .i64 0, .int .i64 0, .int .i64 0, .int .i64 0, .int .i64 0, .int .i64 0, .int .i64 0, .int .i64 0] T)) fun e w' => e = .returned (.bool true) ∧ w.alloc (.cells #[.int .i64 0, .int .i64 0, .int .i64 0, .int .i64 0, .int .i64 0, .int .i64 0, .int .i64 0, .int .i64 0, .int .i64 0, .int .i64 0] T) = w' :=
  good_yes 10 w.heap.size 0 10 _ (by omega) (fun i hi => by
    rw [cell_new]
    match i, hi with
    | 0, _ => rfl | 1, _ => rfl | 2, _ => rfl | 3, _ => rfl | 4, _ => rfl | 5, _ => rfl | 6, _ => rfl | 7, _ => rfl | 8, _ => rfl | 9, _ => rfl)
end Go.Proofs.Ytooghdnlaonkaaa
