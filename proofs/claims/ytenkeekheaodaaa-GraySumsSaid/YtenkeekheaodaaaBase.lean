/- Contracts of the small helpers that many laws call: Rest, Within, good. -/
import Derived.Test.YtenkeekheaodaaaRows
import Derived.WalkKit
import Derived.ProofKit
import Derived.OpenShut
import Derived.Outline
import Derived.WalkSpells
import Derived.Lib.Hide
import Derived.LoopTactic
namespace Go.Proofs.Ytenkeekheaodaaa
open Go.RowKit

theorem ret_int {k : IntKind} {a b : Int} (h : a = b) : Ending.returned (.int k a) = .returned (.int k b) := by rw [h]
theorem ret_bool {a b : Bool} (h : a = b) : Ending.returned (.bool a) = .returned (.bool b) := by rw [h]

theorem emod_of_tmod (k n : Int) (h : 1 ≤ n) : k % n = if k.tmod n < 0 then k.tmod n + n else k.tmod n := by
  rw [Int.tmod_eq_emod]
  have := Int.emod_nonneg k (b := n) (by omega)
  have := Int.emod_lt_of_pos k (b := n) (by omega)
  have hn : (n.natAbs : Int) = n := by omega
  by_cases hc : 0 ≤ k ∨ n ∣ k
  · rw [if_pos hc]; simp; omega
  · rw [if_neg hc]
    rw [hn]
    split <;> omega

set_option maxHeartbeats 400000 in
theorem rest_any (k n : Int) (w : World) (h : 1 ≤ n) (h2 : n ≤ 1000000000) :
    Calls Try.prog 38 #[.int .i64 k, .int .i64 n] w fun e w' => e = .returned (.int .i64 (k % n)) ∧ w = w' := by
  have he := emod_of_tmod k n h
  have h1 : -n < k.tmod n := by
    rcases Int.le_total 0 k with hk | hk
    · have := Int.tmod_nonneg n hk; omega
    · have := Int.lt_tmod_of_pos k (by omega : 0 < n); omega
  have h3 : k.tmod n < n := Int.tmod_lt_of_pos k (by omega)
  have hne : (n == 0) = false := by simp; omega
  by_cases hlt : k.tmod n < 0
  · rw [if_pos hlt] at he
    have HE := Lib.hid he; clear he
    go_enter Try.func38, Try.ntmps38
    go_wp2_with fail
    go_ret
    exact ⟨ret_int HE.out.symm, rfl⟩
  · rw [if_neg hlt] at he
    have HE := Lib.hid he; clear he
    go_enter Try.func38, Try.ntmps38
    go_wp2_with fail
    go_ret
    exact ⟨ret_int HE.out.symm, rfl⟩

set_option maxHeartbeats 400000 in
theorem within_any (k n : Int) (w : World) (h : 1 ≤ n) (h2 : n ≤ 1000000000) :
    Calls Try.prog 20 #[.int .i64 k, .int .i64 n] w fun e w' => e = .returned (.int .i64 (k % n)) ∧ w = w' := by
  have h4 := Int.emod_nonneg k (b := n) (by omega)
  have h5 := Int.emod_lt_of_pos k (b := n) (by omega)
  go_enter Try.func20, Try.ntmps20
  go_wp2_with (go_at_call 38; refine (rest_any _ _ _ h h2).mono ?_; rintro e w' ⟨rfl, rfl⟩)
  go_ret
  exact ⟨rfl, rfl⟩

/-- the result of Within as a fresh number in its range -/
theorem within_some (k n : Int) (w : World) (h : 1 ≤ n) (h2 : n ≤ 1000000000) :
    Calls Try.prog 20 #[.int .i64 k, .int .i64 n] w fun e w' => e = .returned (.int .i64 (k % n)) ∧ (0 ≤ k % n ∧ k % n < n) ∧ w = w' :=
  (within_any k n w h h2).mono fun _ _ ⟨a, b⟩ => ⟨a, ⟨Int.emod_nonneg k (by omega), Int.emod_lt_of_pos k (by omega)⟩, b⟩

/-- are all of these numbers 0? -/
def allZ (xs : List Int) : Bool := xs.all (fun x => x == 0)

theorem goodneq (x : Int) (w : World) :
    Calls Try.prog 40 #[.int .i64 x] w fun e w' => e = .returned (.bool (x != 0)) ∧ w = w' := by
  go_enter Try.func40, Try.ntmps40
  go_wp2
  go_ret
  exact ⟨rfl, rfl⟩

/-- what IndexFunc tells over the numbers f 0 .. f (n-1) -/
def IdxSaid (f : Nat → Int) (n : Nat) (w : World) (e : Ending) (w' : World) : Prop :=
  ∃ r : Int, e = .returned (.int .i64 r) ∧ (r = -1 ∧ (∀ i, i < n → f i = 0) ∨ 0 ≤ r ∧ r ≤ 1000000 ∧ ∃ i, i < n ∧ f i ≠ 0) ∧ w = w'

set_option maxHeartbeats 1000000 in
theorem index_any (f : Nat → Int) (n b off cap : Nat) (w : World) (hl : n ≤ 1000000)
    (hc : ∀ i, i < n → w.cell? ⟨b, off + i, none⟩ = some (.int .i64 (f i))) :
    Calls Try.prog 45 #[.slice (some ⟨b, off, none⟩) n cap, .func (.func 40) #[] #[]] w
      (IdxSaid f n w) := by
  have HC := Lib.hid hc; clear hc
  go_enter Try.func45, Try.ntmps45
  go_wp2_with fail
  go_loop [8] (fun i => ∃ k : Nat, k ≤ n ∧ Hid (∀ i, i < k → f i = 0) ∧ i = .int .i64 k) (fun i => n - (intOf i).toNat)
  case atStart => exact ⟨0, Nat.zero_le _, Lib.hid (by intro i hi; omega), rfl⟩
  case round =>
    obtain ⟨k, hk, hz, rfl⟩ := hrel
    by_cases hlt : k < n
    · have hcell := HC.out k hlt
      cases hx : (f k != 0)
      · have HX := Lib.hid hx
        go_wp2_with (go_at_call 40; refine (goodneq _ _).mono ?_; rintro e w' ⟨rfl, rfl⟩)
        go_round
        case rel =>
          refine ⟨k + 1, by omega, Lib.hid ?_, by go_num⟩
          intro i hi
          by_cases h : i = k
          · subst h; simpa using HX.out
          · exact hz.out i (by omega)
        case measure => simp [intOf]; omega
      · have HX := Lib.hid hx
        go_wp2_with (go_at_call 40; refine (goodneq _ _).mono ?_; rintro e w' ⟨rfl, rfl⟩)
        go_ret
        exact ⟨k, rfl, .inr ⟨by omega, by omega, k, hlt, by simpa using HX.out⟩, rfl⟩
    · obtain rfl : k = n := by omega
      go_wp2_with fail
      go_ret
      exact ⟨-1, rfl, .inl ⟨rfl, hz.out⟩, rfl⟩

def IffAll (r : Bool) (f : Nat → Int) (n : Nat) : Prop := r = true ↔ ∀ i, i < n → f i = 0
def GoodSaid (f : Nat → Int) (n : Nat) (w : World) (e : Ending) (w' : World) : Prop :=
  ∃ r : Bool, e = .returned (.bool r) ∧ IffAll r f n ∧ w = w'

set_option maxHeartbeats 400000 in
theorem contains_any (f : Nat → Int) (n b off cap : Nat) (w : World) (hl : n ≤ 1000000)
    (hc : ∀ i, i < n → w.cell? ⟨b, off + i, none⟩ = some (.int .i64 (f i))) :
    Calls Try.prog 39 #[.slice (some ⟨b, off, none⟩) n cap, .func (.func 40) #[] #[]] w
      fun e w' => ∃ r : Bool, e = .returned (.bool (!r)) ∧ IffAll r f n ∧ w = w' := by
  have HC := Lib.hid hc; clear hc
  go_enter Try.func39, Try.ntmps39
  go_wp2_with fail
  refine (index_any f n b off cap w hl HC.out).mono ?_
  rintro e w' ⟨r, rfl, hr, rfl⟩
  rcases hr with ⟨hr, hz⟩ | ⟨hr, hr2, i, hi, hne⟩
  · have HZ := Lib.hid hz; clear hz
    subst hr
    go_wp2_with fail
    go_ret
    exact ⟨true, rfl, ⟨fun _ => HZ.out, fun _ => rfl⟩, rfl⟩
  · have HI : Hid (i < n ∧ f i ≠ 0) := Lib.hid ⟨hi, hne⟩; clear hi hne
    go_wp2_with fail
    go_ret
    exact ⟨false, rfl, ⟨fun h => by simp at h, fun h => absurd (h i HI.out.1) HI.out.2⟩, rfl⟩

set_option maxHeartbeats 400000 in
theorem good_said (f : Nat → Int) (n b off cap : Nat) (w : World) (hl : n ≤ 1000000)
    (hc : ∀ i, i < n → w.cell? ⟨b, off + i, none⟩ = some (.int .i64 (f i))) :
    Calls Try.prog 22 #[.slice (some ⟨b, off, none⟩) n cap] w (GoodSaid f n w) := by
  have HC := Lib.hid hc; clear hc
  go_enter Try.func22, Try.ntmps22
  go_wp2_with fail
  refine (contains_any f n b off cap w hl HC.out).mono ?_
  rintro e w' ⟨r, rfl, hr, rfl⟩
  cases r
  all_goals
    go_wp2_with fail
    go_ret
  · exact ⟨false, rfl, hr, rfl⟩
  · exact ⟨true, rfl, hr, rfl⟩

/-- all errors are nil -/
theorem good_yes (n b off cap : Nat) (w : World) (hl : n ≤ 1000000)
    (hc : ∀ i, i < n → w.cell? ⟨b, off + i, none⟩ = some (.int .i64 0)) :
    Calls Try.prog 22 #[.slice (some ⟨b, off, none⟩) n cap] w fun e w' => e = .returned (.bool true) ∧ w = w' :=
  (good_said (fun _ => 0) n b off cap w hl hc).mono fun _ _ ⟨r, he, hr, hw⟩ => ⟨by rw [he, hr.2 (fun _ _ => rfl)], hw⟩

def cellsI (l : List Int) : Array Value := (l.map (Value.int .i64)).toArray
theorem good_lit (l : List Int) (w : World) (hl : l.length ≤ 1000000) (T : TypeId) (p : Nat × Nat) :
    Calls Try.prog 22 #[.slice (some ⟨w.heap.size, 0, none⟩) l.length l.length] (w.alloc (.cells (cellsI l) T p)) fun e w' => e = .returned (.bool (allZ l)) ∧ w.alloc (.cells (cellsI l) T p) = w' := by
  refine (good_said (fun i => l.getD i 0) l.length _ 0 _ _ hl ?_).mono ?_
  · intro i hi
    have : (w.alloc (.cells (cellsI l) T p)).heap[w.heap.size]? = some (.cells (cellsI l) T p) := by
      show (w.heap.push _)[w.heap.size]? = _
      exact Array.getElem?_push_size
    unfold World.cell?
    rw [show ((⟨w.heap.size, 0 + i, none⟩ : Addr).block) = w.heap.size from rfl, this]
    simp [cellsI, hi]
  · rintro e w' ⟨r, rfl, hr, rfl⟩
    refine ⟨ret_bool ?_, rfl⟩
    unfold IffAll at hr
    rw [Bool.eq_iff_iff, hr]
    simp only [allZ, List.all_eq_true, beq_iff_eq]
    constructor
    · intro h x hx
      obtain ⟨i, hi, rfl⟩ := List.getElem_of_mem hx
      have := h i hi
      simpa [hi] using this
    · intro h i hi
      simp [hi]
      exact h _ (List.getElem_mem hi)

end Go.Proofs.Ytenkeekheaodaaa
