/- Several of my texts in one: Base. -/
import Derived.Test.YtjplnkkcmkpkbaaRows
import Derived.WalkKit
import Derived.IntWalk
import Derived.ProofKit
import Derived.OpenShut
import Derived.Outline
import Derived.WalkSpells
import Derived.Lib.Hide
import Derived.LoopTactic
import Derived.WalkSmall
import Derived.Deep.QuietTactic
import Derived.BigQuiet
import Derived.Deep.RegionWith
set_option linter.unusedSimpArgs false
set_option linter.unusedVariables false
/- Contracts of the small helpers that many laws call: Rest, Within, good. -/
namespace Go.Proofs.Ytjplnkkcmkpkbaa
open Go.RowKit

theorem ret_int {k : IntKind} {a b : Int} (h : a = b) : Ending.returned (.int k a) = .returned (.int k b) := by rw [h]
theorem ret_bool {a b : Bool} (h : a = b) : Ending.returned (.bool a) = .returned (.bool b) := by rw [h]

/-- a contract that leaves the world alone, in a region that draws its order -/
theorem quiet_eq {P : Program} {f : FuncId} {args : Array Value} {w : World} {n : Nat} {v : Value}
    (h : Calls P f args (w.drewN n) fun e w' => e = .returned v ∧ w.drewN n = w') : Calls P f args (w.drewN n) fun e w'' => e = .returned v ∧ ∃ m, w'' = w.drewN m :=
  Calls.quiet_of_same (h.mono fun _ _ ⟨a, b⟩ => ⟨a, b.symm⟩)

theorem grown_drewN {W w' : World} (h : Grown W w') (n : Nat) : Grown W (w'.drewN n) := h
theorem grown_trans {W w1 w2 : World} (h1 : Grown W w1) (h2 : Grown w1 w2) : Grown W w2 := by
  refine ⟨World.keptBut_trans h1.1 h2.1, fun a => by rw [h2.2.1, h1.2.1], Nat.le_trans h1.2.2 h2.2.2⟩

theorem ret2_int {k l : IntKind} {a b c d : Int} (h : a = b) (h2 : c = d) : Ending.returned (.tuple #[.int k a, .int l c]) = .returned (.tuple #[.int k b, .int l d]) := by rw [h, h2]
theorem kin_trans {a b c : World} (h : Below a.heap.size a b) (k : Below b.heap.size b c) : Below a.heap.size a c := h.trans (k.mono h.size)
theorem bcell {W w1 : World} (hb : Below W.heap.size W w1) : (∀ b o, b < W.heap.size → w1.cell? ⟨b, o, none⟩ = W.cell? ⟨b, o, none⟩) ∧ (∀ b o, b < W.heap.size → w1.frozen? ⟨b, o, none⟩ = W.frozen? ⟨b, o, none⟩) :=
  ⟨fun b o h => hb.cell (p := ⟨b, o, none⟩) h, fun b o h => hb.frozen (p := ⟨b, o, none⟩) h⟩
theorem kin_alloc {a b : World} (h : Below a.heap.size a b) (o : Obj) : Below a.heap.size a (b.alloc o) := h.alloc h.size o
theorem val_int {k : IntKind} {a b : Int} (h : a = b) : Value.int k a = Value.int k b := by rw [h]
theorem wrap64_eq {a b : Int} (h : a = b) (h1 : -9223372036854775808 ≤ b) (h2 : b ≤ 9223372036854775807) : wrap64 a = b := by
  rw [h]; exact IntWalk.wrap64_in b ⟨h1, h2⟩
theorem val_wrap {a b : Int} (h : a = b) (h1 : -9223372036854775808 ≤ b) (h2 : b ≤ 9223372036854775807) : Value.int .i64 (wrap64 a) = Value.int .i64 b := by
  rw [wrap64_eq h h1 h2]

theorem emod_of_tmod (k n : Int) (h : 1 ≤ n) : k % n = if k.tmod n < 0 then k.tmod n + n else k.tmod n := by
  rw [Int.tmod_eq_emod]
  have := Int.emod_nonneg k (b := n) (by omega)
  have := Int.emod_lt_of_pos k (b := n) (by omega)
  have hn : (n.natAbs : Int) = n := by omega
  by_cases hc : 0 ≤ k ∨ n ∣ k
  · rw [if_pos hc]; simp; omega
  · rw [if_neg hc]
    rw [hn]
    split <;> omega

set_option maxHeartbeats 400000 in
theorem rest_any (k n : Int) (w : World) (h : 1 ≤ n) (h2 : n ≤ 1000000000) :
    Calls Try.prog 13 #[.int .i64 k, .int .i64 n] w fun e w' => e = .returned (.int .i64 (k % n)) ∧ w = w' := by
  have he := emod_of_tmod k n h
  have h1 : -n < k.tmod n := by
    rcases Int.le_total 0 k with hk | hk
    · have := Int.tmod_nonneg n hk; omega
    · have := Int.lt_tmod_of_pos k (by omega : 0 < n); omega
  have h3 : k.tmod n < n := Int.tmod_lt_of_pos k (by omega)
  have hne : (n == 0) = false := by simp; omega
  by_cases hlt : k.tmod n < 0
  · rw [if_pos hlt] at he
    have HE := Lib.hid he; clear he
    go_enter Try.func13, Try.ntmps13
    go_wp2_with fail
    go_ret
    exact ⟨ret_int HE.out.symm, rfl⟩
  · rw [if_neg hlt] at he
    have HE := Lib.hid he; clear he
    go_enter Try.func13, Try.ntmps13
    go_wp2_with fail
    go_ret
    exact ⟨ret_int HE.out.symm, rfl⟩

set_option maxHeartbeats 400000 in
theorem within_any (k n : Int) (w : World) (h : 1 ≤ n) (h2 : n ≤ 1000000000) :
    Calls Try.prog 7 #[.int .i64 k, .int .i64 n] w fun e w' => e = .returned (.int .i64 (k % n)) ∧ w = w' := by
  have h4 := Int.emod_nonneg k (b := n) (by omega)
  have h5 := Int.emod_lt_of_pos k (b := n) (by omega)
  go_enter Try.func7, Try.ntmps7
  go_wp2_with (go_at_call 13; refine (rest_any _ _ _ h h2).mono ?_; rintro e w' ⟨rfl, rfl⟩)
  go_ret
  exact ⟨rfl, rfl⟩

/-- the result of Within as a fresh number in its range -/
theorem within_some (k n : Int) (w : World) (h : 1 ≤ n) (h2 : n ≤ 1000000000) :
    Calls Try.prog 7 #[.int .i64 k, .int .i64 n] w fun e w' => e = .returned (.int .i64 (k % n)) ∧ (0 ≤ k % n ∧ k % n < n) ∧ w = w' :=
  (within_any k n w h h2).mono fun _ _ ⟨a, b⟩ => ⟨a, ⟨Int.emod_nonneg k (by omega), Int.emod_lt_of_pos k (by omega)⟩, b⟩

/-- are all of these numbers 0? -/
def allZ (xs : List Int) : Bool := xs.all (fun x => x == 0)

theorem cell_new (w : World) (c : Array Value) (T : TypeId) (i : Nat) : (w.alloc (.cells c T)).cell? ⟨w.heap.size, 0 + i, none⟩ = c[i]? := by
  have : (w.alloc (.cells c T)).heap[w.heap.size]? = some (.cells c T) := by
    show (w.heap.push _)[w.heap.size]? = _
    exact Array.getElem?_push_size
  unfold World.cell?
  rw [show ((⟨w.heap.size, 0 + i, none⟩ : Addr).block) = w.heap.size from rfl, this]
  simp
end Go.Proofs.Ytjplnkkcmkpkbaa
