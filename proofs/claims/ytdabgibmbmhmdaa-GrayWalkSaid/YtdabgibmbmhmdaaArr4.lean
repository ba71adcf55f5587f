/- append where the block's number is spelled by the walk. -/
import Derived.Test.YtdabgibmbmhmdaaArr3
namespace Go.Proofs.Ytdabgibmbmhmdaa
open Go.RowKit

theorem wpList_pushInt' {ops : Array Oper} {rest : List Oper} {o : Oper} {a : Act} {Q : Exit → Act → World → Prop} {w0 w : World} (hgd : o.guard = none) (s x : Operand)
    (ho : o.op = .call { callee := .builtin .append, args := #[s, x], argTypes := #[22, 22] })
    (ad : Option Addr) (n cap : Nat) (l : List Int) (y : Int) (L : List Ent) (N : Nat) (hN : w.heap.size = N) (hs : a.eval s = .slice ad n cap) (hF : Fr w0 w (⟨3, .slice ad n cap, ints l⟩ :: L))
    (hx : a.eval x = .slice (some ⟨N, 0, none⟩) 1 1) (hlen : n ≤ 1000000)
    (h : ∀ ad' cap' w', Fr w0 w' (⟨3, .slice ad' (n + 1) cap', ints (l ++ [y])⟩ :: L) → N < w'.heap.size → wpList Try.prog ops Q rest (a.put o.dst (.slice ad' (n + 1) cap')) w') :
    wpList Try.prog ops Q (o :: rest) a (w.alloc (.cells #[.int .i64 y] 3)) := by
  subst hN
  exact wpList_pushInt hgd s x ho ad n cap l y L hs hF hx hlen h
/-- append of one cell of any type -/
theorem wpList_push' {ops : Array Oper} {rest : List Oper} {o : Oper} {a : Act} {Q : Exit → Act → World → Prop} {w0 w : World} (hgd : o.guard = none) (s x : Operand) (S T : TypeId) (z : Value) (bytes : Nat)
    (hS : Try.prog.underlying S = some (.slice T)) (hT : (Try.prog.info? T).map (fun i => (i.zero, i.size, i.bytes)) = some (some z, 1, bytes)) (hz : z.cells.size = 1) (hby : bytes ≤ 1000)
    (ho : o.op = .call { callee := .builtin .append, args := #[s, x], argTypes := #[S, S] })
    (ad : Option Addr) (n cap : Nat) (xs : List Value) (y : Value) (L : List Ent) (N : Nat) (hN : w.heap.size = N) (hs : a.eval s = .slice ad n cap) (hF : Fr w0 w (⟨T, .slice ad n cap, xs⟩ :: L))
    (hx : a.eval x = .slice (some ⟨N, 0, none⟩) 1 1) (hy : y.oneCell' = true) (hlen : n ≤ 1000000)
    (h : ∀ ad' cap' w', Fr w0 w' (⟨T, .slice ad' (n + 1) cap', xs ++ [y]⟩ :: L) → N < w'.heap.size → wpList Try.prog ops Q rest (a.put o.dst (.slice ad' (n + 1) cap')) w') :
    wpList Try.prog ops Q (o :: rest) a (w.alloc (.cells #[y] T)) := by
  subst hN
  exact wpList_push hgd s x S T z bytes hS hT hz hby ho ad n cap xs y L hs hF hx hy hlen h
theorem intElem : Try.prog.elem 22 = 3 := by kernel_rfl
/-- x[k:], of any element of one cell -/
theorem slice_fromT (S T : TypeId) (hS : Try.prog.underlying S = some (.slice T)) (hE : Try.prog.elem S = T) (hT : (Try.prog.info? T).map (fun i => i.size) = some 1)
    (ad : Option Addr) (n cap k : Nat) (hk : k ≤ n) (hc : n ≤ cap) (xs : List Value) (hx : xs.length = n) :
    ∃ ad' cap', (∀ W, Sem.run Try.prog (Instr.slice S (.slice ad n cap) (some (.int .i64 (k : Int))) none none) W = .ok (.slice ad' (n - k) cap') W) ∧ (∀ W, Sa W ad xs → Sa W ad' (xs.drop k)) ∧ n - k ≤ cap' := by
  have ht : Try.prog.underlying S = some (.slice (Try.prog.elem S)) := by rw [hE]; exact hS
  have hsz : ∀ W, Sem.run Try.prog (sizeOf (Try.prog.elem S)) W = .ok 1 W := fun W => by
    rw [hE]
    cases hi : Try.prog.info? T with
    | none => rw [hi] at hT; cases hT
    | some i => rw [hi] at hT; simp at hT; simp [sizeOf, typeInfo, go_sem, hi, hT]
  refine ⟨if cap = k then ad else ad.map (·.add (k * 1)), cap - k, fun W => ?_, fun W hW h0 => ?_, by omega⟩
  · rw [run_slice_l W S ad n cap ht .i64 k (by omega) (by omega), hsz]
    simp [Result.andThen, sliced]
  · rw [List.length_drop] at h0
    rw [if_neg (by omega)]
    obtain ⟨b, off, rfl, _, _⟩ := hW (by omega)
    have := hW.drop k
    have e : (some ⟨b, off, none⟩ : Option Addr).map (·.add (k * 1)) = some ⟨b, off + k, none⟩ := by
      simp only [Option.map_some, Nat.mul_one]; unfold Addr.add; split
      · next h => simp_all
      · rfl
    rw [e]; exact this (by rw [List.length_drop]; exact h0)
/-- x[lo:hi] -/
theorem slice_midT (S T : TypeId) (hS : Try.prog.underlying S = some (.slice T)) (hE : Try.prog.elem S = T) (hT : (Try.prog.info? T).map (fun i => i.size) = some 1)
    (ad : Option Addr) (n cap lo k : Nat) (hk : lo + k ≤ n) (hc : n ≤ cap) (xs : List Value) (hx : xs.length = n) :
    ∃ ad' cap', (∀ W, Sem.run Try.prog (Instr.slice S (.slice ad n cap) (some (.int .i64 (lo : Int))) (some (.int .i64 ((lo : Int) + (k : Int)))) none) W = .ok (.slice ad' k cap') W) ∧ (∀ W, Sa W ad xs → Sa W ad' ((xs.drop lo).take k)) ∧ k ≤ cap' := by
  have ht : Try.prog.underlying S = some (.slice (Try.prog.elem S)) := by rw [hE]; exact hS
  have hsz : ∀ W, Sem.run Try.prog (sizeOf (Try.prog.elem S)) W = .ok 1 W := fun W => by
    rw [hE]
    cases hi : Try.prog.info? T with
    | none => rw [hi] at hT; cases hT
    | some i => rw [hi] at hT; simp at hT; simp [sizeOf, typeInfo, go_sem, hi, hT]
  refine ⟨if cap = lo then ad else ad.map (·.add (lo * 1)), cap - lo, fun W => ?_, fun W hW h0 => ?_, by omega⟩
  · rw [run_slice_lh W S ad n cap ht .i64 .i64 lo ((lo : Int) + (k : Int)) (by omega) (by omega) (by omega), hsz]
    have e1 : ((lo : Int) + (k : Int)).toNat = lo + k := by omega
    simp only [Result.andThen, sliced, e1, Int.toNat_natCast]
    rw [Nat.add_sub_cancel_left]
  · rw [List.length_take, List.length_drop] at h0
    rw [if_neg (by omega)]
    obtain ⟨b, off, rfl, _, _⟩ := hW (by omega)
    have := (hW.drop lo).take k
    have e : (some ⟨b, off, none⟩ : Option Addr).map (·.add (lo * 1)) = some ⟨b, off + lo, none⟩ := by
      simp only [Option.map_some, Nat.mul_one]; unfold Addr.add; split
      · next h => simp_all
      · rfl
    rw [e]; exact this (by rw [List.length_take, List.length_drop]; exact h0)
end Go.Proofs.Ytdabgibmbmhmdaa
