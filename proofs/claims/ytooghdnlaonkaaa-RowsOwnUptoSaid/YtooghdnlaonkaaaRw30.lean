/- Several of my texts in one: Push1. -/
import Derived.Test.YtooghdnlaonkaaaRw09
import Derived.Test.YtooghdnlaonkaaaRw24
import Derived.Deep.AppendLies
/- One append in a region that draws. -/
namespace Go.Proofs.Ytooghdnlaonkaaa
open Go.RowKit

/-- a step of a region that draws: append of one cell to the first of them, the cell being the second entry -/
theorem step_push {ops : Array Oper} {o : Oper} {a : Act} {K : Act → World → Prop} {Q : Exit → Act → World → Prop} {E : Prop} {w0 w : World} (hgd : o.guard = .none) (s x : Operand) (S T : TypeId) (z : Value) (bytes : Nat)
    (hS : Try.prog.underlying S = some (.slice T)) (hT : (Try.prog.info? T).map (fun i => (i.zero, i.size, i.bytes)) = some (some z, 1, bytes)) (hz : z.cells.size = 1) (hby : bytes ≤ 1000)
    (ho : o.op = .call { callee := .builtin .append, args := #[s, x], argTypes := #[S, S] })
    (ad : Option Addr) (n cap b : Nat) (xs : List Value) (y : Value) (L : List Ent) (hs : a.eval s = .slice ad n cap) (hF : Fr w0 w (⟨T, .slice ad n cap, xs⟩ :: ⟨T, .slice (some ⟨b, 0, .none⟩) 1 1, [y]⟩ :: L))
    (hx : a.eval x = .slice (some ⟨b, 0, .none⟩) 1 1) (hy : y.oneCell' = true) (hlen : n ≤ 1000000)
    (h : ∀ ad' cap' w', Fr w0 w' (⟨T, .slice ad' (n + 1) cap', xs ++ [y]⟩ :: ⟨T, .slice (some ⟨b, 0, .none⟩) 1 1, [y]⟩ :: L) → w.heap.size ≤ w'.heap.size → K (a.put o.dst (.slice ad' (n + 1) cap')) w') :
    if Region.wanted o (yielded ops a.tmps) = true then Oper.wp Try.prog o a w K Q else E := by
  obtain ⟨i0, hi, hz0, hz1, hz2⟩ := info_parts hT
  have hn := hF.len
  have hO := hF.os.own _ List.mem_cons_self
  have hC := hF.get 1 rfl
  subst hn
  refine step_append_lies w hgd s x S ho w0.heap.size T i0 z 1 bytes hS hi hz0 hz1 hz2 hz (by decide) (.slice ad xs.length cap) xs.length xs hs hO
    ⟨b, 0, .none⟩ 1 1 [y] hx rfl ?_ ?_ (by decide) ?_ ?_ hF.bel.size w.heap.size rfl ?_
  · intro j u hj
    obtain ⟨b', off, e, _, hc⟩ := hC.at j (List.getElem?_eq_some_iff.1 hj).1
    cases e
    rw [show ((⟨b, 0, .none⟩ : Addr).add j) = ⟨b, 0 + j, .none⟩ from by unfold Addr.add; split <;> simp_all, hc, hj]
  · intro u hu; simp at hu; subst hu; exact hy
  · unfold maxLen; omega
  · calc (xs.length + 1) * bytes ≤ 1000001 * 1000 := Nat.mul_le_mul (by omega) hby
      _ ≤ _ := by omega
  · intro g cap' w' h1 h2 hat hg
    have hsz := h2.size
    have hb0 := hF.bel.size
    refine h (some ⟨g, 0, .none⟩) cap' w' ⟨?_, ⟨fun e he => ?_, ?_⟩⟩ (by omega)
    · refine Below.grown (row := (Value.slice ad xs.length cap).ownBlock) hF.bel h2 (by omega) ?_
      intro k hk
      exact (Ent.own.lt hO k hk).1
    · rcases List.mem_cons.1 he with rfl | he
      · unfold Ent.own; simpa using h1
      · exact World.ownsRow.kept (hF.os.own e (List.mem_cons_of_mem _ he)) h2 ((List.pairwise_cons.1 hF.os.far).1 e he).symm
    · have hf := List.pairwise_cons.1 hF.os.far
      refine List.pairwise_cons.2 ⟨fun e hb => ?_, hf.2⟩
      have hbf := hf.1 e hb
      have hlt := Ent.own.lt (hF.os.own e (List.mem_cons_of_mem _ hb))
      rcases hat with hat | hat
      · rcases hbf with hbf | hbf
        · rw [show (⟨T, Value.slice ad xs.length cap, xs⟩ : Ent).v.ownBlock = some g from hat] at hbf; cases hbf
        · exact .inr (show (Value.slice (some ⟨g, 0, .none⟩) (xs.length + 1) cap').ownBlock ≠ _ by rw [show (Value.slice (some ⟨g, 0, .none⟩) (xs.length + 1) cap').ownBlock = some g from rfl, ← hat]; exact hbf)
      · refine .inr (show (Value.slice (some ⟨g, 0, .none⟩) (xs.length + 1) cap').ownBlock ≠ _ from ?_)
        rw [show (Value.slice (some ⟨g, 0, .none⟩) (xs.length + 1) cap').ownBlock = some g from rfl, hat]
        intro e
        have := (hlt _ e.symm).2
        omega
end Go.Proofs.Ytooghdnlaonkaaa
