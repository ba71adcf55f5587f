/- Append of one element of any number of cells in a region that draws. -/
import Derived.Test.YtfompfaepabpgaaFG
import Derived.Test.YtfompfaepabpgaaHeldU
import Derived.Deep.AppendLies
namespace Go.Proofs.Ytfompfaepabpgaa
open Go.RowKit

theorem step_pushG {ops : Array Oper} {o : Oper} {a : Act} {K : Act → World → Prop} {Q : Exit → Act → World → Prop} {E : Prop} {w0 w : World} (hgd : o.guard = .none) (s x : Operand) (S T : TypeId) (z : Value) (c bytes : Nat)
    (hS : Try.prog.underlying S = some (.slice T)) (hT : (Try.prog.info? T).map (fun i => (i.zero, i.size, i.bytes)) = some (some z, c, bytes)) (hz : z.cells.size = c) (hc : 0 < c) (hby : 0 < bytes)
    (ho : o.op = .call { callee := .builtin .append, args := #[s, x], argTypes := #[S, S] })
    (ad : Option Addr) (n cap b : Nat) (xs ys : List Value) (B : List Big) (hs : a.eval s = .slice ad n cap) (hF : Fg w0 w (⟨T, c, n, .slice ad n cap, xs⟩ :: B))
    (hx : a.eval x = .slice (some ⟨b, 0, .none⟩) 1 1) (hC : ∀ (j : Nat) (u : Value), ys[j]? = some u → w.cell? ⟨b, j, .none⟩ = some u) (hy : ys.length = c) (h1 : ∀ u ∈ ys, u.oneCell' = true) (hlen : (n + 1) * bytes ≤ 140737488355328)
    (h : ∀ ad' cap' w', Fg w0 w' (⟨T, c, n + 1, .slice ad' (n + 1) cap', xs ++ ys⟩ :: B) → w.heap.size ≤ w'.heap.size → K (a.put o.dst (.slice ad' (n + 1) cap')) w') :
    if Region.wanted o (yielded ops a.tmps) = true then Oper.wp Try.prog o a w K Q else E := by
  obtain ⟨i0, hi, hz0, hz1, hz2⟩ := info_parts hT
  have hO : w.ownsRow w0.heap.size T c (.slice ad n cap) n xs := hF.own _ List.mem_cons_self
  refine step_append_lies w hgd s x S ho w0.heap.size T i0 z c bytes hS hi hz0 hz1 hz2 hz hc (.slice ad n cap) n xs hs hO
    ⟨b, 0, .none⟩ 1 1 ys hx (by rw [hy, Nat.one_mul]) ?_ h1 (by decide) ?_ hlen hF.bel.size w.heap.size rfl ?_
  · intro j u hj
    rw [show ((⟨b, 0, .none⟩ : Addr).add j) = ⟨b, j, .none⟩ from by unfold Addr.add; split <;> simp_all]
    exact hC j u hj
  · have : n + 1 ≤ (n + 1) * bytes := Nat.le_mul_of_pos_right _ hby
    unfold maxLen; omega
  · intro g cap' w' h2 h3 hat hg
    have hsz := h3.size
    have hb0 := hF.bel.size
    have hf := List.pairwise_cons.1 hF.far
    refine h (some ⟨g, 0, .none⟩) cap' w' ⟨?_, fun e he => ?_, List.pairwise_cons.2 ⟨fun e hb => ?_, hf.2⟩⟩ (by omega)
    · refine Below.grown (row := (Value.slice ad n cap).ownBlock) hF.bel h3 (by omega) ?_
      intro k hk
      exact (World.ownsRow.lt hO k hk).1
    · rcases List.mem_cons.1 he with rfl | he
      · exact h2
      · exact Big.kept (hF.own e (List.mem_cons_of_mem _ he)) h3 (hf.1 e he).symm (ownsRow_notMap hO)
    · have hbf := hf.1 e hb
      have hlt := Big.lt (hF.own e (List.mem_cons_of_mem _ hb))
      rcases hat with hat | hat
      · rcases hbf with hbf | hbf
        · rw [show (⟨T, c, n, Value.slice ad n cap, xs⟩ : Big).v.ownBlock = some g from hat] at hbf; cases hbf
        · exact .inr (show (Value.slice (some ⟨g, 0, .none⟩) (n + 1) cap').ownBlock ≠ _ by rw [show (Value.slice (some ⟨g, 0, .none⟩) (n + 1) cap').ownBlock = some g from rfl, ← hat]; exact hbf)
      · refine .inr (show (Value.slice (some ⟨g, 0, .none⟩) (n + 1) cap').ownBlock ≠ _ from ?_)
        rw [show (Value.slice (some ⟨g, 0, .none⟩) (n + 1) cap').ownBlock = some g from rfl, hat]
        intro e
        have := (hlt _ e.symm).2
        omega
end Go.Proofs.Ytfompfaepabpgaa
