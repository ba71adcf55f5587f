/- The append law that says what is kept of another own slice. -/
import Derived.Test.YtdabgibmbmhmdaaOwn
import Derived.Maps.AppendAt
namespace Go.Proofs.Ytdabgibmbmhmdaa
open Go.RowKit

/-- two own slices that do not share a block -/
def Apart (v u : Value) : Prop := v.ownBlock = none ∨ v.ownBlock ≠ u.ownBlock
theorem Own.kept {w w' : World} {base : Nat} {v : Value} {l : List Int} {row : Option Nat} (h : Own w base v l) (hg : w.grownBy w' row) (hne : v.ownBlock = none ∨ v.ownBlock ≠ row) : Own w' base v l := World.ownsRow.kept h hg hne
theorem Own.blockLt {w : World} {base : Nat} {v : Value} {l : List Int} (h : Own w base v l) : ∀ k, v.ownBlock = some k → k < w.heap.size := by
  intro k hk
  obtain ⟨_, h2⟩ := h
  rcases h2 with ⟨rfl, _⟩ | ⟨g, cap, cur, rfl, _, e3, _⟩
  · cases hk
  · simp [Value.ownBlock] at hk; subst hk
    exact (Array.getElem?_eq_some_iff.1 e3).1

/-- append one number; what else is kept: every other own slice that is apart from it, and it stays apart -/
theorem wpList_append1_at {ops : Array Oper} {rest : List Oper} {o : Oper} {a : Act} {Q : Exit → Act → World → Prop} {w0 : World} (hgd : o.guard = none) (s x : Operand)
    (ho : o.op = .call { callee := .builtin .append, args := #[s, x], argTypes := #[22, 22] })
    (base : Nat) (v : Value) (l : List Int) (y : Int) (hs : a.eval s = v) (hown : Own w0 base v l)
    (hx : a.eval x = .slice (some ⟨w0.heap.size, 0, none⟩) 1 1) (hlen : l.length ≤ 1000000) (hbase : base ≤ w0.heap.size)
    (h : ∀ v' w', Own w' base v' (l ++ [y]) → Below base w0 w' → w0.heap.size < w'.heap.size →
      (∀ base1 u m, Own w0 base1 u m → Apart u v → Own w' base1 u m ∧ Apart u v' ∧ Apart v' u) → wpList Try.prog ops Q rest (a.put o.dst v') w') :
    wpList Try.prog ops Q (o :: rest) a (w0.alloc (.cells #[.int .i64 y] 3)) := by
  obtain ⟨i0, hi, hz0, hz1, hz2⟩ := info_parts intInfo
  refine wpList_append_own_at _ hgd s x 22 ho base 3 i0 (.int .i64 0) 1 8 Try.underlying22 hi hz0 hz1 hz2 rfl (by decide) v l.length (l.map (Value.int .i64)) hs (World.ownsRow.alloc hown _)
    ⟨w0.heap.size, 0, none⟩ 1 1 [.int .i64 y] hx rfl (cell_one_new _ _ _) ?_ ?_ ?_ ?_ ?_
  · intro u hu; simp at hu; subst hu; rfl
  · unfold maxLen; omega
  · omega
  · simp; omega
  · intro v' w' h1 h2 _ hat
    have hsz := h2.size
    have hsz0 : (w0.alloc (.cells #[.int .i64 y] 3)).heap.size = w0.heap.size + 1 := by simp
    refine h v' w' ?_ ?_ ?_ ?_
    · unfold Own
      rw [List.length_append, List.map_append]; exact h1
    · refine Below.grown (row := v.ownBlock) ((Below.refl base w0).alloc hbase _) h2 (by simp; omega) ?_
      intro k hk
      exact (World.ownsRow.lt hown k hk).1
    · omega
    · intro base1 u m hu hap
      refine ⟨(hu.alloc _).kept h2 hap, ?_, ?_⟩
      · rcases hap with hap | hap
        · exact .inl hap
        · rcases hat with hat | hat
          · exact .inr (by rw [hat]; exact hap)
          · refine .inr fun he => ?_
            have := hu.blockLt _ (he.trans hat)
            omega
      · by_cases hv : v'.ownBlock = none
        · exact .inl hv
        · refine .inr fun he => ?_
          rcases hat with hat | hat
          · rcases hap with hap | hap
            · exact hv (by rw [he, hap])
            · exact hap (by rw [← he, hat])
          · have := hu.blockLt _ (he.symm.trans hat)
            omega
end Go.Proofs.Ytdabgibmbmhmdaa
