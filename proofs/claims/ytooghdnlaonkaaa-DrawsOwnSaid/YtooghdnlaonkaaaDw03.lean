/- Several of my texts in one: Sl, Own2. -/
import Derived.Test.YtooghdnlaonkaaaDw02
import Derived.Maps.AppendAt
/- Slices of ints that are only read, whatever they lie in. -/
namespace Go.Proofs.Ytooghdnlaonkaaa
open Go.RowKit

/-- v is a slice that reads as the numbers l -/
def Sl (w : World) (v : Value) (l : List Int) : Prop :=
  (l = [] ∧ ∃ a cap, v = .slice a 0 cap) ∨
  (0 < l.length ∧ ∃ b off cap, v = .slice (some ⟨b, off, none⟩) l.length cap ∧ b < w.heap.size ∧ ∀ i, i < l.length → w.cell? ⟨b, off + i, none⟩ = some (.int .i64 (l.getD i 0)))
theorem Sl.keep {w w' : World} {v : Value} {l : List Int} (h : Sl w v l) (k : Below w.heap.size w w') : Sl w' v l := by
  rcases h with h | ⟨h0, b, off, cap, e, hb, hc⟩
  · exact .inl h
  · refine .inr ⟨h0, b, off, cap, e, Nat.lt_of_lt_of_le hb k.size, fun i hi => ?_⟩
    rw [← hc i hi]
    exact k.cell (p := ⟨b, off + i, none⟩) hb
theorem Sl.alloc {w : World} {v : Value} {l : List Int} (h : Sl w v l) (o : Obj) : Sl (w.alloc o) v l := h.keep (kin_alloc (Below.refl _ _) o)
theorem Own.sl {w : World} {base : Nat} {v : Value} {l : List Int} (h : Own w base v l) : Sl w v l := by
  rcases h.shape with ⟨h1, h2⟩ | ⟨g, cap, e, _, hg, hc, _⟩
  · exact .inl ⟨h2, none, 0, h1⟩
  · cases l with
    | nil => exact .inl ⟨rfl, some ⟨g, 0, none⟩, cap, e⟩
    | cons a l => exact .inr ⟨by simp, g, 0, cap, e, hg, fun i hi => by rw [Nat.zero_add]; exact hc i hi⟩
/-- what the frame of a law tells of a slice of integers that came in -/
def IsRow (k : IntKind) (w : World) (a : Option Addr) (len cap : Nat) (zs : List Int) : Prop :=
  (a = none ∧ len = 0 ∧ cap = 0 ∧ zs = []) ∨
  ∃ x, a = some x ∧ len ≤ cap ∧ cap ≤ maxLen ∧ zs.length = cap ∧ (∀ i, i < zs.length → w.cell? (x.add i) = some (.int k (zs.getD i 0))) ∧ ∀ n ∈ zs, (Lit.int k n).wf = true
theorem IsRow.sl {w : World} {a : Option Addr} {len cap : Nat} {zs : List Int} (h : IsRow .i64 w a len cap zs) : Sl w (.slice a len cap) (zs.take len) ∧ (zs.take len).length = len ∧ len ≤ maxLen := by
  rcases h with ⟨rfl, rfl, rfl, rfl⟩ | ⟨x, rfl, h1, h2, h3, h4, h5⟩
  · exact ⟨.inl ⟨rfl, none, 0, rfl⟩, rfl, by omega⟩
  · have hl : (zs.take len).length = len := by rw [List.length_take]; omega
    refine ⟨?_, hl, by omega⟩
    by_cases h0 : len = 0
    · subst h0; exact .inl ⟨by simp, some x, cap, rfl⟩
    · have hz := h4 0 (by omega)
      obtain ⟨b, off, spot⟩ := x
      have hs : spot = none := by
        cases spot with
        | none => rfl
        | some s =>
          unfold World.cell? at hz
          simp only [Addr.add] at hz
          split at hz
          · simp at hz
          · cases hz
      subst hs
      refine .inr ⟨by omega, b, off, cap, by rw [hl], ?_, fun i hi => ?_⟩
      · unfold World.cell? at hz
        simp only [Addr.add] at hz
        split at hz
        · next hq => exact (Array.getElem?_eq_some_iff.1 hq).1
        · cases hz
      · have := h4 i (by omega)
        rw [show ((⟨b, off, none⟩ : Addr).add i) = ⟨b, off + i, none⟩ from by simp [Addr.add]] at this
        rw [this]
        congr 2
        rw [List.getD_eq_getElem?_getD, List.getD_eq_getElem?_getD, List.getElem?_take_of_lt (by omega)]
end Go.Proofs.Ytooghdnlaonkaaa
/- The append law that says what is kept of another own slice. -/
namespace Go.Proofs.Ytooghdnlaonkaaa
open Go.RowKit

/-- two own slices that do not share a block -/
def Apart (v u : Value) : Prop := v.ownBlock = none ∨ v.ownBlock ≠ u.ownBlock
theorem Own.kept {w w' : World} {base : Nat} {v : Value} {l : List Int} {row : Option Nat} (h : Own w base v l) (hg : w.grownBy w' row) (hne : v.ownBlock = none ∨ v.ownBlock ≠ row) : Own w' base v l := World.ownsRow.kept h hg hne
theorem Own.blockLt {w : World} {base : Nat} {v : Value} {l : List Int} (h : Own w base v l) : ∀ k, v.ownBlock = some k → k < w.heap.size := by
  intro k hk
  obtain ⟨_, h2⟩ := h
  rcases h2 with ⟨rfl, _⟩ | ⟨g, cap, cur, rfl, _, e3, _⟩
  · cases hk
  · simp [Value.ownBlock] at hk; subst hk
    exact (Array.getElem?_eq_some_iff.1 e3).1

/-- append one number; what else is kept: every other own slice that is apart from it, and it stays apart -/
theorem wpList_append1_at {ops : Array Oper} {rest : List Oper} {o : Oper} {a : Act} {Q : Exit → Act → World → Prop} {w0 : World} (hgd : o.guard = none) (s x : Operand)
    (ho : o.op = .call { callee := .builtin .append, args := #[s, x], argTypes := #[32, 32] })
    (base : Nat) (v : Value) (l : List Int) (y : Int) (hs : a.eval s = v) (hown : Own w0 base v l)
    (hx : a.eval x = .slice (some ⟨w0.heap.size, 0, none⟩) 1 1) (hlen : l.length ≤ 1000000) (hbase : base ≤ w0.heap.size)
    (h : ∀ v' w', Own w' base v' (l ++ [y]) → Below base w0 w' → w0.heap.size < w'.heap.size →
      (∀ base1 u m, Own w0 base1 u m → Apart u v → Own w' base1 u m ∧ Apart u v' ∧ Apart v' u) → wpList Try.prog ops Q rest (a.put o.dst v') w') :
    wpList Try.prog ops Q (o :: rest) a (w0.alloc (.cells #[.int .i64 y] 3)) := by
  obtain ⟨i0, hi, hz0, hz1, hz2⟩ := info_parts intInfo
  refine wpList_append_own_at _ hgd s x 32 ho base 3 i0 (.int .i64 0) 1 8 Try.underlying32 hi hz0 hz1 hz2 rfl (by decide) v l.length (l.map (Value.int .i64)) hs (World.ownsRow.alloc hown _)
    ⟨w0.heap.size, 0, none⟩ 1 1 [.int .i64 y] hx rfl (cell_one_new _ _ _) ?_ ?_ ?_ ?_ ?_
  · intro u hu; simp at hu; subst hu; rfl
  · unfold maxLen; omega
  · omega
  · simp; omega
  · intro v' w' h1 h2 _ hat
    have hsz := h2.size
    have hsz0 : (w0.alloc (.cells #[.int .i64 y] 3)).heap.size = w0.heap.size + 1 := by simp
    refine h v' w' ?_ ?_ ?_ ?_
    · unfold Own
      rw [List.length_append, List.map_append]; exact h1
    · refine Below.grown (row := v.ownBlock) ((Below.refl base w0).alloc hbase _) h2 (by simp; omega) ?_
      intro k hk
      exact (World.ownsRow.lt hown k hk).1
    · omega
    · intro base1 u m hu hap
      refine ⟨(hu.alloc _).kept h2 hap, ?_, ?_⟩
      · rcases hap with hap | hap
        · exact .inl hap
        · rcases hat with hat | hat
          · exact .inr (by rw [hat]; exact hap)
          · refine .inr fun he => ?_
            have := hu.blockLt _ (he.trans hat)
            omega
      · by_cases hv : v'.ownBlock = none
        · exact .inl hv
        · refine .inr fun he => ?_
          rcases hat with hat | hat
          · rcases hap with hap | hap
            · exact hv (by rw [he, hap])
            · exact hap (by rw [← he, hat])
          · have := hu.blockLt _ (he.symm.trans hat)
            omega
end Go.Proofs.Ytooghdnlaonkaaa
