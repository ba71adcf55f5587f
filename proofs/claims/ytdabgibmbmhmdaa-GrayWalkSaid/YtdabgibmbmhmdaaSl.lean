/- Slices of ints that are only read, whatever they lie in. -/
import Derived.Test.YtdabgibmbmhmdaaOwn
namespace Go.Proofs.Ytdabgibmbmhmdaa
open Go.RowKit

/-- v is a slice that reads as the numbers l -/
def Sl (w : World) (v : Value) (l : List Int) : Prop :=
  (l = [] ∧ ∃ a cap, v = .slice a 0 cap) ∨
  (0 < l.length ∧ ∃ b off cap, v = .slice (some ⟨b, off, none⟩) l.length cap ∧ b < w.heap.size ∧ ∀ i, i < l.length → w.cell? ⟨b, off + i, none⟩ = some (.int .i64 (l.getD i 0)))
theorem Sl.keep {w w' : World} {v : Value} {l : List Int} (h : Sl w v l) (k : Below w.heap.size w w') : Sl w' v l := by
  rcases h with h | ⟨h0, b, off, cap, e, hb, hc⟩
  · exact .inl h
  · refine .inr ⟨h0, b, off, cap, e, Nat.lt_of_lt_of_le hb k.size, fun i hi => ?_⟩
    rw [← hc i hi]
    exact k.cell (p := ⟨b, off + i, none⟩) hb
theorem Sl.alloc {w : World} {v : Value} {l : List Int} (h : Sl w v l) (o : Obj) : Sl (w.alloc o) v l := h.keep (kin_alloc (Below.refl _ _) o)
theorem Own.sl {w : World} {base : Nat} {v : Value} {l : List Int} (h : Own w base v l) : Sl w v l := by
  rcases h.shape with ⟨h1, h2⟩ | ⟨g, cap, e, _, hg, hc, _⟩
  · exact .inl ⟨h2, none, 0, h1⟩
  · cases l with
    | nil => exact .inl ⟨rfl, some ⟨g, 0, none⟩, cap, e⟩
    | cons a l => exact .inr ⟨by simp, g, 0, cap, e, hg, fun i hi => by rw [Nat.zero_add]; exact hc i hi⟩
/-- what the frame of a law tells of a slice of integers that came in -/
def IsRow (k : IntKind) (w : World) (a : Option Addr) (len cap : Nat) (zs : List Int) : Prop :=
  (a = none ∧ len = 0 ∧ cap = 0 ∧ zs = []) ∨
  ∃ x, a = some x ∧ len ≤ cap ∧ cap ≤ maxLen ∧ zs.length = cap ∧ (∀ i, i < zs.length → w.cell? (x.add i) = some (.int k (zs.getD i 0))) ∧ ∀ n ∈ zs, (Lit.int k n).wf = true
theorem IsRow.sl {w : World} {a : Option Addr} {len cap : Nat} {zs : List Int} (h : IsRow .i64 w a len cap zs) : Sl w (.slice a len cap) (zs.take len) ∧ (zs.take len).length = len ∧ len ≤ maxLen := by
  rcases h with ⟨rfl, rfl, rfl, rfl⟩ | ⟨x, rfl, h1, h2, h3, h4, h5⟩
  · exact ⟨.inl ⟨rfl, none, 0, rfl⟩, rfl, by omega⟩
  · have hl : (zs.take len).length = len := by rw [List.length_take]; omega
    refine ⟨?_, hl, by omega⟩
    by_cases h0 : len = 0
    · subst h0; exact .inl ⟨by simp, some x, cap, rfl⟩
    · have hz := h4 0 (by omega)
      obtain ⟨b, off, spot⟩ := x
      have hs : spot = none := by
        cases spot with
        | none => rfl
        | some s =>
          unfold World.cell? at hz
          simp only [Addr.add] at hz
          split at hz
          · simp at hz
          · cases hz
      subst hs
      refine .inr ⟨by omega, b, off, cap, by rw [hl], ?_, fun i hi => ?_⟩
      · unfold World.cell? at hz
        simp only [Addr.add] at hz
        split at hz
        · next hq => exact (Array.getElem?_eq_some_iff.1 hq).1
        · cases hz
      · have := h4 i (by omega)
        rw [show ((⟨b, off, none⟩ : Addr).add i) = ⟨b, off + i, none⟩ from by simp [Addr.add]] at this
        rw [this]
        congr 2
        rw [List.getD_eq_getElem?_getD, List.getD_eq_getElem?_getD, List.getElem?_take_of_lt (by omega)]
end Go.Proofs.Ytdabgibmbmhmdaa
