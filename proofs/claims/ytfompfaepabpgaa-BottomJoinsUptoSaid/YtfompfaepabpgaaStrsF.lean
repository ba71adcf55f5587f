/- What the frame of a law tells of a slice of strings that came in. -/
import Derived.Test.YtfompfaepabpgaaStrus
import Derived.Test.YtfompfaepabpgaaSlEqS
import Derived.Deep.Strs
namespace Go.Proofs.Ytfompfaepabpgaa
open Go.RowKit Go.ChangeShapes Go.WideShapes Go.Deep

/-- names that came in -/
structure IsNames (w : World) (a : Option Addr) (len cap : Nat) (l : List ByteArray) : Prop where
  hlen : l.length = len
  hcap : len ≤ cap
  hmax : cap ≤ maxLen
  hnil : a = none → len = 0 ∧ cap = 0
  hsz : ∀ s ∈ l, s.size ≤ maxLen
  hsa : Sa w a (strV l)
theorem flat_strV : ∀ l : List {s : ByteArray // s.size ≤ maxLen}, (l.flatMap fun s => [Value.string s.1]) = strV (l.map (·.1))
  | [] => rfl
  | x :: l => by rw [List.flatMap_cons, flat_strV l]; rfl
theorem isNames_open {H : Type} {enc : TypeId × Value → H} {P : Program} {w : World} {base : Nat} {spare : Nat → Bool} {held : Bool} {t e : TypeId} {fuel : Nat} {x : DataW H × List MemPlace} {a : Option Addr} {len cap : Nat}
    (ht : P.underlying t = some (.slice e)) (he : P.underlying e = some .string) (hc : P.cellsOf e = 1) (h : DataW.trod enc P w base spare held fuel t [.slice a len cap] = some x) : ∃ l, IsNames w a len cap l := by
  rcases open_strs ht he hc h with ⟨h0, _⟩ | ⟨ad, n, c, m, Sx, hcs, _, hl, hm, hmm, _, hi⟩
  · simp only [List.cons.injEq, Value.slice.injEq, and_true] at h0
    obtain ⟨rfl, rfl, rfl⟩ := h0
    exact ⟨[], rfl, Nat.le_refl _, Nat.zero_le _, (fun _ => ⟨rfl, rfl⟩), (fun s hs => by cases hs), Sa.nil _ _⟩
  · simp only [List.cons.injEq, Value.slice.injEq, and_true] at hcs
    obtain ⟨rfl, rfl, rfl⟩ := hcs
    have hlm : len ≤ m := by rw [hmm]; split <;> omega
    obtain ⟨l, e, _, hs⟩ := sa_structs (α := {s : ByteArray // s.size ≤ maxLen}) (fun s => [.string s.1]) 1 (fun _ => rfl) (by decide) ⟨⟨#[]⟩, by decide⟩ (w := w) (a := ad) (len := len) (fun i hil => by
      obtain ⟨h1, h2⟩ := hi i (by omega)
      refine ⟨⟨Sx i, h2⟩, fun j hj => ?_⟩
      obtain rfl : j = 0 := by omega
      rw [Nat.mul_one, Nat.add_zero, h1]; rfl)
    refine ⟨l.map (·.1), by rw [List.length_map]; exact e, hl, hm, (fun h => by cases h), (fun s hs => ?_), ?_⟩
    · obtain ⟨y, _, rfl⟩ := List.mem_map.1 hs
      exact y.2
    · rw [← flat_strV]; exact hs
end Go.Proofs.Ytfompfaepabpgaa
