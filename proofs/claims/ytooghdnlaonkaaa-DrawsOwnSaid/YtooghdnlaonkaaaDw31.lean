/- Several of my texts in one: StrsF, Sized. -/
import Derived.Test.YtooghdnlaonkaaaDw22
import Derived.Test.YtooghdnlaonkaaaDw17
import Derived.Deep.Strs
import Derived.Test.YtooghdnlaonkaaaRows
import Derived.Test.YtooghdnlaonkaaaDw01
import Derived.SizedLaws
import Derived.ChangeArms
import Derived.ProofKit
import Derived.OpenShut
import Derived.Lib.SmallJoins
/- What the frame of a law tells of a slice of strings that came in. -/
namespace Go.Proofs.Ytooghdnlaonkaaa
open Go.RowKit Go.ChangeShapes Go.WideShapes Go.Deep

/-- names that came in -/
structure IsNames (w : World) (a : Option Addr) (len cap : Nat) (l : List ByteArray) : Prop where
  hlen : l.length = len
  hcap : len ≤ cap
  hmax : cap ≤ maxLen
  hnil : a = none → len = 0 ∧ cap = 0
  hsz : ∀ s ∈ l, s.size ≤ maxLen
  hsa : Sa w a (strV l)
theorem flat_strV : ∀ l : List {s : ByteArray // s.size ≤ maxLen}, (l.flatMap fun s => [Value.string s.1]) = strV (l.map (·.1))
  | [] => rfl
  | x :: l => by rw [List.flatMap_cons, flat_strV l]; rfl
theorem isNames_open {H : Type} {enc : TypeId × Value → H} {P : Program} {w : World} {base : Nat} {spare : Nat → Bool} {held : Bool} {t e : TypeId} {fuel : Nat} {x : DataW H × List MemPlace} {a : Option Addr} {len cap : Nat}
    (ht : P.underlying t = some (.slice e)) (he : P.underlying e = some .string) (hc : P.cellsOf e = 1) (h : DataW.trod enc P w base spare held fuel t [.slice a len cap] = some x) : ∃ l, IsNames w a len cap l := by
  rcases open_strs ht he hc h with ⟨h0, _⟩ | ⟨ad, n, c, m, Sx, hcs, _, hl, hm, hmm, _, hi⟩
  · simp only [List.cons.injEq, Value.slice.injEq, and_true] at h0
    obtain ⟨rfl, rfl, rfl⟩ := h0
    exact ⟨[], rfl, Nat.le_refl _, Nat.zero_le _, (fun _ => ⟨rfl, rfl⟩), (fun s hs => by cases hs), Sa.nil _ _⟩
  · simp only [List.cons.injEq, Value.slice.injEq, and_true] at hcs
    obtain ⟨rfl, rfl, rfl⟩ := hcs
    have hlm : len ≤ m := by rw [hmm]; split <;> omega
    obtain ⟨l, e, _, hs⟩ := sa_structs (α := {s : ByteArray // s.size ≤ maxLen}) (fun s => [.string s.1]) 1 (fun _ => rfl) (by decide) ⟨⟨#[]⟩, by decide⟩ (w := w) (a := ad) (len := len) (fun i hil => by
      obtain ⟨h1, h2⟩ := hi i (by omega)
      refine ⟨⟨Sx i, h2⟩, fun j hj => ?_⟩
      obtain rfl : j = 0 := by omega
      rw [Nat.mul_one, Nat.add_zero, h1]; rfl)
    refine ⟨l.map (·.1), by rw [List.length_map]; exact e, hl, hm, (fun h => by cases h), (fun s hs => ?_), ?_⟩
    · obtain ⟨y, _, rfl⟩ := List.mem_map.1 hs
      exact y.2
    · rw [← flat_strV]; exact hs
end Go.Proofs.Ytooghdnlaonkaaa
/- How long a slice may be that came in: the form's reach. -/
namespace Go.Proofs.Ytooghdnlaonkaaa
open Go.ChangeShapes Go.WideShapes Go.ChangeAt Go.RowKit Go.Joins
section
variable {H : Type} {enc : TypeId × Value → H} {P : Program} {ts : List TypeId} {ds : List (DataW H)} {W : World} {base : Nat} {sp : Nat → Bool} {held : Bool}
theorem sized_slc (h : (DataW.weightsEach P ts ds).all (· ≤ reachBytes) = true) (j : Nat) {t e : TypeId} {d : DataW H} {p : List MemPlace} {a : Option Addr} {len cap : Nat} {fuel : Nat} (ht : ts[j]? = some t) (hd : ds[j]? = some d) (hu : P.underlying t = some (.slice e))
    (hf : DataW.trod enc P W base sp held fuel t [.slice a len cap] = some (d, p)) : len * P.bytesOf e ≤ 140737488351232 := by
  rcases DataW.trod_slice hu hf with ⟨hc, _⟩ | ⟨x, l, c, elems, rest, n, _, hc, hx, _, _, _, hl, _⟩
  · simp only [List.cons.injEq, Value.slice.injEq, and_true] at hc
    rw [hc.2.1]; omega
  · simp only [List.cons.injEq, Value.slice.injEq, and_true] at hc
    obtain ⟨-, rfl, -⟩ := hc
    simp only [Prod.mk.injEq] at hx
    obtain ⟨rfl, -⟩ := hx
    have := sized_slice h ht hd hu
    rw [List.length_map, List.length_map, hl] at this
    have h2 : len * P.bytesOf e ≤ (len + rest.length) * P.bytesOf e := Nat.mul_le_mul_right _ (by omega)
    have h3 : reachBytes = 140737488351232 := by decide
    omega
theorem sized_sl (h : (DataW.weightsEach P ts ds).all (· ≤ reachBytes) = true) (j : Nat) {t e : TypeId} {d : DataW H} {p : List MemPlace} {a : Option Addr} {len cap : Nat} (ht : ts[j]? = some t) (hd : ds[j]? = some d) (hu : P.underlying t = some (.slice e))
    (hf : DataW.Trod enc P W base sp held t (.slice a len cap) d p) : len * P.bytesOf e ≤ 140737488351232 := by
  obtain ⟨fuel, hf⟩ := hf
  exact sized_slc h j ht hd hu (by simpa [Value.cells] using hf)
/-- the parts of a struct of two -/
theorem sized_two (h : (DataW.weightsEach P ts ds).all (· ≤ reachBytes) = true) (j : Nat) {t : TypeId} {f0 f1 : Field} {d0 d1 : DataW H} (ht : ts[j]? = some t) (hd : ds[j]? = some (.agg [d0, d1])) (hs : P.underlying t = some (.struct #[f0, f1])) :
    (DataW.weightsEach P [f0.type, f1.type] [d0, d1]).all (· ≤ reachBytes) = true := by
  refine List.all_eq_true.2 fun n hn => List.all_eq_true.1 h n (DataW.weights_mem_each ht hd n ?_)
  simpa [DataW.weights, hs] using hn
end
end Go.Proofs.Ytooghdnlaonkaaa
