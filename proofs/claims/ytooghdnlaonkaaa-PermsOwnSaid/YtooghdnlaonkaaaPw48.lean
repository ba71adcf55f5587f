/- Several of my texts in one: Sized. -/
import Derived.Test.YtooghdnlaonkaaaRows
import Derived.Test.YtooghdnlaonkaaaPw01
import Derived.SizedLaws
import Derived.ChangeArms
import Derived.ProofKit
import Derived.OpenShut
import Derived.Lib.SmallJoins
/- How long a slice may be that came in: the form's reach. -/
namespace Go.Proofs.Ytooghdnlaonkaaa
open Go.ChangeShapes Go.WideShapes Go.ChangeAt Go.RowKit Go.Joins
section
variable {H : Type} {enc : TypeId × Value → H} {P : Program} {ts : List TypeId} {ds : List (DataW H)} {W : World} {base : Nat} {sp : Nat → Bool} {held : Bool}
theorem sized_slc (h : (DataW.weightsEach P ts ds).all (· ≤ reachBytes) = true) (j : Nat) {t e : TypeId} {d : DataW H} {p : List MemPlace} {a : Option Addr} {len cap : Nat} {fuel : Nat} (ht : ts[j]? = some t) (hd : ds[j]? = some d) (hu : P.underlying t = some (.slice e))
    (hf : DataW.trod enc P W base sp held fuel t [.slice a len cap] = some (d, p)) : len * P.bytesOf e ≤ 140737488351232 := by
  rcases DataW.trod_slice hu hf with ⟨hc, _⟩ | ⟨x, l, c, elems, rest, n, _, hc, hx, _, _, _, hl, _⟩
  · simp only [List.cons.injEq, Value.slice.injEq, and_true] at hc
    rw [hc.2.1]; omega
  · simp only [List.cons.injEq, Value.slice.injEq, and_true] at hc
    obtain ⟨-, rfl, -⟩ := hc
    simp only [Prod.mk.injEq] at hx
    obtain ⟨rfl, -⟩ := hx
    have := sized_slice h ht hd hu
    rw [List.length_map, List.length_map, hl] at this
    have h2 : len * P.bytesOf e ≤ (len + rest.length) * P.bytesOf e := Nat.mul_le_mul_right _ (by omega)
    have h3 : reachBytes = 140737488351232 := by decide
    omega
theorem sized_sl (h : (DataW.weightsEach P ts ds).all (· ≤ reachBytes) = true) (j : Nat) {t e : TypeId} {d : DataW H} {p : List MemPlace} {a : Option Addr} {len cap : Nat} (ht : ts[j]? = some t) (hd : ds[j]? = some d) (hu : P.underlying t = some (.slice e))
    (hf : DataW.Trod enc P W base sp held t (.slice a len cap) d p) : len * P.bytesOf e ≤ 140737488351232 := by
  obtain ⟨fuel, hf⟩ := hf
  exact sized_slc h j ht hd hu (by simpa [Value.cells] using hf)
/-- the parts of a struct of two -/
theorem sized_two (h : (DataW.weightsEach P ts ds).all (· ≤ reachBytes) = true) (j : Nat) {t : TypeId} {f0 f1 : Field} {d0 d1 : DataW H} (ht : ts[j]? = some t) (hd : ds[j]? = some (.agg [d0, d1])) (hs : P.underlying t = some (.struct #[f0, f1])) :
    (DataW.weightsEach P [f0.type, f1.type] [d0, d1]).all (· ≤ reachBytes) = true := by
  refine List.all_eq_true.2 fun n hn => List.all_eq_true.1 h n (DataW.weights_mem_each ht hd n ?_)
  simpa [DataW.weights, hs] using hn
end
end Go.Proofs.Ytooghdnlaonkaaa
