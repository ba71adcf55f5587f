/- How long a slice may be that came in, where all that came in is of small bulk. -/
import Derived.Test.YtfompfaepabpgaaRows
import Derived.Test.YtfompfaepabpgaaBase
import Derived.SizedLaws
import Derived.ChangeArms
import Derived.ProofKit
import Derived.OpenShut
import Derived.Lib.SmallJoins
namespace Go.Proofs.Ytfompfaepabpgaa
open Go.ChangeShapes Go.WideShapes Go.ChangeAt Go.RowKit Go.Joins

theorem bulk_one {H : Type} (d : DataW H) : 1 ≤ Rows.uptoBulk d := by
  cases d with
  | lit l => cases l <;> simp [Rows.uptoBulk]
  | nil => simp [Rows.uptoBulk]
  | ptr d => simp [Rows.uptoBulk]
  | slice elems spare => simp [Rows.uptoBulk]
  | agg parts => simp [Rows.uptoBulk]
  | iface t d => simp [Rows.uptoBulk]
  | map entries => simp [Rows.uptoBulk]
  | held h => simp [Rows.uptoBulk]
theorem bulk_part {H : Type} {d : DataW H} : ∀ {l : List (DataW H)}, d ∈ l → Rows.uptoBulk d ≤ Rows.uptoBulkAll l
  | [], h => by cases h
  | x :: r, h => by
    rw [Rows.uptoBulkAll]
    rcases List.mem_cons.1 h with rfl | h
    · omega
    · have := bulk_part h; omega
theorem bulk_len {H : Type} : ∀ l : List (DataW H), l.length ≤ Rows.uptoBulkAll l
  | [] => by simp
  | x :: r => by have := bulk_one x; have := bulk_len r; rw [Rows.uptoBulkAll, List.length_cons]; omega
section
variable {H : Type} {enc : TypeId × Value → H} {P : Program} {W : World} {base : Nat} {sp : Nat → Bool} {held : Bool}
theorem upto_len {ds : List (DataW H)} (hk : Rows.uptoSmall H ds = true) {t e : TypeId} {d : DataW H} {p : List MemPlace} {a : Option Addr} {len cap : Nat} (hd : d ∈ ds) (hu : P.underlying t = some (.slice e))
    (hf : DataW.Trod enc P W base sp held t (.slice a len cap) d p) : len ≤ 1048576 := by
  obtain ⟨fuel, hf⟩ := hf
  have hall : Rows.uptoBulkAll ds ≤ 1048576 := of_decide_eq_true hk
  have hpart := bulk_part hd
  rcases DataW.trod_slice hu (show DataW.trod enc P W base sp held fuel t [.slice a len cap] = some (d, p) by simpa [Value.cells] using hf) with ⟨hc, _⟩ | ⟨x, l, c, elems, rest, n, _, hc, hx, _, _, _, hl, _⟩
  · simp only [List.cons.injEq, Value.slice.injEq, and_true] at hc
    omega
  · simp only [List.cons.injEq, Value.slice.injEq, and_true] at hc
    obtain ⟨-, rfl, -⟩ := hc
    simp only [Prod.mk.injEq] at hx
    obtain ⟨rfl, -⟩ := hx
    rw [Rows.uptoBulk] at hpart
    have h1 := bulk_len (elems.map (·.1))
    rw [List.length_map, hl] at h1
    omega
end
end Go.Proofs.Ytfompfaepabpgaa
