/- Several of my texts in one: OneS. -/
import Derived.Test.YtooghdnlaonkaaaPw05
/- One slice and an error, handed back. -/
namespace Go.Proofs.Ytooghdnlaonkaaa
open Go.RowKit

theorem bothR {a b c d : Int} (h1 : a = b) (h2 : c = d) : Ending.returned (.tuple #[.int .i64 a, .int .i64 c]) = .returned (.tuple #[.int .i64 b, .int .i64 d]) := by rw [h1, h2]
def OneSl (l : List Int) (n : Nat) (err : Int) (w : World) (e : Ending) (w' : World) : Prop :=
  ∃ ad cp, e = .returned (.tuple #[.slice ad n cp, .int .i64 err]) ∧ n ≤ cp ∧ Fr w w' [⟨3, .slice ad n cp, ints l⟩]
end Go.Proofs.Ytooghdnlaonkaaa
