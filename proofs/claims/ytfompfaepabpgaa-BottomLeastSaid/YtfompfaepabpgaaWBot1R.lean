/- The walk of BottomLeast, at what comes in. -/
import Derived.Test.YtfompfaepabpgaaWBot1
import Derived.Test.YtfompfaepabpgaaSrtNm
namespace Go.Proofs.Ytfompfaepabpgaa
open Go.RowKit

theorem bottomLeast_row (most : Int) (a : Option Addr) (n cap : Nat) (l : List ByteArray) (j : Int) (w : World) (hrow : IsNames w a n cap l) (sz : n * 16 ≤ 140737488351232) :
    Calls Try.prog 7 #[.int .i64 most, .slice a n cap, .int .i64 j] w fun e w' => e = .returned (.bool true) ∧ Below w.heap.size w w' := by
  suffices h : Calls Try.prog 7 #[.int .i64 most, .slice a n cap, .int .i64 j] w (RetB true w) from h.mono fun e w' ⟨h1, h2⟩ => ⟨h1, h2.bel⟩
  by_cases hm : most < 1 ∨ 30 < most
  · exact bottomLeast_no sortsNames most a n cap j w fun w' _ => botOfNo most n a cap w' hm
  · obtain ⟨k, rfl, k1, k2⟩ : ∃ k : Nat, most = k ∧ 1 ≤ k ∧ k ≤ 30 := ⟨most.toNat, by omega, by omega, by omega⟩
    by_cases hz : ∀ x ∈ l, x.size ≤ 12
    · by_cases h0 : n = 0
      · subst h0
        exact bottomLeast_zero sortsNames k a cap j w hrow.hnil k1 k2
      · exact bottomLeast_yes sortsNames k l n a cap j w hrow.hsa hrow.hlen hrow.hnil (by omega) k1 k2 hz (by omega)
    · refine bottomLeast_no sortsNames k a n cap j w fun w' b => (botOf sortsNames k l n a cap w' (hrow.hsa.keep b) hrow.hlen hrow.hnil (by omega) k1 k2).mono fun e w'' h => ?_
      rcases h with ⟨h, -⟩ | ⟨-, h⟩
      · exact absurd h hz
      · exact h
end Go.Proofs.Ytfompfaepabpgaa
