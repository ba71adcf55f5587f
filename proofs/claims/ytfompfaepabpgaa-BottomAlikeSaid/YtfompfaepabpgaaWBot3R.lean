/- The walk of BottomAlike, at what comes in. -/
import Derived.Test.YtfompfaepabpgaaWBot3
namespace Go.Proofs.Ytfompfaepabpgaa
open Go.RowKit

theorem bottomAlike_row (most : Int) (a : Option Addr) (n1 ca : Nat) (x : List ByteArray) (b : Option Addr) (n2 cb : Nat) (y : List ByteArray) (w : World)
    (hx : IsNames w a n1 ca x) (hy : IsNames w b n2 cb y) (s1 : n1 * 16 ≤ 140737488351232) (s2 : n2 * 16 ≤ 140737488351232) :
    Calls Try.prog 9 #[.int .i64 most, .slice a n1 ca, .slice b n2 cb] w fun e w' => e = .returned (.bool true) ∧ Below w.heap.size w w' := by
  suffices h : Calls Try.prog 9 #[.int .i64 most, .slice a n1 ca, .slice b n2 cb] w (RetB true w) from h.mono fun e w' ⟨h1, h2⟩ => ⟨h1, h2.bel⟩
  by_cases h : OfBad most x ∨ OfBad most y
  · exact bottomAlike_no sortsNames most x y n1 n2 a b ca cb w hx hy s1 s2 h
  · have h1 : ¬ OfBad most x := fun hb => h (.inl hb)
    have h2 : ¬ OfBad most y := fun hb => h (.inr hb)
    obtain ⟨k, rfl, k1, k2⟩ : ∃ k : Nat, most = k ∧ 1 ≤ k ∧ k ≤ 30 := by
      have e1 : ¬ most < 1 := fun hb => h1 (.inl hb)
      have e2 : ¬ 30 < most := fun hb => h1 (.inr (.inl hb))
      exact ⟨most.toNat, by omega, by omega, by omega⟩
    have or : ∀ {x : List ByteArray}, ¬ OfBad k x → ∀ u ∈ x, u.size ≤ 12 := fun h u hu => Decidable.byContradiction fun h2 => h (.inr (.inr ⟨u, hu, by omega⟩))
    exact bottomAlike_yes sortsNames k x y n1 n2 a b ca cb w hx hy s1 s2 k1 k2 (or h1) (or h2)
end Go.Proofs.Ytfompfaepabpgaa
