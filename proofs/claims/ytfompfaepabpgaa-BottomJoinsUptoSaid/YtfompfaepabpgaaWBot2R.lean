/- The walk of BottomJoins, at what comes in. -/
import Derived.Test.YtfompfaepabpgaaWBot2
import Derived.Test.YtfompfaepabpgaaSrtNm
namespace Go.Proofs.Ytfompfaepabpgaa
open Go.RowKit

theorem ofBad_or {k : Nat} {x : List ByteArray} (h : ¬ OfBad k x) : ∀ u ∈ x, u.size ≤ 12 := fun u hu => Decidable.byContradiction fun h2 => h (.inr (.inr ⟨u, hu, by omega⟩))
theorem bottomJoins_row (most : Int) (a : Option Addr) (n1 ca : Nat) (x : List ByteArray) (b : Option Addr) (n2 cb : Nat) (y : List ByteArray) (c : Option Addr) (n3 cc : Nat) (z : List ByteArray) (w : World)
    (hx : IsNames w a n1 ca x) (hy : IsNames w b n2 cb y) (hz : IsNames w c n3 cc z) (s1 : n1 ≤ 1048576) (s2 : n2 ≤ 1048576) (s3 : n3 ≤ 1048576) :
    Calls Try.prog 8 #[.int .i64 most, .slice a n1 ca, .slice b n2 cb, .slice c n3 cc] w fun e w' => e = .returned (.bool true) ∧ Below w.heap.size w w' := by
  suffices h : Calls Try.prog 8 #[.int .i64 most, .slice a n1 ca, .slice b n2 cb, .slice c n3 cc] w (RetB true w) from h.mono fun e w' ⟨h1, h2⟩ => ⟨h1, h2.bel⟩
  by_cases h : OfBad most x ∨ OfBad most y ∨ OfBad most z
  · exact bottomJoins_no sortsNames most x y z n1 n2 n3 a b c ca cb cc w hx hy hz s1 s2 s3 h
  · have h1 : ¬ OfBad most x := fun hb => h (.inl hb)
    have h2 : ¬ OfBad most y := fun hb => h (.inr (.inl hb))
    have h3 : ¬ OfBad most z := fun hb => h (.inr (.inr hb))
    obtain ⟨k, rfl, k1, k2⟩ : ∃ k : Nat, most = k ∧ 1 ≤ k ∧ k ≤ 30 := by
      have e1 : ¬ most < 1 := fun hb => h1 (.inl hb)
      have e2 : ¬ 30 < most := fun hb => h1 (.inr (.inl hb))
      exact ⟨most.toNat, by omega, by omega, by omega⟩
    exact bottomJoins_yes sortsNames k x y z n1 n2 n3 a b c ca cb cc w hx hy hz s1 s2 s3 k1 k2 (ofBad_or h1) (ofBad_or h2) (ofBad_or h3)
end Go.Proofs.Ytfompfaepabpgaa
