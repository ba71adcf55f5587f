/- Several of my texts in one: WDrawR. -/
import Derived.Test.YtooghdnlaonkaaaDw30
import Derived.Test.YtooghdnlaonkaaaDw31
/- The walk of DrawsOwn, at what comes in. -/
namespace Go.Proofs.Ytooghdnlaonkaaa
open Go.RowKit Go.Deep Go.WideShapes

theorem isNames_openV {H : Type} {enc : TypeId × Value → H} {P : Program} {w : World} {base : Nat} {spare : Nat → Bool} {held : Bool} {t e : TypeId} {fuel : Nat} {x : DataW H × List MemPlace} {v : Value}
    (ht : P.underlying t = some (.slice e)) (he : P.underlying e = some .string) (hc : P.cellsOf e = 1) (h : DataW.trod enc P w base spare held fuel t [v] = some x) : ∃ a len cap l, v = .slice a len cap ∧ IsNames w a len cap l := by
  have hv : ∃ a len cap, v = .slice a len cap := by
    rcases open_strs ht he hc h with ⟨h0, _⟩ | ⟨ad, n, c, m, Sx, hcs, _⟩
    · simp only [List.cons.injEq, and_true] at h0
      exact ⟨_, _, _, h0⟩
    · simp only [List.cons.injEq, and_true] at hcs
      exact ⟨_, _, _, hcs⟩
  obtain ⟨a, len, cap, rfl⟩ := hv
  obtain ⟨l, hl⟩ := isNames_open ht he hc h
  exact ⟨a, len, cap, l, rfl, hl⟩
theorem draws_row (a0 : Option Addr) (n0 c0 : Nat) (x0 : List Int) (a1 : Option Addr) (n1 c1 : Nat) (x1 : List Int) (k1 : Int) (a2 : Option Addr) (n2 c2 : Nat) (A : List ByteArray) (k2 : Int) (a3 : Option Addr) (n3 c3 : Nat) (B : List ByteArray)
    (a4 : Option Addr) (n4 c4 : Nat) (x4 : List Int) (a5 : Option Addr) (n5 c5 : Nat) (x5 : List Int) (w : World)
    (w0 : IsRow .u8 w a0 n0 c0 x0) (w1 : IsRow .i64 w a1 n1 c1 x1) (w2 : IsNames w a2 n2 c2 A) (w3 : IsNames w a3 n3 c3 B) (w4 : IsRow .i64 w a4 n4 c4 x4) (w5 : IsRow .i64 w a5 n5 c5 x5)
    (s0 : n0 * 1 ≤ 140737488351232) (s2 : n2 * 16 ≤ 140737488351232) (s3 : n3 * 16 ≤ 140737488351232) (s4 : n4 * 8 ≤ 140737488351232) :
    Calls Try.prog 5 #[.slice a0 n0 c0, .slice a1 n1 c1, .agg #[.int .i64 k1, .slice a2 n2 c2], .agg #[.int .i64 k2, .slice a3 n3 c3], .slice a4 n4 c4, .slice a5 n5 c5] w fun e w' => e = .returned (.bool true) ∧ Below w.heap.size w w' := by
  obtain ⟨h0, l0, m0, p0, d0, e0⟩ := w0.saK
  obtain ⟨h1, l1, m1, -, -, -⟩ := w1.saK
  obtain ⟨h4, l4, m4, -, -, -⟩ := w4.saK
  obtain ⟨h5, l5, m5, -, -, -⟩ := w5.saK
  obtain ⟨l2, -, -, e2, -, h2⟩ := w2
  obtain ⟨l3, -, -, e3, -, h3⟩ := w3
  refine draws_walk (x0.take n0) a0 n0 c0 (x1.take n1) a1 n1 c1 k1 A a2 n2 c2 k2 B a3 n3 c3 (x4.take n4) a4 n4 c4 (x5.take n5) a5 n5 c5 w h0 l0 (fun x hx => ?_) d0 (fun e => (e0 e).symm) (by omega) h1 l1 m1 h2 l2 e2 s2 h3 l3 e3 s3 h4 l4 s4 h5 l5
  have := p0 x hx
  simp [Lit.wf] at this
  exact this.1
end Go.Proofs.Ytooghdnlaonkaaa
