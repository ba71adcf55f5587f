/- Contracts of ratio.Div and ratio.Less; ratios that fit. -/
import Derived.Test.YtdabgibmbmhmdaaRat2
import Derived.Test.YtdabgibmbmhmdaaMathRat
namespace Go.Proofs.Ytdabgibmbmhmdaa
open Go.RowKit

/-- what low answers where it fits -/
theorem low_fits {p q X Y : Int} {w : World} {e : Ending} {w' : World} (h : LowSaid p q w e w') (hr : RedIs p q X Y) (hx : Rat1 X Y) :
    e = .returned (.tuple #[.agg #[.int .i64 X, .int .i64 Y], .int .i64 0]) ∧ Below w.heap.size w w' := by
  obtain ⟨P, Q, er, he, hl, hb⟩ := h
  refine ⟨?_, hb⟩
  rcases hl with ⟨h1, _, _, h2, h3⟩ | ⟨_, _, _, h⟩
  · rw [he, h1, h2, h3, hr.1, hr.2]
  · exfalso; apply h; rw [hr.1, hr.2]; exact ⟨hx.2.1, hx.2.2.1, hx.2.2.2.1⟩
theorem add_fits (P Q R S X Y : Int) (w : World) (h : Rat1 P Q) (h2 : Rat1 R S) (hr : RedIs (P * S + R * Q) (Q * S) X Y) (hx : Rat1 X Y) :
    Calls Try.prog 77 #[.agg #[.int .i64 P, .int .i64 Q], .agg #[.int .i64 R, .int .i64 S]] w fun e w' => e = .returned (.tuple #[.agg #[.int .i64 X, .int .i64 Y], .int .i64 0]) ∧ Below w.heap.size w w' :=
  (add_any P Q R S w h h2).mono fun _ _ hl => low_fits hl hr hx

theorem make_fits (p q X Y : Int) (w : World) (hp : -1000000000 ≤ p ∧ p ≤ 1000000000) (hq : 0 < q ∧ q ≤ 1000000000) (hr : RedIs p q X Y) :
    Calls Try.prog 70 #[.int .i64 p, .int .i64 q] w fun e w' => e = .returned (.tuple #[.agg #[.int .i64 X, .int .i64 Y], .int .i64 0]) ∧ Below w.heap.size w w' := by
  have := make_pos p q w hp hq
  rw [hr.1, hr.2] at this
  exact this
/-- block B is a struct of two ints -/
def St (w : World) (B T : Nat) (X Y : Int) : Prop := w.heap[B]? = some (.cells #[.int .i64 X, .int .i64 Y] T)
theorem St.lt {w : World} {B T : Nat} {X Y : Int} (h : St w B T X Y) : B < w.heap.size := by
  unfold St at h; exact (Array.getElem?_eq_some_iff.1 h).1
theorem St.new (w : World) (T : Nat) (X Y : Int) : St (w.alloc (.cells #[.int .i64 X, .int .i64 Y] T)) w.heap.size T X Y := by
  show (w.heap.push _)[w.heap.size]? = _
  exact Array.getElem?_push_size
theorem St.keep {w w' : World} {B T : Nat} {X Y : Int} (h : St w B T X Y) (b : Below w.heap.size w w') : St w' B T X Y := by
  have := h.lt; unfold St at *; rw [b.block B this, h]
theorem St.alloc {w : World} {B T : Nat} {X Y : Int} (h : St w B T X Y) (o : Obj) : St (w.alloc o) B T X Y := h.keep (kin_alloc (Below.refl _ _) o)
theorem St.c0 {w : World} {B T : Nat} {X Y : Int} (h : St w B T X Y) : w.cell? ⟨B, 0, none⟩ = some (.int .i64 X) := by
  unfold St at h; unfold World.cell?
  rw [show ((⟨B, 0, none⟩ : Addr).block) = B from rfl, h]; rfl
theorem St.c1 {w : World} {B T : Nat} {X Y : Int} (h : St w B T X Y) : w.cell? ⟨B, 1, none⟩ = some (.int .i64 Y) := by
  unfold St at h; unfold World.cell?
  rw [show ((⟨B, 1, none⟩ : Addr).block) = B from rfl, h]; rfl
end Go.Proofs.Ytdabgibmbmhmdaa
