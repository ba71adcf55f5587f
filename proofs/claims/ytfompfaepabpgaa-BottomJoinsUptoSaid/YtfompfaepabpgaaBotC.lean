/- What Check lets pass, in plain words. -/
import Derived.Test.YtfompfaepabpgaaBot2
import Derived.Test.YtfompfaepabpgaaBotO
import Derived.Test.YtfompfaepabpgaaBotP
namespace Go.Proofs.Ytfompfaepabpgaa
open Go.RowKit

theorem prevBad_no {q x : ByteArray} : prevBad (some q) x = false ↔ ltS q x := by
  unfold prevBad
  rw [decide_eq_false_iff_not, ← ahS_lt]
  omega
theorem chkL_ok : ∀ (l : List ByteArray) (p : Option ByteArray), chkL p l = 0 → (∀ x ∈ l, x.size ≤ 12) ∧ l.Pairwise ltS ∧ ∀ q, p = some q → ∀ x ∈ l, ltS q x
  | [], p, _ => ⟨(fun x hx => by cases hx), .nil, (fun q _ x hx => by cases hx)⟩
  | x :: r, p, h => by
    rw [chkL] at h
    split at h
    · cases h
    · split at h
      · cases h
      · rename_i h1 h2
        obtain ⟨i1, i2, i3⟩ := chkL_ok r (some x) h
        have hx := i3 x rfl
        refine ⟨fun y hy => ?_, List.pairwise_cons.2 ⟨hx, i2⟩, fun q hq y hy => ?_⟩
        · rcases List.mem_cons.1 hy with rfl | hy
          · omega
          · exact i1 y hy
        · subst hq
          have hqx : ltS q x := prevBad_no.1 (by cases hb : prevBad (some q) x with | false => rfl | true => exact absurd hb h2)
          rcases List.mem_cons.1 hy with rfl | hy
          · exact hqx
          · exact ltS_tr _ _ _ hqx (hx y hy)
theorem chkL_of : ∀ (l : List ByteArray) (p : Option ByteArray), (∀ x ∈ l, x.size ≤ 12) → l.Pairwise ltS → (∀ q, p = some q → ∀ x ∈ l, ltS q x) → chkL p l = 0
  | [], p, _, _, _ => rfl
  | x :: r, p, h1, h2, h3 => by
    have hp := List.pairwise_cons.1 h2
    have hb : prevBad p x = false := by
      cases p with
      | none => rfl
      | some q => exact prevBad_no.2 (h3 q rfl x List.mem_cons_self)
    have := h1 x List.mem_cons_self
    rw [chkL, if_neg (by omega), if_neg (by rw [hb]; simp)]
    exact chkL_of r (some x) (fun y hy => h1 y (List.mem_cons_of_mem _ hy)) hp.2 (fun q hq y hy => by cases hq; exact hp.1 y hy)
/-- a sample that may be -/
structure SmOk (most : Int) (l : List ByteArray) : Prop where
  m1 : 1 ≤ most
  m2 : most ≤ 30
  len : (l.length : Int) ≤ most
  sz : ∀ x ∈ l, x.size ≤ 12
  ord : l.Pairwise ltS
theorem chkB_ok {most : Int} {l : List ByteArray} : chkB most l = 0 ↔ SmOk most l := by
  unfold chkB
  constructor
  · intro h
    split at h
    · cases h
    · split at h
      · cases h
      · rename_i h1 h2
        obtain ⟨i1, i2, -⟩ := chkL_ok l none h
        exact ⟨by omega, by omega, by omega, i1, i2⟩
  · rintro ⟨h1, h2, h3, h4, h5⟩
    rw [if_neg (by omega), if_neg (by omega)]
    exact chkL_of l none h4 h5 (fun q hq => nomatch hq)
end Go.Proofs.Ytfompfaepabpgaa
