/- An order and what undoes it: their tableaux. -/
import Derived.Test.YtefblcchmkmfpaaRmS
import Derived.Test.YtefblcchmkmfpaaVie
import Derived.Test.YtefblcchmkmfpaaGrp
namespace Go.Proofs.Ytefblcchmkmfpaa
open Go.RowKit

def plc (l : List Int) (t : Nat) : Option Nat := if t < l.length then some (nth l t).toNat else none
theorem plc_rsk {l : List Int} (h : ∀ i, i < l.length → 0 ≤ nth l i) : ∀ k, k ≤ l.length → rsk l k = SF (plc l) k
  | 0, _ => rfl
  | k + 1, hk => by
    have hp : plc l k = some (nth l k).toNat := by unfold plc; rw [if_pos (by omega)]
    have := h k (by omega)
    rw [SF_some hp, rsk, plc_rsk h k (by omega), show (((nth l k).toNat : Nat) : Int) = nth l k by omega]
theorem plc_opp {l : List Int} (h : IsP l) : Opp l.length (plc l) (plc (invL l)) := by
  have hl := invL_len l
  have key : ∀ t v, plc l t = some v → plc (invL l) v = some t := fun t v e => by
    unfold plc at e ⊢
    split at e
    · next ht =>
      have hv := Option.some.inj e
      obtain ⟨a1, a2⟩ := h.at t ht
      have a3 := invL_at h t ht
      rw [hv] at a1 a3
      rw [if_pos (by omega), a3]; simp
    · cases e
  refine ⟨fun t v => ⟨key t v, fun e => ?_⟩, fun t v e => ?_, fun t v e => ?_⟩
  · unfold plc at e
    split at e
    · next hv =>
      rw [hl] at hv
      obtain ⟨i, hi, e2⟩ := isP_get h v hv
      have a3 := invL_at h i hi
      rw [e2] at a3
      rw [a3] at e
      have : i = t := by have := Option.some.inj e; omega
      subst this
      unfold plc
      rw [if_pos hi, e2]
    · cases e
  · unfold plc at e
    split at e
    · assumption
    · cases e
  · unfold plc at e
    split at e
    · next ht =>
      have := h.at t ht
      have := Option.some.inj e
      omega
    · cases e
theorem rsk_inv {l : List Int} (h : IsP l) (n : Nat) (hn : l.length = n) : (rsk l n).1 = (rsk (invL l) n).2 ∧ (rsk l n).2 = (rsk (invL l) n).1 := by
  subst hn
  have h2 := inv_isP h
  rw [plc_rsk (fun i hi => (h.bd i hi).1) _ (Nat.le_refl _), plc_rsk (fun i hi => (h2.bd i hi).1) _ (by rw [invL_len]; exact Nat.le_refl _)]
  exact SF_opp _ (plc_opp h) rfl
theorem row_small {R : List Rw} {l : List Int} {k : Nat} (h : lsR R = (rsk l k).1 ∨ lsR R = (rsk l k).2) (hk : k ≤ 10) : ∀ p ∈ R, p.2.2.length ≤ 1000 := fun p hp => by
  have hb := rsk_bd l k
  have hm : p.2.2 ∈ lsR R := List.mem_map_of_mem (f := fun p : Rw => p.2.2) hp
  rcases h with h | h
  · rw [h] at hm; have := hb.2.2.1 _ hm; omega
  · rw [h] at hm; have := hb.2.2.2 _ hm; omega
end Go.Proofs.Ytefblcchmkmfpaa
