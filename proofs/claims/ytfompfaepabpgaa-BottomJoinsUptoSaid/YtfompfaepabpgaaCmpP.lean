/- Compact of a row in order: strictly in order, and it holds the same. -/
import Derived.Test.YtfompfaepabpgaaCmpS
namespace Go.Proofs.Ytfompfaepabpgaa
open Go.RowKit

section
variable {α : Type} [Inhabited α] [DecidableEq α] {lt : α → α → Prop}
theorem cuTo_in (tr : ∀ a b c, lt a b → lt b c → lt a c) (d : Array α) (hs : ∀ i j, i < j → j < d.size → lt d[i]! d[j]! ∨ d[i]! = d[j]!) : ∀ m, m ≤ d.size → (Lib.compactUpTo d m).Pairwise lt ∧ ∀ e, e ∈ Lib.compactUpTo d m ↔ ∃ j, j < m ∧ d[j]! = e
  | 0, _ => ⟨by simp [Lib.compactUpTo], fun e => by simp [Lib.compactUpTo]⟩
  | m + 1, h => by
    obtain ⟨i1, i2⟩ := cuTo_in tr d hs m (by omega)
    rw [Lib.compactUpTo_succ]
    by_cases hk : Lib.keeps d m = true
    · rw [if_pos hk]
      unfold Lib.keeps at hk
      have hk := of_decide_eq_true hk
      refine ⟨List.pairwise_append.2 ⟨i1, List.pairwise_singleton _ _, fun e he y hy => ?_⟩, fun e => ?_⟩
      · obtain ⟨j, hj, rfl⟩ := (i2 e).1 he
        have hy : y = d[m]! := by simpa using hy
        subst hy
        rcases hk with hk | hk
        · omega
        · have h1 : lt d[m - 1]! d[m]! := by
            rcases hs (m - 1) m (by omega) (by omega) with h | h
            · exact h
            · exact absurd h.symm hk
          rcases Nat.lt_or_ge j (m - 1) with h2 | h2
          · rcases hs j (m - 1) h2 (by omega) with h3 | h3
            · exact tr _ _ _ h3 h1
            · rw [h3]; exact h1
          · have : j = m - 1 := by omega
            rw [this]; exact h1
      · rw [List.mem_append, i2]
        constructor
        · rintro (⟨j, hj, h⟩ | h)
          · exact ⟨j, by omega, h⟩
          · exact ⟨m, by omega, by have : e = d[m]! := by simpa using h
                                   exact this.symm⟩
        · rintro ⟨j, hj, hje⟩
          rcases Nat.lt_or_ge j m with h2 | h2
          · exact .inl ⟨j, h2, hje⟩
          · have : j = m := by omega
            subst this
            exact .inr (by rw [List.mem_singleton]; exact hje.symm)
    · rw [if_neg hk, List.append_nil]
      refine ⟨i1, fun e => ?_⟩
      rw [i2]
      have hk : m ≠ 0 ∧ d[m]! = d[m - 1]! := by
        unfold Lib.keeps at hk
        rw [decide_eq_true_eq] at hk
        refine ⟨fun h => hk (.inl h), Decidable.byContradiction fun h => hk (.inr h)⟩
      constructor
      · rintro ⟨j, hj, hje⟩; exact ⟨j, by omega, hje⟩
      · rintro ⟨j, hj, hje⟩
        rcases Nat.lt_or_ge j m with h2 | h2
        · exact ⟨j, h2, hje⟩
        · have : j = m := by omega
          subst this
          exact ⟨j - 1, by omega, by rw [← hk.2]; exact hje⟩
theorem compact_in (tr : ∀ a b c, lt a b → lt b c → lt a c) (zs : List α) (hs : zs.Pairwise (fun a b => lt a b ∨ a = b)) : (Lib.compact zs).Pairwise lt ∧ ∀ e, e ∈ Lib.compact zs ↔ e ∈ zs := by
  have hget : ∀ i, i < zs.length → zs.toArray[i]! = zs[i]! := fun i hi => by simp [hi]
  have h := cuTo_in tr zs.toArray (fun i j hij hj => by
    have hj' : j < zs.length := by simpa using hj
    have := (List.pairwise_iff_getElem.1 hs) i j (by omega) hj' hij
    simpa [hj', show i < zs.length by omega] using this) zs.length (by simp)
  refine ⟨h.1, fun e => ?_⟩
  unfold Lib.compact
  rw [h.2]
  constructor
  · rintro ⟨j, hj, rfl⟩
    simp [hj]
  · intro he
    obtain ⟨j, hj, rfl⟩ := List.getElem_of_mem he
    exact ⟨j, hj, by simp [hj]⟩
end
end Go.Proofs.Ytfompfaepabpgaa
