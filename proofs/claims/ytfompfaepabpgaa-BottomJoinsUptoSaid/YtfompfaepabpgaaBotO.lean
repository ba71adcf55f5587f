/- The order of names by their marks is strict and total. -/
import Derived.Test.YtfompfaepabpgaaBot1
namespace Go.Proofs.Ytfompfaepabpgaa
open Go.RowKit

theorem bl_irr : ∀ x : List UInt8, Op.bytesLess x x = false
  | [] => rfl
  | a :: x => by
    rw [Op.bytesLess, bl_irr x]
    simp
theorem bl_tr : ∀ x y z : List UInt8, Op.bytesLess x y = true → Op.bytesLess y z = true → Op.bytesLess x z = true
  | x, [], z, h, _ => by cases x <;> simp [Op.bytesLess] at h
  | x, b :: y, [], _, h => by simp [Op.bytesLess] at h
  | [], b :: y, c :: z, _, _ => rfl
  | a :: x, b :: y, c :: z, h1, h2 => by
    rw [Op.bytesLess] at h1 h2 ⊢
    simp only [Bool.or_eq_true, decide_eq_true_eq, Bool.and_eq_true, beq_iff_eq] at h1 h2 ⊢
    rcases h1 with h1 | ⟨rfl, h1⟩
    · rcases h2 with h2 | ⟨rfl, h2⟩
      · exact .inl (UInt8.lt_trans h1 h2)
      · exact .inl h1
    · rcases h2 with h2 | ⟨rfl, h2⟩
      · exact .inl h2
      · exact .inr ⟨rfl, bl_tr x y z h1 h2⟩
theorem bl_tot : ∀ x y : List UInt8, Op.bytesLess x y = false → x ≠ y → Op.bytesLess y x = true
  | [], [], _, h => absurd rfl h
  | [], b :: y, h, _ => by simp [Op.bytesLess] at h
  | a :: x, [], _, _ => rfl
  | a :: x, b :: y, h, hne => by
    rw [Op.bytesLess] at h ⊢
    simp only [Bool.or_eq_false_iff, decide_eq_false_iff_not, Bool.and_eq_false_iff, beq_eq_false_iff_ne] at h
    simp only [Bool.or_eq_true, decide_eq_true_eq, Bool.and_eq_true, beq_iff_eq]
    obtain ⟨h1, h2⟩ := h
    by_cases e : a = b
    · subst e
      refine .inr ⟨rfl, bl_tot x y ?_ (fun e => hne (by rw [e]))⟩
      rcases h2 with h2 | h2
      · exact absurd rfl h2
      · exact h2
    · refine .inl ?_
      have h3 : ¬ a.toNat < b.toNat := fun h => h1 (UInt8.lt_iff_toNat_lt.2 h)
      have h4 : a.toNat ≠ b.toNat := fun h => e (UInt8.toNat_inj.1 h)
      exact UInt8.lt_iff_toNat_lt.2 (by omega)
/-- one name is ahead of another -/
def ltS (a b : ByteArray) : Prop := markS a < markS b ∨ (markS a = markS b ∧ Op.bytesLess a.toList b.toList = true)
theorem ltS_irr (a : ByteArray) : ¬ ltS a a := by
  rintro (h | ⟨_, h⟩)
  · omega
  · rw [bl_irr] at h; cases h
theorem ltS_tr (a b c : ByteArray) (h1 : ltS a b) (h2 : ltS b c) : ltS a c := by
  rcases h1 with h1 | ⟨e1, h1⟩
  · rcases h2 with h2 | ⟨e2, h2⟩
    · exact .inl (by omega)
    · exact .inl (by omega)
  · rcases h2 with h2 | ⟨e2, h2⟩
    · exact .inl (by omega)
    · exact .inr ⟨by omega, bl_tr _ _ _ h1 h2⟩
theorem toList_inj {a b : ByteArray} (h : a.toList = b.toList) : a = b := by
  have := str_eq a b
  rw [beq_iff_eq.2 h] at this
  exact of_decide_eq_true this.symm
theorem ltS_tot (a b : ByteArray) (h1 : ¬ ltS a b) (h2 : a ≠ b) : ltS b a := by
  unfold ltS at h1 ⊢
  rcases Int.lt_or_le (markS b) (markS a) with h | h
  · exact .inl h
  · have e : markS a = markS b := by
      rcases Int.lt_or_le (markS a) (markS b) with h3 | h3
      · exact absurd (.inl h3) h1
      · omega
    refine .inr ⟨e.symm, bl_tot _ _ ?_ (fun h => h2 (toList_inj h))⟩
    cases hb : Op.bytesLess a.toList b.toList with
    | false => rfl
    | true => exact absurd (.inr ⟨e, hb⟩) h1
theorem ahS_lt (a b : ByteArray) : ahS a b < 0 ↔ ltS a b := by
  unfold ahS ltS
  split
  · rename_i h; exact ⟨fun _ => h, fun _ => by omega⟩
  · rename_i h
    refine ⟨fun h2 => ?_, fun h2 => absurd h2 h⟩
    split at h2 <;> omega
end Go.Proofs.Ytfompfaepabpgaa
