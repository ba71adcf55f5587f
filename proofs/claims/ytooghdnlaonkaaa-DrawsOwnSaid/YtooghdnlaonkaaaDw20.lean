/- Several of my texts in one: BotO, BotP. -/
import Derived.Test.YtooghdnlaonkaaaDw19
import Derived.Test.YtooghdnlaonkaaaDw01
/- The order of names by their marks is strict and total. -/
namespace Go.Proofs.Ytooghdnlaonkaaa
open Go.RowKit

theorem bl_irr : ∀ x : List UInt8, Op.bytesLess x x = false
  | [] => rfl
  | a :: x => by
    rw [Op.bytesLess, bl_irr x]
    simp
theorem bl_tr : ∀ x y z : List UInt8, Op.bytesLess x y = true → Op.bytesLess y z = true → Op.bytesLess x z = true
  | x, [], z, h, _ => by cases x <;> simp [Op.bytesLess] at h
  | x, b :: y, [], _, h => by simp [Op.bytesLess] at h
  | [], b :: y, c :: z, _, _ => rfl
  | a :: x, b :: y, c :: z, h1, h2 => by
    rw [Op.bytesLess] at h1 h2 ⊢
    simp only [Bool.or_eq_true, decide_eq_true_eq, Bool.and_eq_true, beq_iff_eq] at h1 h2 ⊢
    rcases h1 with h1 | ⟨rfl, h1⟩
    · rcases h2 with h2 | ⟨rfl, h2⟩
      · exact .inl (UInt8.lt_trans h1 h2)
      · exact .inl h1
    · rcases h2 with h2 | ⟨rfl, h2⟩
      · exact .inl h2
      · exact .inr ⟨rfl, bl_tr x y z h1 h2⟩
theorem bl_tot : ∀ x y : List UInt8, Op.bytesLess x y = false → x ≠ y → Op.bytesLess y x = true
  | [], [], _, h => absurd rfl h
  | [], b :: y, h, _ => by simp [Op.bytesLess] at h
  | a :: x, [], _, _ => rfl
  | a :: x, b :: y, h, hne => by
    rw [Op.bytesLess] at h ⊢
    simp only [Bool.or_eq_false_iff, decide_eq_false_iff_not, Bool.and_eq_false_iff, beq_eq_false_iff_ne] at h
    simp only [Bool.or_eq_true, decide_eq_true_eq, Bool.and_eq_true, beq_iff_eq]
    obtain ⟨h1, h2⟩ := h
    by_cases e : a = b
    · subst e
      refine .inr ⟨rfl, bl_tot x y ?_ (fun e => hne (by rw [e]))⟩
      rcases h2 with h2 | h2
      · exact absurd rfl h2
      · exact h2
    · refine .inl ?_
      have h3 : ¬ a.toNat < b.toNat := fun h => h1 (UInt8.lt_iff_toNat_lt.2 h)
      have h4 : a.toNat ≠ b.toNat := fun h => e (UInt8.toNat_inj.1 h)
      exact UInt8.lt_iff_toNat_lt.2 (by omega)
/-- one name is ahead of another -/
def ltS (a b : ByteArray) : Prop := markS a < markS b ∨ (markS a = markS b ∧ Op.bytesLess a.toList b.toList = true)
theorem ltS_irr (a : ByteArray) : ¬ ltS a a := by
  rintro (h | ⟨_, h⟩)
  · omega
  · rw [bl_irr] at h; cases h
theorem ltS_tr (a b c : ByteArray) (h1 : ltS a b) (h2 : ltS b c) : ltS a c := by
  rcases h1 with h1 | ⟨e1, h1⟩
  · rcases h2 with h2 | ⟨e2, h2⟩
    · exact .inl (by omega)
    · exact .inl (by omega)
  · rcases h2 with h2 | ⟨e2, h2⟩
    · exact .inl (by omega)
    · exact .inr ⟨by omega, bl_tr _ _ _ h1 h2⟩
theorem toList_inj {a b : ByteArray} (h : a.toList = b.toList) : a = b := by
  have := str_eq a b
  rw [beq_iff_eq.2 h] at this
  exact of_decide_eq_true this.symm
theorem ltS_tot (a b : ByteArray) (h1 : ¬ ltS a b) (h2 : a ≠ b) : ltS b a := by
  unfold ltS at h1 ⊢
  rcases Int.lt_or_le (markS b) (markS a) with h | h
  · exact .inl h
  · have e : markS a = markS b := by
      rcases Int.lt_or_le (markS a) (markS b) with h3 | h3
      · exact absurd (.inl h3) h1
      · omega
    refine .inr ⟨e.symm, bl_tot _ _ ?_ (fun h => h2 (toList_inj h))⟩
    cases hb : Op.bytesLess a.toList b.toList with
    | false => rfl
    | true => exact absurd (.inr ⟨e, hb⟩) h1
theorem ahS_lt (a b : ByteArray) : ahS a b < 0 ↔ ltS a b := by
  unfold ahS ltS
  split
  · rename_i h; exact ⟨fun _ => h, fun _ => by omega⟩
  · rename_i h
    refine ⟨fun h2 => ?_, fun h2 => absurd h2 h⟩
    split at h2 <;> omega
end Go.Proofs.Ytooghdnlaonkaaa
/- Sketches: the first k of a set in its order; joining them. In plain words. -/
namespace Go.Proofs.Ytooghdnlaonkaaa

section
variable {α : Type} {lt : α → α → Prop}
/-- the least of a set stands first in each part that holds it -/
theorem head_min (irr : ∀ a, ¬ lt a a) (tr : ∀ a b c, lt a b → lt b c → lt a c) {a b : α} {L N : List α} (hL : (a :: L).Pairwise lt) (hN : (b :: N).Pairwise lt) (hs : ∀ e ∈ b :: N, e ∈ a :: L) (ha : a ∈ b :: N) : b = a := by
  rcases List.mem_cons.1 (hs b List.mem_cons_self) with h | h
  · exact h
  · have h1 := (List.pairwise_cons.1 hL).1 b h
    rcases List.mem_cons.1 ha with h2 | h2
    · exact h2.symm
    · have h3 := (List.pairwise_cons.1 hN).1 a h2
      exact absurd (tr _ _ _ h1 h3) (irr a)
theorem take_in (irr : ∀ a, ¬ lt a a) (tr : ∀ a b c, lt a b → lt b c → lt a c) : ∀ (L N : List α) (k : Nat) (e : α), L.Pairwise lt → N.Pairwise lt → (∀ x ∈ N, x ∈ L) → e ∈ L.take k → e ∈ N → e ∈ N.take k
  | [], N, k, e, _, _, _, h, _ => by simp at h
  | a :: L, [], k, e, _, _, _, _, h => by simp at h
  | a :: L, b :: N, 0, e, _, _, _, h, _ => by simp at h
  | a :: L, b :: N, k + 1, e, hL, hN, hs, h, he => by
    rw [List.take_succ_cons] at h ⊢
    have hL' := (List.pairwise_cons.1 hL).2
    have hN' := (List.pairwise_cons.1 hN).2
    by_cases hb : b = a
    · subst hb
      rcases List.mem_cons.1 h with h | h
      · rw [h]; exact List.mem_cons_self
      · refine List.mem_cons_of_mem _ (take_in irr tr L N k e hL' hN' (fun x hx => ?_) h ?_)
        · rcases List.mem_cons.1 (hs x (List.mem_cons_of_mem _ hx)) with h2 | h2
          · have := (List.pairwise_cons.1 hN).1 x hx
            rw [h2] at this; exact absurd this (irr _)
          · exact h2
        · rcases List.mem_cons.1 he with h2 | h2
          · have := (List.pairwise_cons.1 hL).1 e (List.mem_of_mem_take h)
            rw [h2] at this; exact absurd this (irr _)
          · exact h2
    · have ha : a ∉ b :: N := fun ha => hb (head_min irr tr hL hN hs ha)
      have hs' : ∀ x ∈ b :: N, x ∈ L := fun x hx => by
        rcases List.mem_cons.1 (hs x hx) with h2 | h2
        · exact absurd (h2 ▸ hx) ha
        · exact h2
      rcases List.mem_cons.1 h with h | h
      · exact absurd (h ▸ he) ha
      · have := take_in irr tr L (b :: N) k e hL' hN hs' h he
        cases k with
        | zero => simp at this
        | succ k =>
          rw [List.take_succ_cons] at this
          rcases List.mem_cons.1 this with h3 | h3
          · rw [h3]; exact List.mem_cons_self
          · exact List.mem_cons_of_mem _ (List.take_subset_take_left N (by omega) h3)
theorem take_same (irr : ∀ a, ¬ lt a a) (tr : ∀ a b c, lt a b → lt b c → lt a c) : ∀ (L M : List α) (k : Nat), L.Pairwise lt → M.Pairwise lt → (∀ x ∈ M, x ∈ L) → (∀ x ∈ L.take k, x ∈ M) → M.take k = L.take k
  | L, M, 0, _, _, _, _ => by simp
  | [], M, k + 1, _, _, hs, _ => by
    cases M with
    | nil => rfl
    | cons b M => exact absurd (hs b List.mem_cons_self) (by simp)
  | a :: L, [], k + 1, _, _, _, h => absurd (h a (by simp)) (by simp)
  | a :: L, b :: M, k + 1, hL, hM, hs, h => by
    have hb : b = a := head_min irr tr hL hM hs (h a (by simp))
    subst hb
    rw [List.take_succ_cons, List.take_succ_cons]
    congr 1
    refine take_same irr tr L M k (List.pairwise_cons.1 hL).2 (List.pairwise_cons.1 hM).2 (fun x hx => ?_) (fun x hx => ?_)
    · rcases List.mem_cons.1 (hs x (List.mem_cons_of_mem _ hx)) with h2 | h2
      · have := (List.pairwise_cons.1 hM).1 x hx
        rw [h2] at this; exact absurd this (irr _)
      · exact h2
    · rcases List.mem_cons.1 (h x (by rw [List.take_succ_cons]; exact List.mem_cons_of_mem _ hx)) with h2 | h2
      · have := (List.pairwise_cons.1 hL).1 x (List.mem_of_mem_take hx)
        rw [h2] at this; exact absurd this (irr _)
      · exact h2
/-- the first k of a join are the first k of the join of the first k -/
theorem take_join (irr : ∀ a, ¬ lt a a) (tr : ∀ a b c, lt a b → lt b c → lt a c) (k : Nat) (X Y L M : List α) (hX : X.Pairwise lt) (hY : Y.Pairwise lt) (hL : L.Pairwise lt) (hM : M.Pairwise lt)
    (mL : ∀ e, e ∈ L ↔ e ∈ X ∨ e ∈ Y) (mM : ∀ e, e ∈ M ↔ e ∈ X.take k ∨ e ∈ Y.take k) : M.take k = L.take k := by
  refine take_same irr tr L M k hL hM (fun x hx => ?_) (fun x hx => ?_)
  · rcases (mM x).1 hx with h | h
    · exact (mL x).2 (.inl (List.mem_of_mem_take h))
    · exact (mL x).2 (.inr (List.mem_of_mem_take h))
  · rcases (mL x).1 (List.mem_of_mem_take hx) with h | h
    · exact (mM x).2 (.inl (take_in irr tr L X k x hL hX (fun e he => (mL e).2 (.inl he)) hx h))
    · exact (mM x).2 (.inr (take_in irr tr L Y k x hL hY (fun e he => (mL e).2 (.inr he)) hx h))
/-- two rows in order that hold the same are the same -/
theorem sorted_same (irr : ∀ a, ¬ lt a a) (tr : ∀ a b c, lt a b → lt b c → lt a c) {L M : List α} (hL : L.Pairwise lt) (hM : M.Pairwise lt) (h : ∀ x, x ∈ M ↔ x ∈ L) : M = L := by
  have hlen : ∀ (L M : List α), L.Pairwise lt → M.Pairwise lt → (∀ x ∈ M, x ∈ L) → M.length ≤ L.length := by
    intro L
    induction L with
    | nil => intro M _ _ h; cases M with
      | nil => exact Nat.le_refl _
      | cons b M => exact absurd (h b List.mem_cons_self) (by simp)
    | cons a L ih =>
      intro M hL hM h
      cases M with
      | nil => exact Nat.zero_le _
      | cons b M =>
        refine Nat.succ_le_succ (ih M (List.pairwise_cons.1 hL).2 (List.pairwise_cons.1 hM).2 fun x hx => ?_)
        rcases List.mem_cons.1 (h x (List.mem_cons_of_mem _ hx)) with h2 | h2
        · have h3 := (List.pairwise_cons.1 hM).1 x hx
          rw [h2] at h3
          rcases List.mem_cons.1 (h b List.mem_cons_self) with h4 | h4
          · rw [h4] at h3; exact absurd h3 (irr _)
          · exact absurd (tr _ _ _ h3 ((List.pairwise_cons.1 hL).1 b h4)) (irr _)
        · exact h2
  have h1 := hlen L M hL hM (fun x hx => (h x).1 hx)
  have := take_same irr tr L M L.length hL hM (fun x hx => (h x).1 hx) (fun x hx => (h x).2 (List.mem_of_mem_take hx))
  rw [List.take_length, List.take_of_length_le h1] at this
  exact this
end
end Go.Proofs.Ytooghdnlaonkaaa
