/- Several of my texts in one: BotC, BotS. -/
import Derived.Test.YtooghdnlaonkaaaDw19
import Derived.Test.YtooghdnlaonkaaaDw20
import Derived.Test.YtooghdnlaonkaaaDw18
/- What Check lets pass, in plain words. -/
namespace Go.Proofs.Ytooghdnlaonkaaa
open Go.RowKit

theorem prevBad_no {q x : ByteArray} : prevBad (some q) x = false ↔ ltS q x := by
  unfold prevBad
  rw [decide_eq_false_iff_not, ← ahS_lt]
  omega
theorem chkL_ok : ∀ (l : List ByteArray) (p : Option ByteArray), chkL p l = 0 → (∀ x ∈ l, x.size ≤ 12) ∧ l.Pairwise ltS ∧ ∀ q, p = some q → ∀ x ∈ l, ltS q x
  | [], p, _ => ⟨(fun x hx => by cases hx), .nil, (fun q _ x hx => by cases hx)⟩
  | x :: r, p, h => by
    rw [chkL] at h
    split at h
    · cases h
    · split at h
      · cases h
      · rename_i h1 h2
        obtain ⟨i1, i2, i3⟩ := chkL_ok r (some x) h
        have hx := i3 x rfl
        refine ⟨fun y hy => ?_, List.pairwise_cons.2 ⟨hx, i2⟩, fun q hq y hy => ?_⟩
        · rcases List.mem_cons.1 hy with rfl | hy
          · omega
          · exact i1 y hy
        · subst hq
          have hqx : ltS q x := prevBad_no.1 (by cases hb : prevBad (some q) x with | false => rfl | true => exact absurd hb h2)
          rcases List.mem_cons.1 hy with rfl | hy
          · exact hqx
          · exact ltS_tr _ _ _ hqx (hx y hy)
theorem chkL_of : ∀ (l : List ByteArray) (p : Option ByteArray), (∀ x ∈ l, x.size ≤ 12) → l.Pairwise ltS → (∀ q, p = some q → ∀ x ∈ l, ltS q x) → chkL p l = 0
  | [], p, _, _, _ => rfl
  | x :: r, p, h1, h2, h3 => by
    have hp := List.pairwise_cons.1 h2
    have hb : prevBad p x = false := by
      cases p with
      | none => rfl
      | some q => exact prevBad_no.2 (h3 q rfl x List.mem_cons_self)
    have := h1 x List.mem_cons_self
    rw [chkL, if_neg (by omega), if_neg (by rw [hb]; simp)]
    exact chkL_of r (some x) (fun y hy => h1 y (List.mem_cons_of_mem _ hy)) hp.2 (fun q hq y hy => by cases hq; exact hp.1 y hy)
/-- a sample that may be -/
structure SmOk (most : Int) (l : List ByteArray) : Prop where
  m1 : 1 ≤ most
  m2 : most ≤ 30
  len : (l.length : Int) ≤ most
  sz : ∀ x ∈ l, x.size ≤ 12
  ord : l.Pairwise ltS
theorem chkB_ok {most : Int} {l : List ByteArray} : chkB most l = 0 ↔ SmOk most l := by
  unfold chkB
  constructor
  · intro h
    split at h
    · cases h
    · split at h
      · cases h
      · rename_i h1 h2
        obtain ⟨i1, i2, -⟩ := chkL_ok l none h
        exact ⟨by omega, by omega, by omega, i1, i2⟩
  · rintro ⟨h1, h2, h3, h4, h5⟩
    rw [if_neg (by omega), if_neg (by omega)]
    exact chkL_of l none h4 h5 (fun q hq => nomatch hq)
end Go.Proofs.Ytooghdnlaonkaaa
/- A sketch of names: in order by their marks, each once, the first so many: in plain words. -/
namespace Go.Proofs.Ytooghdnlaonkaaa
open Go.RowKit

theorem cmpS_in (l : List ByteArray) (h : l.Pairwise (fun a b => ltS a b ∨ a = b)) : (cmpS l).Pairwise ltS ∧ ∀ e, e ∈ cmpS l ↔ e ∈ l := by
  have hl : (lets l).Pairwise (fun x y => ltS ⟨x.toArray⟩ ⟨y.toArray⟩ ∨ x = y) := by
    unfold lets
    refine List.pairwise_map.2 (h.imp fun {a b} hab => ?_)
    rcases hab with hab | hab
    · exact .inl hab
    · exact .inr (by rw [hab])
  obtain ⟨h1, h2⟩ := compact_in (lt := fun x y : List UInt8 => ltS ⟨x.toArray⟩ ⟨y.toArray⟩) (fun a b c => ltS_tr _ _ _) (lets l) hl
  refine ⟨List.pairwise_map.2 h1, fun e => ?_⟩
  unfold cmpS
  constructor
  · intro he
    obtain ⟨x, hx, rfl⟩ := List.mem_map.1 he
    obtain ⟨s, hs, rfl⟩ := List.mem_map.1 ((h2 x).1 hx)
    exact hs
  · intro he
    exact List.mem_map.2 ⟨e.data.toList, (h2 _).2 (List.mem_map.2 ⟨e, he, rfl⟩), rfl⟩
/-- in order by their marks -/
def srtS (l : List ByteArray) : List ByteArray := l.mergeSort fun x y => !decide (ahS y x < 0)
theorem srtS_in (l : List ByteArray) : (srtS l).Pairwise (fun a b => ltS a b ∨ a = b) ∧ ∀ e, e ∈ srtS l ↔ e ∈ l := by
  have hle : ∀ a b, (!decide (ahS b a < 0)) = true ↔ ¬ ltS b a := fun a b => by
    rw [Bool.not_eq_true', decide_eq_false_iff_not, ahS_lt]
  refine ⟨?_, fun e => List.mem_mergeSort⟩
  have := List.pairwise_mergeSort (le := fun x y => !decide (ahS y x < 0)) (fun a b c h1 h2 => ?_) (fun a b => ?_) l
  · refine this.imp fun {a b} h => ?_
    have h := (hle a b).1 h
    by_cases e : a = b
    · exact .inr e
    · exact .inl (ltS_tot b a h (fun h => e h.symm))
  · have h1 := (hle a b).1 h1
    have h2 := (hle b c).1 h2
    refine (hle a c).2 fun h => ?_
    by_cases e : b = c
    · subst e; exact h1 h
    · exact h1 (ltS_tr _ _ _ (ltS_tot c b h2 (fun h => e h.symm)) h)
  · by_cases h : ltS b a
    · have : ¬ ltS a b := fun h2 => ltS_irr _ (ltS_tr _ _ _ h h2)
      rw [(hle b a).2 this, Bool.or_true]
    · rw [(hle a b).2 h, Bool.true_or]
/-- the whole set in order; its first k -/
def setS (l : List ByteArray) : List ByteArray := cmpS (srtS l)
def skS (k : Nat) (l : List ByteArray) : List ByteArray := (setS l).take k
theorem setS_in (l : List ByteArray) : (setS l).Pairwise ltS ∧ ∀ e, e ∈ setS l ↔ e ∈ l := by
  obtain ⟨h1, h2⟩ := srtS_in l
  obtain ⟨h3, h4⟩ := cmpS_in (srtS l) h1
  exact ⟨h3, fun e => (h4 e).trans (h2 e)⟩
theorem setS_same {l m : List ByteArray} (h : ∀ e, e ∈ l ↔ e ∈ m) : setS l = setS m :=
  sorted_same ltS_irr ltS_tr (setS_in m).1 (setS_in l).1 (fun x => ((setS_in l).2 x).trans ((h x).trans ((setS_in m).2 x).symm))
/-- joined, it is as if one had counted all -/
theorem sk_join (k : Nat) (l m : List ByteArray) : skS k (skS k l ++ skS k m) = skS k (l ++ m) :=
  take_join ltS_irr ltS_tr k (setS l) (setS m) (setS (l ++ m)) (setS (skS k l ++ skS k m)) (setS_in l).1 (setS_in m).1 (setS_in _).1 (setS_in _).1
    (fun e => by rw [(setS_in (l ++ m)).2, List.mem_append, (setS_in l).2, (setS_in m).2])
    (fun e => by rw [(setS_in _).2, List.mem_append]; exact Iff.rfl)
theorem sk_comm (k : Nat) (l m : List ByteArray) : skS k (l ++ m) = skS k (m ++ l) := by
  unfold skS
  rw [setS_same (l := l ++ m) (m := m ++ l) (fun e => by rw [List.mem_append, List.mem_append]; exact Or.comm)]
theorem sk_assoc (k : Nat) (l m n : List ByteArray) : skS k (skS k (l ++ m) ++ skS k n) = skS k (skS k l ++ skS k (m ++ n)) := by
  rw [sk_join, sk_join, List.append_assoc]
theorem sk_self (k : Nat) (l : List ByteArray) : skS k (skS k l ++ skS k l) = skS k l := by
  rw [sk_join]
  unfold skS
  rw [setS_same (l := l ++ l) (m := l) (fun e => by rw [List.mem_append, or_self])]
/-- a sketch is a sample that may be -/
theorem sk_ok (k : Nat) (l : List ByteArray) (h1 : 1 ≤ k) (h2 : k ≤ 30) (hz : ∀ x ∈ l, x.size ≤ 12) : SmOk k (skS k l) := by
  refine ⟨by omega, by omega, by unfold skS; rw [List.length_take]; omega, fun x hx => hz x (((setS_in l).2 x).1 (List.mem_of_mem_take hx)), (setS_in l).1.sublist (List.take_sublist _ _)⟩
end Go.Proofs.Ytooghdnlaonkaaa
