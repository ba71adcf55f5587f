/- Several of my texts in one: MathBlkN. -/
import Derived.Test.YtooghdnlaonkaaaPw33
import Derived.Test.YtooghdnlaonkaaaPw02
/- The next restricted growth string, plain. -/
namespace Go.Proofs.Ytooghdnlaonkaaa

def mx (a b : Int) : Int := if a < b then b else a
def valB : Int → List Int → Prop
  | _, [] => True
  | m, x :: r => 0 ≤ x ∧ x ≤ m + 1 ∧ valB (mx m x) r
def nxtB : Int → List Int → Option (List Int)
  | _, [] => none
  | m, x :: r => match nxtB (mx m x) r with
    | some s => some (x :: s)
    | none => if x ≤ m then some ((x + 1) :: List.replicate r.length 0) else none
theorem nxtB_pre (s : List Int) (q : List Int) : ∀ (p : List Int) (m : Int), nxtB (p.foldl mx m) q = some s → nxtB m (p ++ q) = some (p ++ s)
  | [], _, h => h
  | x :: p, m, h => by
    have := nxtB_pre s q p (mx m x) h
    rw [List.cons_append, nxtB, this]; rfl
theorem nxtB_len : ∀ (a : List Int) (m : Int) (c : List Int), nxtB m a = some c → c.length = a.length
  | [], _, _, h => by cases h
  | x :: r, m, c, h => by
    rw [nxtB] at h
    cases hr : nxtB (mx m x) r with
    | some s => rw [hr] at h; cases h; simp [nxtB_len r _ s hr]
    | none =>
      rw [hr] at h
      simp only at h
      by_cases hx : x ≤ m
      · rw [if_pos hx] at h; cases h; simp
      · rw [if_neg hx] at h; cases h
theorem lexCB_cons (x y : Int) (r s : List Int) : lexCB (x :: r) (y :: s) = if cmp2B x y = 0 then lexCB r s else cmp2B x y := by
  rw [lexCB]
theorem cmp2B_lt {x y : Int} (h : x < y) : cmp2B x y = -1 := by unfold cmp2B; rw [if_pos h]
theorem cmp2B_gt {x y : Int} (h : y < x) : cmp2B x y = 1 := by unfold cmp2B; rw [if_neg (by omega), if_pos h]
theorem cmp2B_eq (x : Int) : cmp2B x x = 0 := by unfold cmp2B; rw [if_neg (by omega), if_neg (by omega)]
theorem lexCB_lt {x y : Int} (r s : List Int) (h : x < y) : lexCB (x :: r) (y :: s) = -1 := by rw [lexCB_cons, cmp2B_lt h]; rfl
theorem lexCB_gt {x y : Int} (r s : List Int) (h : y < x) : lexCB (x :: r) (y :: s) = 1 := by rw [lexCB_cons, cmp2B_gt h]; rfl
theorem lexCB_eq (x : Int) (r s : List Int) : lexCB (x :: r) (x :: s) = lexCB r s := by rw [lexCB_cons, cmp2B_eq]; rfl
theorem valB_zeros : ∀ (n : Nat) (m : Int), -1 ≤ m → valB m (List.replicate n 0)
  | 0, _, _ => trivial
  | n + 1, m, h => ⟨by omega, by omega, valB_zeros n _ (by unfold mx; split <;> omega)⟩
theorem lexCB_zeros : ∀ (b : List Int) (m : Int), valB m b → 0 ≤ lexCB b (List.replicate b.length 0)
  | [], _, _ => by decide
  | y :: s, m, h => by
    obtain ⟨h1, h2, h3⟩ := h
    rw [List.length_cons, List.replicate_succ]
    by_cases hy : y = 0
    · subst hy; rw [lexCB_eq]; exact lexCB_zeros s _ h3
    · rw [lexCB_gt _ _ (by omega)]; omega
theorem nxtB_says : ∀ (a b : List Int) (m : Int), -1 ≤ m → valB m a → valB m b → a.length = b.length →
    (nxtB m a = none → lexCB b a ≤ 0) ∧ ∀ c, nxtB m a = some c → valB m c ∧ lexCB a c < 0 ∧ (lexCB b a ≤ 0 ∨ 0 ≤ lexCB b c)
  | [], [], _, _, _, _, _ => ⟨fun _ => by decide, fun c h => by cases h⟩
  | [], _ :: _, _, _, _, _, h => by simp at h
  | _ :: _, [], _, _, _, _, h => by simp at h
  | x :: r, y :: s, m, hm, ha, hb, hl => by
    obtain ⟨a1, a2, a3⟩ := ha
    obtain ⟨b1, b2, b3⟩ := hb
    simp only [List.length_cons, Nat.add_right_cancel_iff] at hl
    have hmx : -1 ≤ mx m x := by unfold mx; split <;> omega
    constructor
    · intro h
      rw [nxtB] at h
      cases hr : nxtB (mx m x) r with
      | some s => rw [hr] at h; cases h
      | none =>
        rw [hr] at h
        simp only at h
        by_cases hx : x ≤ m
        · rw [if_pos hx] at h; cases h
        · by_cases e : y = x
          · subst e; rw [lexCB_eq]; exact (nxtB_says r s _ hmx a3 b3 hl).1 hr
          · rw [lexCB_lt _ _ (by omega)]; omega
    · intro c h
      rw [nxtB] at h
      cases hr : nxtB (mx m x) r with
      | some t =>
        rw [hr] at h
        simp only [Option.some.injEq] at h
        subst h
        by_cases e : y = x
        · subst e
          obtain ⟨i1, i2, i3⟩ := (nxtB_says r s _ hmx a3 b3 hl).2 t hr
          exact ⟨⟨a1, a2, i1⟩, by rw [lexCB_eq]; exact i2, by rw [lexCB_eq, lexCB_eq]; exact i3⟩
        · obtain ⟨i1, i2, i3⟩ := (nxtB_says r r _ hmx a3 a3 rfl).2 t hr
          refine ⟨⟨a1, a2, i1⟩, by rw [lexCB_eq]; exact i2, ?_⟩
          rcases Int.lt_or_gt_of_ne e with e | e
          · left; rw [lexCB_lt _ _ e]; omega
          · right; rw [lexCB_gt _ _ e]; omega
      | none =>
        rw [hr] at h
        simp only at h
        by_cases hx : x ≤ m
        · rw [if_pos hx] at h
          simp only [Option.some.injEq] at h
          subst h
          refine ⟨⟨by omega, by omega, valB_zeros _ _ (by unfold mx; split <;> omega)⟩, by rw [lexCB_lt _ _ (by omega)]; omega, ?_⟩
          rcases Int.lt_trichotomy y x with e | e | e
          · left; rw [lexCB_lt _ _ e]; omega
          · subst e; left; rw [lexCB_eq]; exact (nxtB_says r s _ hmx a3 b3 hl).1 hr
          · right
            by_cases e1 : y = x + 1
            · subst e1; rw [lexCB_eq, hl]; exact lexCB_zeros s _ b3
            · rw [lexCB_gt _ _ (by omega)]; omega
        · rw [if_neg hx] at h; cases h
theorem foldl_mx (l : List Int) : mst l = l.foldl mx (-1) := rfl
theorem valB_of_grows : ∀ (q p : List Int), GrowsOk (p ++ q) → valB (mst p) q
  | [], _, _ => trivial
  | x :: q, p, h => by
    have h1 := h p.length (by simp)
    rw [List.take_left] at h1
    simp only [List.getD_eq_getElem?_getD, List.getElem?_append_right (Nat.le_refl _), Nat.sub_self, List.getElem?_cons_zero, Option.getD_some] at h1
    refine ⟨h1.1, by omega, ?_⟩
    have h2 : GrowsOk ((p ++ [x]) ++ q) := by rw [List.append_assoc]; exact h
    have := valB_of_grows q (p ++ [x]) h2
    rw [mst_snoc] at this
    exact this
theorem grows_of_valB : ∀ (q p : List Int), -1 ≤ mst p → mst p + q.length ≤ 999 → valB (mst p) q → (∀ k, k < p.length → 0 ≤ (p ++ q).getD k 0 ∧ (p ++ q).getD k 0 ≤ mst ((p ++ q).take k) + 1 ∧ -1 ≤ mst ((p ++ q).take k) ∧ mst ((p ++ q).take k) ≤ 1000) → GrowsOk (p ++ q)
  | [], p, _, _, _, h => by
    intro k hk
    rw [List.append_nil] at *
    exact h k hk
  | x :: q, p, h0, hq, hv, h => by
    obtain ⟨v1, v2, v3⟩ := hv
    simp only [List.length_cons] at hq
    have e : p ++ x :: q = (p ++ [x]) ++ q := by rw [List.append_assoc]; rfl
    rw [e] at h ⊢
    have hm : mst (p ++ [x]) = mx (mst p) x := mst_snoc p x
    refine grows_of_valB q (p ++ [x]) ?_ ?_ ?_ ?_
    · rw [hm]; unfold mx; split <;> omega
    · rw [hm]; unfold mx; split <;> omega
    · rw [hm]; exact v3
    · intro k hk
      by_cases hkp : k < p.length
      · exact h k hkp
      · obtain rfl : k = p.length := by simp at hk; omega
        rw [List.append_assoc, List.take_left]
        simp only [List.getD_eq_getElem?_getD, List.getElem?_append_right (Nat.le_refl _), Nat.sub_self, List.cons_append, List.getElem?_cons_zero, Option.getD_some]
        omega
end Go.Proofs.Ytooghdnlaonkaaa
