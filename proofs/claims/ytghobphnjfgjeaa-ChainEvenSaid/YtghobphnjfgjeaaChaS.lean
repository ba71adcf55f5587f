/- Plain law: of rates that are the same both ways all nodes are alike in the long run. -/
import Derived.Test.YtghobphnjfgjeaaCha5
import Derived.Test.YtghobphnjfgjeaaSlMM
namespace Go.Proofs.Ytghobphnjfgjeaa
open Go.RowKit

theorem sK_all0 (f : Nat → Int) : ∀ n, (∀ k, k < n → 0 ≤ f k) → sK f n = 0 → ∀ k, k < n → f k = 0
  | 0, _, _, k, hk => by omega
  | n + 1, h, h0, k, hk => by
    rw [sK] at h0
    have h1 := sK_nonneg f n (fun k hk => h k (by omega))
    have h2 := h n (by omega)
    by_cases e : k = n
    · subst e; omega
    · exact sK_all0 f n (fun k hk => h k (by omega)) (by omega) k (by omega)
theorem sK_one0 (f : Nat → Int) : ∀ n, sK f n ≠ 0 → ∃ k, k < n ∧ f k ≠ 0
  | 0, h => absurd rfl h
  | n + 1, h => by
    by_cases e : f n = 0
    · obtain ⟨k, hk, h1⟩ := sK_one0 f n (by rw [sK, e] at h; omega)
      exact ⟨k, by omega, h1⟩
    · exact ⟨n, by omega, e⟩
/-- a sum that is not 0 has a tree -/
theorem has_tree (M : List (List Int)) (n root : Nat) : ∀ r p, hT M n root r p ≠ 0 → ∃ f : List Nat, (∀ j, j < p.length → f.getD j 0 = p.getD j 0) ∧ reachB n root f = true ∧ ∀ j, p.length ≤ j → j < p.length + r → j ≠ root → f.getD j 0 < n ∧ mt M j (f.getD j 0) ≠ 0
  | 0, p, h => by
    rw [hT] at h
    by_cases e : reachB n root p = true
    · exact ⟨p, fun _ _ => rfl, e, fun j h1 h2 => by omega⟩
    · rw [if_neg e] at h; exact absurd rfl h
  | r + 1, p, h => by
    rw [hT] at h
    by_cases e : p.length = root
    · rw [if_pos e] at h
      obtain ⟨f, h1, h2, h3⟩ := has_tree M n root r _ h
      rw [List.length_append, List.length_singleton] at h1 h3
      refine ⟨f, fun j hj => ?_, h2, fun j hj hj2 hne => h3 j (by omega) (by omega) hne⟩
      rw [h1 j (by omega), getD_snoc, if_neg (by omega)]
    · rw [if_neg e] at h
      obtain ⟨k, hk, h0⟩ := sK_one0 _ n h
      by_cases ek : k = p.length
      · rw [if_pos ek] at h0; exact absurd rfl h0
      rw [if_neg ek] at h0
      have hm : mt M p.length k ≠ 0 := fun x => h0 (by rw [x, Int.zero_mul])
      obtain ⟨f, h1, h2, h3⟩ := has_tree M n root r (p ++ [k]) (fun x => h0 (by rw [x, Int.mul_zero]))
      rw [List.length_append, List.length_singleton] at h1 h3
      refine ⟨f, fun j hj => ?_, h2, fun j hj hj2 hne => ?_⟩
      · rw [h1 j (by omega), getD_snoc, if_neg (by omega)]
      · by_cases ej : j = p.length
        · subst ej
          rw [h1 _ (by omega), getD_snoc, if_pos rfl]
          exact ⟨hk, hm⟩
        · exact h3 j (by omega) (by omega) hne
theorem reach_all {n root : Nat} {f : List Nat} (P : Nat → Prop) (h0 : P root) (hs : ∀ a, a < n → a ≠ root → f.getD a 0 < n ∧ (P (f.getD a 0) → P a)) : ∀ t a, a < n → goT f root t a = root → P a
  | 0, a, _, h => by rw [goT] at h; rw [h]; exact h0
  | t + 1, a, ha, h => by
    rw [goT] at h
    by_cases e : a = root
    · rw [e]; exact h0
    · unfold stepT at h
      rw [if_neg e] at h
      have := hs a ha e
      exact this.2 (reach_all P h0 hs t _ this.1 h)
theorem all_alike (M : List (List Int)) (n : Nat) (n1 : 1 ≤ n) (h6 : n < 6) (hnn : ∀ i k, 0 ≤ mt M i k) (hsym : ∀ i, i < n → ∀ k, k < n → mt M i k = mt M k i) (h : someT M n n = true) : ∃ K, ∀ j, j < n → treeT M n j = K := by
  have hmax : ∃ r, r < n ∧ ∀ j, j < n → treeT M n j ≤ treeT M n r := by
    have hge := maxK_ge (restL M n) n
    rcases maxK_at (restL M n) n with h1 | ⟨j, hj, h1⟩
    · refine ⟨0, by omega, fun j hj => ?_⟩
      have := hge j hj
      rw [h1, restL_nth _ _ _ hj, restL_nth _ _ _ (by omega)] at this
      exact this
    · refine ⟨j, hj, fun k hk => ?_⟩
      have := hge k hk
      rw [h1, restL_nth _ _ _ hk, restL_nth _ _ _ hj] at this
      exact this
  obtain ⟨r, hr, hle⟩ := hmax
  have hpos : ∀ k, someT M n k = true → ∃ j, j < k ∧ 0 < treeT M n j := by
    intro k
    induction k with
    | zero => intro hs; cases hs
    | succ k ih =>
      intro hs
      rw [someT, Bool.or_eq_true] at hs
      rcases hs with hs | hs
      · obtain ⟨j, hj, h1⟩ := ih hs
        exact ⟨j, by omega, h1⟩
      · exact ⟨k, by omega, of_decide_eq_true hs⟩
  obtain ⟨j0, hj0, hp0⟩ := hpos n h
  have hrp : hT M n r n [] ≠ 0 := fun x => by
    have := hle j0 hj0
    rw [show treeT M n r = hT M n r n [] from rfl, x] at this
    omega
  obtain ⟨f, -, hf, hfe⟩ := has_tree M n r n [] hrp
  rw [List.length_nil, Nat.zero_add] at hfe
  refine ⟨treeT M n r, fun a ha => ?_⟩
  have hclose : ∀ i, i < n → treeT M n i = treeT M n r → ∀ k, k < n → mt M i k ≠ 0 → treeT M n k = treeT M n r := by
    intro i hi hti k hk hne
    have law := tree_law M n i h6 hi
    rw [outT, ← sK_mul] at law
    have hz : sK (fun k => if k = i then 0 else (treeT M n i - treeT M n k) * mt M i k) n = 0 := by
      have e1 : sK (fun k => (if k = i then 0 else (treeT M n i - treeT M n k) * mt M i k) + (if k = i then 0 else treeT M n k * mt M k i)) n = sK (fun k => treeT M n i * if k = i then 0 else mt M i k) n := by
        refine sK_congr n fun k hk => ?_
        by_cases e : k = i
        · simp [e]
        · simp only [if_neg e]; rw [← hsym i hi k hk, Int.sub_mul]; omega
      rw [sK_add, law] at e1
      omega
    have hall := sK_all0 _ n (fun k hk => by
      split
      · exact Int.le_refl 0
      · exact Int.mul_nonneg (by have := hle k hk; rw [hti]; omega) (hnn i k)) hz k hk
    by_cases e : k = i
    · rw [e]; exact hti
    · rw [if_neg e] at hall
      rcases Int.mul_eq_zero.1 hall with h1 | h1
      · omega
      · exact absurd h1 hne
  have hr2 : ∀ a, a < n → goT f r n a = r := fun a ha => by
    have := List.all_eq_true.1 hf a (List.mem_range.2 ha)
    simpa using this
  refine reach_all (n := n) (f := f) (fun a => treeT M n a = treeT M n r) rfl (fun b hb hne => ?_) n a ha (hr2 a ha)
  have h1 := hfe b (Nat.zero_le _) hb hne
  refine ⟨h1.1, fun ht => ?_⟩
  exact hclose _ h1.1 ht b hb (by rw [hsym _ h1.1 b hb]; exact h1.2)
/-- the lesser rate both ways -/
def bothRw (M : List (List Int)) (i c : Nat) : List Int := (List.range c).map fun k => min (mt M i k) (mt M k i)
def bothM (M : List (List Int)) (n : Nat) : List (List Int) := (List.range n).map fun i => bothRw M i n
theorem bothRw_len (M : List (List Int)) (i c : Nat) : (bothRw M i c).length = c := by simp [bothRw]
theorem bothRw_step (M : List (List Int)) (i c : Nat) : bothRw M i (c + 1) = bothRw M i c ++ [min (mt M i c) (mt M c i)] := by simp [bothRw, List.range_succ]
theorem bothM_get (M : List (List Int)) (n i : Nat) (h : i < n) : (bothM M n).getD i [] = bothRw M i n := by simp [bothM, h]
theorem bothM_out (M : List (List Int)) (n i : Nat) (h : ¬ i < n) : (bothM M n).getD i [] = [] := by simp [bothM, Nat.le_of_not_lt h]
theorem bothM_mt (M : List (List Int)) (n i k : Nat) (hi : i < n) (hk : k < n) : mt (bothM M n) i k = min (mt M i k) (mt M k i) := by
  unfold mt
  rw [bothM_get M n i hi]
  simp [bothRw, nth, hk, mt]
theorem bothM_len (M : List (List Int)) (n : Nat) : (bothM M n).length = n := by simp [bothM]
theorem bothM_sym (M : List (List Int)) (n i k : Nat) (hi : i < n) (hk : k < n) : mt (bothM M n) i k = mt (bothM M n) k i := by rw [bothM_mt M n i k hi hk, bothM_mt M n k i hk hi]; omega
theorem bothM_bad (M : List (List Int)) (i n : Nat) (h : ∀ i k, 0 ≤ mt M i k ∧ mt M i k ≤ 20) : (bothRw M i n).any badC = false := by
  refine List.any_eq_false.2 fun x hx => ?_
  obtain ⟨k, -, rfl⟩ := List.mem_map.1 hx
  have h1 := h i k
  have h2 := h k i
  unfold badC
  simp only [Bool.or_eq_true, decide_eq_true_eq]
  omega
theorem bothM_chk (M : List (List Int)) (n : Nat) (n1 : 1 ≤ n) (n5 : n ≤ 5) (h : ∀ i k, 0 ≤ mt M i k ∧ mt M i k ≤ 20) : chkC (bothM M n) = 0 := by
  have key : ∀ k, k ≤ n → chkCr n (bothM M n) k = 0 := by
    intro k
    induction k with
    | zero => intro _; rfl
    | succ k ih =>
      intro hk
      rw [chkCr, ih (by omega), if_neg (by decide), bothM_get M n k (by omega), if_neg (by rw [bothRw_len]; simp), bothM_bad M k n h, if_neg (by decide)]
  unfold chkC
  rw [bothM_len, if_neg (by omega), key n (Nat.le_refl _)]
/-- of the lesser rates: all alike -/
theorem both_alike (M : List (List Int)) (n : Nat) (n1 : 1 ≤ n) (n5 : n ≤ 5) (h : ∀ i k, 0 ≤ mt M i k ∧ mt M i k ≤ 20) (hs : someT (bothM M n) n n = true) : ∃ K, ∀ j, j < n → nth (restL (bothM M n) n) j = K := by
  have hok := chkC_ok (bothM_chk M n n1 n5 h)
  obtain ⟨K, hK⟩ := all_alike (bothM M n) n n1 (by omega) (fun i k => (hok.bd i k).1) (fun i hi k hk => bothM_sym M n i k hi hk) hs
  exact ⟨K, fun j hj => by rw [restL_nth _ _ _ hj]; exact hK j hj⟩
theorem both_even (M : List (List Int)) (n : Nat) (n1 : 1 ≤ n) (n5 : n ≤ 5) (h : ∀ i k, 0 ≤ mt M i k ∧ mt M i k ≤ 20) (hs : someT (bothM M n) n n = true) {b : Bool} {er : Int} (he : EvenSaid (bothM M n) (restL (bothM M n) n) n b er) : er = 1 ∨ (er = 0 ∧ b = true) := by
  obtain ⟨K, hK⟩ := both_alike M n n1 n5 h hs
  rcases he with ⟨h0, hb, h1 | ⟨h1, h2⟩ | ⟨h1, -⟩⟩ | ⟨h0, -, -, -, ⟨hb, -⟩ | ⟨hb, i, k, hi, hk, hne⟩⟩
  · rw [bothM_chk M n n1 n5 h] at h1; exact absurd h1.symm h0
  · exact absurd (by rw [restL, restP_len]) h2
  · exact .inl h1
  · exact .inr ⟨h0, hb⟩
  · exact absurd (by rw [hK i hi, hK k hk, bothM_sym M n i k hi hk]) hne
theorem both_minmax (M : List (List Int)) (n : Nat) (n1 : 1 ≤ n) (n5 : n ≤ 5) (h : ∀ i k, 0 ≤ mt M i k ∧ mt M i k ≤ 20) (hs : someT (bothM M n) n n = true) : minK (restL (bothM M n) n) n = maxK (restL (bothM M n) n) n := by
  obtain ⟨K, hK⟩ := both_alike M n n1 n5 h hs
  have e1 : minK (restL (bothM M n) n) n = K := by
    rcases minK_at (restL (bothM M n) n) n with h1 | ⟨j, hj, h1⟩
    · rw [h1, hK 0 (by omega)]
    · rw [h1, hK j hj]
  have e2 : maxK (restL (bothM M n) n) n = K := by
    rcases maxK_at (restL (bothM M n) n) n with h1 | ⟨j, hj, h1⟩
    · rw [h1, hK 0 (by omega)]
    · rw [h1, hK j hj]
  rw [e1, e2]
/-- where numbers are even as much comes as goes -/
def comeK (M : List (List Int)) (l : List Int) (i c : Nat) : Int := sK (fun k => nth l k * mt M k i) c
def goK (M : List (List Int)) (l : List Int) (i c : Nat) : Int := sK (fun k => nth l i * mt M i k) c
theorem come_go (M : List (List Int)) (l : List Int) (n i : Nat) (hi : i < n) (h : ∀ i, i < n → ∀ k, k < n → nth l i * mt M i k = nth l k * mt M k i) : comeK M l i n = goK M l i n := sK_congr n fun k hk => (h i hi k hk).symm
end Go.Proofs.Ytghobphnjfgjeaa
