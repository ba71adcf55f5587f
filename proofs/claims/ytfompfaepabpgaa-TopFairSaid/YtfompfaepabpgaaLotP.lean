/- Plain laws of lots: how often each holder has one. -/
import Derived.Test.YtfompfaepabpgaaHalK
namespace Go.Proofs.Ytfompfaepabpgaa
open Go.RowKit

theorem winL_lt (l : List Int) (lot : Int) (h1 : 0 ≤ lot) (h2 : lot < isum l) : winL l lot < l.length := winL_lt' l lot h1 h2
def hits (l lots : List Int) (k : Nat) : Nat := lots.countP (fun y => winL l y == k)
def runL (l lots : List Int) : List Int := (List.range l.length).map fun k => ((hits l lots k : Nat) : Int)
theorem runL_len (l lots : List Int) : (runL l lots).length = l.length := by simp [runL]
theorem runL_nth (l lots : List Int) (k : Nat) (h : k < l.length) : nth (runL l lots) k = hits l lots k := by simp [nth, runL, h]
theorem hits_nil (l : List Int) (k : Nat) : hits l [] k = 0 := rfl
theorem hits_app (l a b : List Int) (k : Nat) : hits l (a ++ b) k = hits l a k + hits l b k := by simp [hits]
theorem hits_one (l : List Int) (y : Int) (k : Nat) : hits l [y] k = if k = winL l y then 1 else 0 := by
  unfold hits
  rw [List.countP_singleton]
  by_cases h : k = winL l y
  · rw [if_pos h, if_pos (by simp [h])]
  · rw [if_neg h, if_neg (by simp; exact fun e => h e.symm)]
theorem hits_rev (l a : List Int) (k : Nat) : hits l a.reverse k = hits l a k := by simp [hits]
theorem hits_le (l a : List Int) (k : Nat) : hits l a k ≤ a.length := List.countP_le_length
theorem runL_nil (l : List Int) : runL l [] = List.replicate l.length 0 := by
  refine ext_nth (by rw [runL_len]; simp) (fun i hi => ?_)
  rw [runL_len] at hi
  rw [runL_nth _ _ _ hi, nth_rep _ _ _ hi]; rfl
theorem runL_snoc (l lots : List Int) (y : Int) (h : winL l y < l.length) : runL l (lots ++ [y]) = (runL l lots).set (winL l y) (nth (runL l lots) (winL l y) + 1) := by
  refine ext_nth (by simp [runL_len]) (fun i hi => ?_)
  rw [runL_len] at hi
  rw [nth_set _ _ _ _ (by rw [runL_len]; exact h), runL_nth _ _ _ hi, hits_app, hits_one]
  by_cases e : i = winL l y
  · subst e
    rw [if_pos rfl, if_pos rfl, runL_nth _ _ _ h]; simp
  · rw [if_neg e, if_neg e, runL_nth _ _ _ hi]; simp
theorem runL_rev (l a : List Int) : runL l a.reverse = runL l a := by
  unfold runL; congr 1; funext k; rw [hits_rev]
theorem pos_of {l : List Int} (h : TkOk l) : ∀ x ∈ l, 0 ≤ x := fun x hx => by
  obtain ⟨i, hi, e⟩ := List.getElem_of_mem hx
  have := (h.2 i hi).1
  unfold nth at this
  simp [hi] at this
  rw [← e]; exact this
theorem winL_mono : ∀ (l : List Int) (a b : Int), a ≤ b → winL l a ≤ winL l b
  | [], _, _, _ => Nat.le_refl _
  | x :: r, a, b, h => by
    rw [winL, winL]
    by_cases h1 : x ≤ a
    · rw [if_pos h1, if_pos (by omega)]; have := winL_mono r (a - x) (b - x) (by omega); omega
    · rw [if_neg h1]; omega
theorem winL_pos : ∀ (l : List Int) (lot : Int), 0 ≤ lot → lot < isum l → 0 < nth l (winL l lot)
  | [], lot, h, h2 => by simp [isum] at h2; omega
  | x :: r, lot, h, h2 => by
    rw [winL]; rw [isum] at h2
    by_cases hx : x ≤ lot
    · rw [if_pos hx]; have := winL_pos r (lot - x) (by omega) (by omega)
      simpa [nth] using this
    · rw [if_neg hx]; simp [nth]; omega
theorem hits_zero (l lots : List Int) (k : Nat) (hl : ∀ y ∈ lots, 0 ≤ y ∧ y < isum l) (h : nth l k = 0) : hits l lots k = 0 := by
  unfold hits
  rw [List.countP_eq_zero]
  intro y hy he
  have := winL_pos l y (hl y hy).1 (hl y hy).2
  rw [beq_iff_eq] at he
  rw [he] at this; omega
def rng (n : Nat) : List Int := (List.range n).map fun i : Nat => (i : Int)
theorem rng_len (n : Nat) : (rng n).length = n := by simp [rng]
theorem rng_succ (n : Nat) : rng (n + 1) = rng n ++ [(n : Int)] := by simp [rng, List.range_succ]
theorem rng_nth (n i : Nat) (h : i < n) : nth (rng n) i = i := by simp [nth, rng, h]
theorem rng_add (a b : Nat) : rng (a + b) = rng a ++ (rng b).map (fun y => (a : Int) + y) := by
  unfold rng
  rw [List.range_add, List.map_append, List.map_map, List.map_map]
  congr 1
theorem hits_rng : ∀ (l : List Int), (∀ x ∈ l, 0 ≤ x) → ∀ k, k < l.length → (hits l (rng (isum l).toNat) k : Int) = nth l k
  | [], _, k, h => by simp at h
  | x :: r, hp, k, hk => by
    have hx := hp x (by simp)
    have hr : ∀ y ∈ r, 0 ≤ y := fun y hy => hp y (by simp [hy])
    have hs : 0 ≤ isum r := by
      have : ∀ l : List Int, (∀ x ∈ l, 0 ≤ x) → 0 ≤ isum l := by
        intro l
        induction l with
        | nil => intro _; simp [isum]
        | cons a l ih => intro h; rw [isum]; have := h a (by simp); have := ih (fun x hx => h x (by simp [hx])); omega
      exact this r hr
    rw [isum, show (x + isum r).toNat = x.toNat + (isum r).toNat from by omega, rng_add, hits_app]
    have h1 : hits (x :: r) (rng x.toNat) k = if k = 0 then x.toNat else 0 := by
      unfold hits
      have : ∀ y ∈ rng x.toNat, winL (x :: r) y = 0 := by
        intro y hy
        simp only [rng, List.mem_map, List.mem_range] at hy
        obtain ⟨i, hi, rfl⟩ := hy
        rw [winL, if_neg (by omega)]
      rw [List.countP_congr (q := fun _ => decide (k = 0)) (fun y hy => by rw [this y hy]; by_cases e : k = 0 <;> simp [e]; omega)]
      by_cases e : k = 0
      · simp [e, rng_len]
      · simp [e]
    have h2 : hits (x :: r) ((rng (isum r).toNat).map (fun y => (x.toNat : Int) + y)) k = if k = 0 then 0 else hits r (rng (isum r).toNat) (k - 1) := by
      unfold hits
      rw [List.countP_map]
      have : ∀ y ∈ rng (isum r).toNat, winL (x :: r) ((x.toNat : Int) + y) = winL r y + 1 := by
        intro y hy
        simp only [rng, List.mem_map, List.mem_range] at hy
        obtain ⟨i, hi, rfl⟩ := hy
        rw [winL, if_pos (by omega)]; congr 2; omega
      by_cases e : k = 0
      · subst e
        rw [if_pos rfl, List.countP_eq_zero]
        intro y hy; simp only [Function.comp]; rw [this y hy]; simp
      · rw [if_neg e]
        apply List.countP_congr
        intro y hy; simp only [Function.comp]; rw [this y hy]; simp; omega
    rw [h1, h2]
    cases k with
    | zero => simp [nth]; omega
    | succ k =>
      have := hits_rng r hr k (by simpa using hk)
      rw [if_neg (by omega), if_neg (by omega)]
      simp only [Nat.add_sub_cancel, Nat.zero_add]
      rw [this]; simp [nth]
theorem runL_rng (l : List Int) (hp : TkOk l) : runL l (rng (isum l).toNat) = l := by
  refine ext_nth (runL_len _ _) (fun i hi => ?_)
  rw [runL_len] at hi
  rw [runL_nth _ _ _ hi, hits_rng l (pos_of hp) i hi]
theorem runL_bd (l lots : List Int) (k : Nat) (h : k < l.length) : 0 ≤ nth (runL l lots) k ∧ nth (runL l lots) k ≤ lots.length := by
  rw [runL_nth _ _ _ h]; have := hits_le l lots k; omega
theorem runL_cut (l lots : List Int) (j k : Nat) (h : k < l.length) : nth (runL l lots) k = nth (runL l (lots.take j)) k + nth (runL l (lots.drop j)) k := by
  rw [runL_nth _ _ _ h, runL_nth _ _ _ h, runL_nth _ _ _ h, ← Int.natCast_add, ← hits_app, List.take_append_drop]
theorem isum_160 (l : List Int) (hp : TkOk l) (h20 : ∀ j, j < l.length → nth l j ≤ 20) : 0 ≤ isum l ∧ isum l ≤ 160 := by
  have := isum_bd 20 l (fun k hk => ⟨(hp.2 k hk).1, h20 k hk⟩) l.length (Nat.le_refl _)
  rw [List.take_length] at this
  have := hp.1
  omega
end Go.Proofs.Ytfompfaepabpgaa
