/- Several of my texts in one: PartM2. -/
import Derived.Test.YtooghdnlaonkaaaPw23
/- Plain laws of sums, turned (Ferrers, Sylvester). -/
namespace Go.Proofs.Ytooghdnlaonkaaa
open Go.RowKit

theorem nth_out (l : List Int) (j : Nat) (h : l.length ≤ j) : nth l j = 0 := by unfold nth; rw [List.getD_eq_getElem?_getD, List.getElem?_eq_none h]; rfl
theorem pad_nth (P : List Int) (n j : Nat) : nth (pad n P) j = nth P j := by
  unfold pad
  by_cases h : j < P.length
  · unfold nth; rw [List.getD_eq_getElem?_getD, List.getElem?_append_left h, ← List.getD_eq_getElem?_getD]
  · rw [nth_out P j (by omega)]
    unfold nth
    rw [List.getD_eq_getElem?_getD, List.getElem?_append_right (by omega), List.getElem?_replicate]
    split <;> rfl
theorem step_len (P : List Int) (x : Int) : (turnStep P x).length = max P.length x.toNat := by unfold turnStep; rw [incr_len, pad_len]
theorem step_nth (P : List Int) (x : Int) (j : Nat) : nth (turnStep P x) j = nth P j + if j < x.toNat then 1 else 0 := by
  by_cases h : j < (turnStep P x).length
  · have h2 := h
    unfold turnStep at h2 ⊢
    rw [incr_len] at h2
    rw [incr_nth _ _ _ h2, pad_nth]
  · rw [nth_out _ _ (by omega)]
    rw [step_len] at h
    rw [nth_out P j (by omega), if_neg (by omega)]; rfl
theorem foldl_add : ∀ (l : List Int) (s : Int), l.foldl (· + ·) s = s + l.foldl (· + ·) 0
  | [], s => by simp
  | x :: l, s => by
    rw [List.foldl_cons, List.foldl_cons, foldl_add l (s + x), foldl_add l (0 + x)]; omega
theorem sumI_cons (x : Int) (l : List Int) : sumI (x :: l) = x + sumI l := by
  unfold sumI
  rw [List.foldl_cons, foldl_add]; omega
theorem sumI_app : ∀ (l m : List Int), sumI (l ++ m) = sumI l + sumI m
  | [], m => by simp [sumI]
  | x :: l, m => by rw [List.cons_append, sumI_cons, sumI_cons, sumI_app l m]; omega
theorem sumI_set : ∀ (l : List Int) (k : Nat) (v : Int), k < l.length → sumI (l.set k v) = sumI l - nth l k + v
  | [], _, _, h => by simp at h
  | x :: r, 0, v, _ => by rw [List.set_cons_zero, sumI_cons, sumI_cons]; simp [nth]; omega
  | x :: r, k + 1, v, h => by
    have := sumI_set r k v (by simpa using h)
    rw [List.set_cons_succ, sumI_cons, sumI_cons, this]
    have e : nth (x :: r) (k + 1) = nth r k := by simp [nth]
    rw [e]; omega
theorem sumI_rep : ∀ n : Nat, sumI (List.replicate n 0) = 0
  | 0 => rfl
  | n + 1 => by rw [List.replicate_succ, sumI_cons, sumI_rep n]; rfl
theorem sumI_incr (P : List Int) : ∀ k, k ≤ P.length → sumI (incr k P) = sumI P + k
  | 0, _ => by rw [incr_zero]; simp
  | k + 1, h => by
    rw [← incr_succ k P (by omega), sumI_set _ _ _ (by rw [incr_len]; omega), incr_nth _ _ _ (by omega), if_neg (by omega), sumI_incr P k (by omega)]; omega
theorem sumI_step (P : List Int) (x : Int) (h : 0 ≤ x) : sumI (turnStep P x) = sumI P + x := by
  unfold turnStep
  rw [sumI_incr _ _ (by rw [pad_len]; omega)]
  unfold pad
  rw [sumI_app, sumI_rep]; omega
theorem sumI_perm {l m : List Int} (p : l.Perm m) : sumI l = sumI m := by
  induction p with
  | nil => rfl
  | cons x _ ih => rw [sumI_cons, sumI_cons, ih]
  | swap x y l => rw [sumI_cons, sumI_cons, sumI_cons, sumI_cons]; omega
  | trans _ _ ih1 ih2 => rw [ih1, ih2]
theorem sumI_nn : ∀ (l : List Int), (∀ x ∈ l, 0 ≤ x) → 0 ≤ sumI l
  | [], _ => by simp [sumI]
  | x :: l, h => by
    have := sumI_nn l (fun y hy => h y (by simp [hy]))
    have := h x (by simp)
    rw [sumI_cons]; omega
theorem sumI_ge1 : ∀ (l : List Int), (∀ x ∈ l, 1 ≤ x) → (l.length : Int) ≤ sumI l
  | [], _ => by simp [sumI]
  | x :: l, h => by
    have := sumI_ge1 l (fun y hy => h y (by simp [hy]))
    have := h x (by simp)
    rw [sumI_cons, List.length_cons]; omega
/-- a falling list of small numbers that are not too many is a right sum -/
theorem partOk_of {l : List Int} (h1 : ∀ x ∈ l, 1 ≤ x ∧ x ≤ 40) (hd : ∀ i, i + 1 < l.length → nth l (i + 1) ≤ nth l i) (hs : sumI l ≤ 40) : PartOk l := fun k hk => by
  have hx := h1 _ (nth_mem l k hk)
  have e : l = l.take k ++ ([nth l k] ++ l.drop (k + 1)) := by
    rw [show [nth l k] ++ l.drop (k + 1) = l.drop k from by rw [List.drop_eq_getElem_cons hk]; simp [nth, hk], List.take_append_drop]
  have es : sumI l = sumI (l.take k) + (nth l k + sumI (l.drop (k + 1))) := by
    conv => lhs; rw [e]
    rw [sumI_app, sumI_app]; simp [sumI]
  have hn := sumI_nn (l.drop (k + 1)) (fun x hx => by have := h1 x (List.mem_of_mem_drop hx); omega)
  have hg := sumI_ge1 (l.take k) (fun x hx => (h1 x (List.mem_of_mem_take hx)).1)
  rw [List.length_take] at hg
  refine ⟨hx.1, hx.2, fun h0 => ?_, by omega, by omega⟩
  have := hd (k - 1) (by omega)
  rwa [show k - 1 + 1 = k from by omega] at this
def cG (l : List Int) (j : Nat) : Nat := l.countP (fun x => decide ((j : Int) < x))
theorem cG_snoc (l : List Int) (x : Int) (j : Nat) : cG (l ++ [x]) j = cG l j + if (j : Int) < x then 1 else 0 := by
  unfold cG
  rw [List.countP_append, List.countP_singleton]; by_cases h : (j : Int) < x <;> simp [h]
theorem trn_take (l : List Int) (h0 : ∀ i, i < l.length → 0 ≤ nth l i) : ∀ k, k ≤ l.length → (∀ j, nth (trn (l.take k)) j = (cG (l.take k) j : Nat)) ∧ (∀ j, j < (trn (l.take k)).length ↔ ∃ i, i < k ∧ (j : Int) < nth l i) ∧ sumI (trn (l.take k)) = sumI (l.take k)
  | 0, _ => ⟨fun j => by simp [trn, cG, nth], fun j => by simp [trn], rfl⟩
  | k + 1, hk => by
    obtain ⟨h1, h2, h3⟩ := trn_take l h0 k (by omega)
    have hx := h0 k (by omega)
    rw [take_nth l k (by omega), trn_snoc]
    refine ⟨fun j => ?_, fun j => ?_, ?_⟩
    · rw [step_nth, h1, cG_snoc]
      by_cases e : (j : Int) < nth l k
      · rw [if_pos e, if_pos (by omega)]; omega
      · rw [if_neg e, if_neg (by omega)]; omega
    · rw [step_len]
      constructor
      · intro h
        by_cases e : j < (trn (l.take k)).length
        · obtain ⟨i, hi, hj⟩ := (h2 j).1 e
          exact ⟨i, by omega, hj⟩
        · exact ⟨k, by omega, by omega⟩
      · rintro ⟨i, hi, hj⟩
        by_cases e : i = k
        · subst e; omega
        · have := (h2 j).2 ⟨i, by omega, hj⟩; omega
    · rw [sumI_snoc, ← h3, sumI_step _ _ hx]

theorem part_desc {l : List Int} (h : PartOk l) : ∀ d i, i + d < l.length → nth l (i + d) ≤ nth l i
  | 0, _, _ => Int.le_refl _
  | d + 1, i, hi => by
    have h1 := part_desc h d i (by omega)
    have h2 := (h (i + (d + 1)) hi).2.2.1 (by omega)
    rw [show i + (d + 1) - 1 = i + d from by omega] at h2
    omega
theorem part_desc' {l : List Int} (h : PartOk l) {i j : Nat} (hij : i ≤ j) (hj : j < l.length) : nth l j ≤ nth l i := by
  have := part_desc h (j - i) i (by omega)
  rwa [show i + (j - i) = j from by omega] at this
/-- how many are greater than j, told by the place -/
theorem cG_place {l : List Int} (h : PartOk l) (i j : Nat) (hi : i < l.length) : (i < cG l j) ↔ (j : Int) < nth l i := by
  have e : cG l j = cG (l.take i) j + cG (l.drop i) j := by unfold cG; rw [← List.countP_append, List.take_append_drop]
  constructor
  · intro hlt
    refine Int.not_le.1 (fun hle => ?_)
    have h1 : cG (l.take i) j ≤ i := by
      unfold cG
      have : (l.take i).countP (fun x => decide ((j : Int) < x)) ≤ (l.take i).length := List.countP_le_length
      rw [List.length_take] at this; omega
    have h2 : cG (l.drop i) j = 0 := by
      unfold cG
      rw [List.countP_eq_zero]
      intro x hx
      obtain ⟨k, hk, rfl⟩ := List.getElem_of_mem hx
      rw [List.length_drop] at hk
      rw [List.getElem_drop]
      have := part_desc' h (show i ≤ i + k by omega) (by omega)
      have e2 : nth l (i + k) = l[i + k] := by simp [nth, show i + k < l.length by omega]
      rw [e2] at this
      simp; omega
    omega
  · intro hlt
    have h1 : cG (l.take (i + 1)) j = i + 1 := by
      unfold cG
      have : (l.take (i + 1)).countP (fun x => decide ((j : Int) < x)) = (l.take (i + 1)).length := by
        rw [List.countP_eq_length]
        intro x hx
        obtain ⟨k, hk, rfl⟩ := List.getElem_of_mem hx
        rw [List.length_take] at hk
        rw [List.getElem_take]
        have := part_desc' h (show k ≤ i by omega) hi
        have e2 : nth l k = l[k] := by simp [nth, show k < l.length by omega]
        rw [e2] at this
        simp; omega
      rw [this, List.length_take]; omega
    have e3 : cG l j = cG (l.take (i + 1)) j + cG (l.drop (i + 1)) j := by unfold cG; rw [← List.countP_append, List.take_append_drop]
    omega
theorem trn_said {l : List Int} (h : PartOk l) : (∀ j, nth (trn l) j = (cG l j : Nat)) ∧ (trn l).length = (nth l 0).toNat ∧ sumI (trn l) = sumI l := by
  obtain ⟨h1, h2, h3⟩ := trn_take l (fun i hi => by have := (h i hi).1; omega) l.length (Nat.le_refl _)
  rw [List.take_length] at h1 h2 h3
  refine ⟨h1, ?_, h3⟩
  have hiff : ∀ j, j < (trn l).length ↔ j < (nth l 0).toNat := fun j => by
    rw [h2]
    constructor
    · rintro ⟨i, hi, hj⟩
      have := part_desc' h (Nat.zero_le i) hi; omega
    · intro hj
      refine ⟨0, ?_, by omega⟩
      rcases Nat.eq_zero_or_pos l.length with h0 | h0
      · rw [nth_out l 0 (by omega)] at hj; simp at hj
      · exact h0
  have a := hiff (trn l).length
  have b := hiff (nth l 0).toNat
  omega
theorem cG_le (l : List Int) (j : Nat) : cG l j ≤ l.length := List.countP_le_length
theorem trn_ok {l : List Int} (h : PartOk l) (hs : sumI l ≤ 40) : PartOk (trn l) := by
  obtain ⟨h1, h2, h3⟩ := trn_said h
  have hl := h.len
  refine partOk_of (fun x hx => ?_) (fun i hi => ?_) (by omega)
  · obtain ⟨j, hj, rfl⟩ := List.getElem_of_mem hx
    have e : nth (trn l) j = (trn l)[j] := by simp [nth, hj]
    rw [← e, h1]
    have hpos : 0 < l.length := by
      rcases Nat.eq_zero_or_pos l.length with h0 | h0
      · rw [nth_out l 0 (by omega)] at h2; rw [h2] at hj; simp at hj
      · exact h0
    have := (cG_place h 0 j hpos).2 (by omega)
    have := cG_le l j
    omega
  · rw [h1, h1]
    have : cG l (i + 1) ≤ cG l i := by
      unfold cG
      exact List.countP_mono_left (fun x _ h => by simp at h ⊢; omega)
    omega
theorem count_range (m : Nat) : ∀ L, (List.range L).countP (fun j => decide (j < m)) = min L m
  | 0 => by simp
  | L + 1 => by
    rw [List.range_succ, List.countP_append, count_range m L, List.countP_singleton]
    by_cases h : L < m
    · simp [h]; omega
    · simp [h]; omega
/-- turned twice it is what it was -/
theorem trn_trn {l : List Int} (h : PartOk l) (hs : sumI l ≤ 40) : trn (trn l) = l := by
  obtain ⟨h1, h2, h3⟩ := trn_said h
  obtain ⟨g1, g2, g3⟩ := trn_said (trn_ok h hs)
  have hT : trn l = (List.range (nth l 0).toNat).map (fun j => (cG l j : Int)) := by
    clear g2
    generalize (nth l 0).toNat = m at h2 ⊢
    exact ext_nth (by simp [h2]) (fun j hj => by
      rw [h2] at hj
      rw [h1]; simp [nth, hj])
  refine ext_nth ?_ (fun i hi => ?_)
  · rw [g2, h1]
    rcases Nat.eq_zero_or_pos l.length with h0 | h0
    · have := cG_le l 0; omega
    · have hc : cG l 0 = l.length := by
        unfold cG
        rw [List.countP_eq_length]
        intro x hx
        obtain ⟨k, hk, rfl⟩ := List.getElem_of_mem hx
        have := (h k hk).1
        have e2 : nth l k = l[k] := by simp [nth, hk]
        rw [e2] at this
        simp; omega
      omega
  · rw [g1]
    have hil : i < l.length := by
      have hlen : (trn (trn l)).length ≤ l.length := by rw [g2, h1]; have := cG_le l 0; omega
      omega
    have hx := (h i hil).1
    have hm := part_desc' h (Nat.zero_le i) hil
    have : cG (trn l) i = (nth l i).toNat := by
      unfold cG
      rw [hT, List.countP_map]
      have e : ((fun x => decide ((i : Int) < x)) ∘ fun j => ((cG l j : Nat) : Int)) = fun j => decide (j < (nth l i).toNat) := by
        funext j
        have := cG_place h i j hil
        simp only [Function.comp]
        rw [Bool.eq_iff_iff, decide_eq_true_eq, decide_eq_true_eq]
        constructor
        · intro hh; have := this.1 (by omega); omega
        · intro hh; have := this.2 (by omega); omega
      rw [e, count_range]; omega
    rw [this]; omega
end Go.Proofs.Ytooghdnlaonkaaa
