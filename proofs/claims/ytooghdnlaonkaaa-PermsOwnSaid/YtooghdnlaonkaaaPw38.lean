/- Several of my texts in one: GlaM. -/
import Derived.Test.YtooghdnlaonkaaaPw37
/- Plain law of Glaisher: unlike numbers and odd numbers, with one sum. -/
namespace Go.Proofs.Ytooghdnlaonkaaa
open Go.RowKit

def spl : Nat → Nat → Nat → Nat × Nat
  | 0, x, n => (x, n)
  | f + 1, x, n => if x % 2 = 0 then spl f (x / 2) (2 * n) else (x, n)
def expI (x : Int) : List Int := List.replicate (spl 6 x.toNat 1).2 ((spl 6 x.toNat 1).1 : Int)
def oddRaw (l : List Int) : List Int := l.flatMap expI
def binL (x : Int) : Nat → Nat → Int → List Int
  | 0, _, _ => []
  | f + 1, n, y => if n = 0 then [] else (if n % 2 = 1 then [x * y] else []) ++ binL x f (n / 2) (2 * y)
def unlikeTo (o : List Int) (m : Nat) : List Int := (List.range m).flatMap fun (x : Nat) => binL (x : Int) 6 (o.count (x : Int)) 1
def desc (l : List Int) : List Int := l.mergeSort fun x y => decide (y ≤ x)
theorem binL_zero (x : Int) (f : Nat) (y : Int) : binL x f 0 y = [] := by cases f <;> simp [binL]
theorem tab1 : ∀ x, x < 41 → x % 2 = 1 → ∀ n, n < 41 → (binL (x : Nat) 6 n 1).flatMap expI = List.replicate n ((x : Nat) : Int) := by decide +kernel
theorem tab2 : ∀ x, x < 41 → x % 2 = 1 → ∀ n, n < 41 → (binL (x : Nat) 6 n 1).Nodup ∧ ∀ y ∈ binL (x : Nat) 6 n 1, 1 ≤ y ∧ (spl 6 y.toNat 1).1 = x := by decide +kernel
theorem tab3a' : ∀ x, x < 41 → x % 2 = 1 → ∀ n, n < 64 → (binL (x : Nat) 6 n 1).all (fun y => ((List.range 6).map fun b => (x : Int) * ((2 ^ b : Nat) : Int)).contains y) = true := by decide +kernel
theorem tab3a (x : Nat) (hx : x < 41) (ho : x % 2 = 1) (n : Nat) (hn : n < 64) : ∀ y ∈ binL (x : Nat) 6 n 1, y ∈ (List.range 6).map fun b => (x : Int) * ((2 ^ b : Nat) : Int) := fun y hy => by
  have := List.all_eq_true.1 (tab3a' x hx ho n hn) y hy
  exact List.contains_iff_mem.1 this
theorem tab3b : ∀ x, x < 41 → x % 2 = 1 → ∀ n, n < 64 → ∀ b, b < 6 → decide ((x : Int) * ((2 ^ b : Nat) : Int) ∈ binL (x : Nat) 6 n 1) = n.testBit b := by decide +kernel
theorem tab3 (x : Nat) (hx : x < 41) (ho : x % 2 = 1) (n : Nat) (hn : n < 64) : (∀ y ∈ binL (x : Nat) 6 n 1, y ∈ (List.range 6).map fun b => (x : Int) * ((2 ^ b : Nat) : Int)) ∧ ∀ b, b < 6 → ((x : Int) * ((2 ^ b : Nat) : Int) ∈ binL (x : Nat) 6 n 1 ↔ n.testBit b = true) :=
  ⟨tab3a x hx ho n hn, fun b hb => by rw [← tab3b x hx ho n hn b hb, decide_eq_true_eq]⟩
theorem tab4 : ∀ c, c < 64 → ∀ i, i < 6 → c.testBit i = false → c + 2 ^ i < 64 ∧ ∀ b, b < 6 → (c + 2 ^ i).testBit b = (decide (b = i) || c.testBit b) := by decide +kernel
theorem tab5 : ∀ y, y < 41 → 0 < y → (spl 6 y 1).1 < 41 ∧ (spl 6 y 1).1 % 2 = 1 ∧ (spl 6 y 1).1 * (spl 6 y 1).2 = y ∧ (spl 6 y 1).2 ∈ (List.range 6).map (fun i => 2 ^ i) := by decide +kernel
theorem tab6 : ∀ x, x < 41 → x % 2 = 1 → ∀ b, b < 6 → (spl 6 (x * 2 ^ b) 1) = (x, 2 ^ b) := by decide +kernel

/-- the list with its numbers counted -/
theorem count_all (o : List Int) (y : Int) : ∀ m : Nat, ((List.range m).flatMap fun (x : Nat) => List.replicate (o.count (x : Int)) (x : Int)).count y = if 0 ≤ y ∧ y < m then o.count y else 0
  | 0 => by simp; omega
  | m + 1 => by
    rw [List.range_succ, List.flatMap_append, List.count_append, count_all o y m]
    simp only [List.flatMap_cons, List.flatMap_nil, List.append_nil, List.count_replicate]
    by_cases h : (m : Int) = y
    · have hb : ((m : Int) == y) = true := by simpa using h
      simp only [hb, if_true]
      rw [if_neg (by omega), if_pos (by omega), ← h, Nat.zero_add]
    · have hb : ((m : Int) == y) = false := by simpa using h
      simp only [hb, Bool.false_eq_true, if_false, Nat.add_zero]
      by_cases h2 : 0 ≤ y ∧ y < m
      · rw [if_pos h2, if_pos (by omega)]
      · rw [if_neg h2, if_neg (by omega)]
structure Small (o : List Int) : Prop where
  mem : ∀ x ∈ o, 1 ≤ x ∧ x ≤ 40
  len : o.length ≤ 40
def AllOdd (o : List Int) : Prop := ∀ x ∈ o, x % 2 = 1
theorem cnt_even {o : List Int} (h : AllOdd o) (x : Nat) (hx : ¬ x % 2 = 1) : o.count (x : Int) = 0 := by
  rw [List.count_eq_zero]
  intro hm
  have := h _ hm; omega
theorem back_to {o : List Int} (h : Small o) (ho : AllOdd o) : ∀ m, m ≤ 41 → (unlikeTo o m).flatMap expI = (List.range m).flatMap fun (x : Nat) => List.replicate (o.count (x : Int)) (x : Int)
  | 0, _ => rfl
  | m + 1, hm => by
    unfold unlikeTo
    rw [List.range_succ, List.flatMap_append, List.flatMap_append, List.flatMap_append]
    have := back_to h ho m (by omega)
    unfold unlikeTo at this
    rw [this]
    congr 1
    simp only [List.flatMap_cons, List.flatMap_nil, List.append_nil]
    by_cases hx : m % 2 = 1
    · exact tab1 m (by omega) hx _ (by have := List.count_le_length (a := (m : Int)) (l := o); have := h.len; omega)
    · rw [cnt_even ho m hx, binL_zero]; rfl
/-- of the binary numbers of a list of odd numbers the list comes back -/
theorem back_perm {o : List Int} (h : Small o) (ho : AllOdd o) : (oddRaw (unlikeTo o 41)).Perm o := by
  unfold oddRaw
  rw [back_to h ho 41 (Nat.le_refl _), List.perm_iff_count]
  intro y
  rw [count_all]
  split
  · rfl
  · next hn =>
    refine (List.count_eq_zero.2 fun hm => ?_).symm
    have := h.mem y hm; omega
theorem unl_mem {o : List Int} (_ : Small o) (ho : AllOdd o) (y : Int) : ∀ m, m ≤ 41 → (y ∈ unlikeTo o m ↔ ∃ x, x < m ∧ x % 2 = 1 ∧ y ∈ binL (x : Nat) 6 (o.count (x : Int)) 1) := fun m hm => by
  unfold unlikeTo
  rw [List.mem_flatMap]
  constructor
  · rintro ⟨x, hx, hy⟩
    rw [List.mem_range] at hx
    refine ⟨x, hx, ?_, hy⟩
    apply Classical.byContradiction
    intro hn
    rw [cnt_even ho x hn, binL_zero] at hy
    simp at hy
  · rintro ⟨x, hx, _, hy⟩
    exact ⟨x, List.mem_range.2 hx, hy⟩
theorem unl_nodup {o : List Int} (h : Small o) (ho : AllOdd o) : ∀ m, m ≤ 41 → (unlikeTo o m).Nodup
  | 0, _ => by simp [unlikeTo]
  | m + 1, hm => by
    have ih := unl_nodup h ho m (by omega)
    have e : unlikeTo o (m + 1) = unlikeTo o m ++ binL (m : Int) 6 (o.count (m : Int)) 1 := by
      unfold unlikeTo
      rw [List.range_succ, List.flatMap_append]; simp
    have hc : o.count (m : Int) < 41 := by have := List.count_le_length (a := (m : Int)) (l := o); have := h.len; omega
    rw [e, List.nodup_append]
    by_cases hx : m % 2 = 1
    · obtain ⟨t1, t2⟩ := tab2 m (by omega) hx _ hc
      refine ⟨ih, t1, fun a ha b hb e => ?_⟩
      subst e
      obtain ⟨x, h1, h2, h3⟩ := (unl_mem h ho a m (by omega)).1 ha
      have hc' : o.count (x : Int) < 41 := by have := List.count_le_length (a := (x : Int)) (l := o); have := h.len; omega
      have := (tab2 x (by omega) h2 _ hc').2 a h3
      have := t2 a hb
      omega
    · rw [cnt_even ho m hx, binL_zero]
      refine ⟨ih, List.nodup_nil, fun a ha b hb => by simp at hb⟩
theorem unl_pos {o : List Int} (h : Small o) (ho : AllOdd o) : ∀ y ∈ unlikeTo o 41, 1 ≤ y := fun y hy => by
  obtain ⟨x, h1, h2, h3⟩ := (unl_mem h ho y 41 (Nat.le_refl _)).1 hy
  have hc' : o.count (x : Int) < 41 := by have := List.count_le_length (a := (x : Int)) (l := o); have := h.len; omega
  exact ((tab2 x (by omega) h2 _ hc').2 y h3).1
theorem cnt_exp (y : Int) (x : Nat) : (expI y).count (x : Int) = if (spl 6 y.toNat 1).1 = x then (spl 6 y.toNat 1).2 else 0 := by
  unfold expI
  rw [List.count_replicate]
  by_cases h : (spl 6 y.toNat 1).1 = x
  · rw [if_pos h]; simp [h]
  · rw [if_neg h, if_neg]; simp; omega
theorem cnt_bit (x : Nat) (hx : x < 41) (ho : x % 2 = 1) : ∀ l : List Int, l.Nodup → (∀ y ∈ l, 1 ≤ y ∧ y ≤ 40) → (oddRaw l).count (x : Int) < 64 ∧ ∀ b, b < 6 → ((oddRaw l).count (x : Int)).testBit b = decide ((x : Int) * ((2 ^ b : Nat) : Int) ∈ l)
  | [], _, _ => ⟨by simp [oddRaw], fun b _ => by simp [oddRaw]⟩
  | y :: l, hn, hm => by
    obtain ⟨h1, h2⟩ := cnt_bit x hx ho l (List.nodup_cons.1 hn).2 (fun z hz => hm z (List.mem_cons_of_mem _ hz))
    have hy := hm y List.mem_cons_self
    have hyl := (List.nodup_cons.1 hn).1
    have e : (oddRaw (y :: l)).count (x : Int) = (expI y).count (x : Int) + (oddRaw l).count (x : Int) := by
      unfold oddRaw; rw [List.flatMap_cons, List.count_append]
    obtain ⟨t1, t2, t3, t4⟩ := tab5 y.toNat (by omega) (by omega)
    rw [e, cnt_exp]
    by_cases hxy : (spl 6 y.toNat 1).1 = x
    · rw [if_pos hxy]
      obtain ⟨i, hi, h3⟩ := List.mem_map.1 t4
      rw [List.mem_range] at hi
      rw [← h3] at t3 ⊢
      rw [hxy] at t3
      have ey : (x : Int) * ((2 ^ i : Nat) : Int) = y := by
        have : ((x * 2 ^ i : Nat) : Int) = (y.toNat : Int) := by rw [t3]
        rw [Int.natCast_mul] at this; omega
      have hbit : ((oddRaw l).count (x : Int)).testBit i = false := by
        rw [h2 i hi, ey]; simpa using hyl
      obtain ⟨u1, u2⟩ := tab4 _ h1 i hi hbit
      rw [Nat.add_comm]
      refine ⟨u1, fun b hb => ?_⟩
      rw [u2 b hb, h2 b hb]
      by_cases hbi : b = i
      · subst hbi
        simp only [decide_true, Bool.true_or]
        exact (decide_eq_true (by rw [ey]; exact List.mem_cons_self)).symm
      · rw [decide_eq_false hbi, Bool.false_or]
        have hne : (x : Int) * ((2 ^ b : Nat) : Int) ≠ y := by
          intro h
          have := tab6 x hx ho b hb
          rw [show x * 2 ^ b = y.toNat from by rw [← h, ← Int.natCast_mul, Int.toNat_natCast], ← t3, tab6 x hx ho i hi] at this
          have h4 : 2 ^ i = 2 ^ b := (Prod.mk.inj this).2
          exact hbi ((Nat.pow_right_inj (by omega)).1 h4.symm)
        exact decide_eq_decide.2 ⟨fun h => List.mem_cons_of_mem _ h, fun h => (List.mem_cons.1 h).resolve_left hne⟩
    · rw [if_neg hxy, Nat.zero_add]
      refine ⟨h1, fun b hb => ?_⟩
      rw [h2 b hb]
      have hne : (x : Int) * ((2 ^ b : Nat) : Int) ≠ y := by
        intro h
        have := tab6 x hx ho b hb
        rw [show x * 2 ^ b = y.toNat from by rw [← h, ← Int.natCast_mul, Int.toNat_natCast]] at this
        rw [this] at hxy
        exact hxy rfl
      exact decide_eq_decide.2 ⟨fun h => List.mem_cons_of_mem _ h, fun h => (List.mem_cons.1 h).resolve_left hne⟩
theorem oddRaw_odd {l : List Int} (hm : ∀ y ∈ l, 1 ≤ y ∧ y ≤ 40) : ∀ x ∈ oddRaw l, (1 ≤ x ∧ x ≤ 40) ∧ x % 2 = 1 := fun x hx => by
  unfold oddRaw at hx
  obtain ⟨y, hy, h⟩ := List.mem_flatMap.1 hx
  unfold expI at h
  obtain ⟨_, rfl⟩ := List.mem_replicate.1 h
  have := hm y hy
  obtain ⟨t1, t2, t3, t4⟩ := tab5 y.toNat (by omega) (by omega)
  omega
/-- of a list of unlike numbers: odd ones, and back -/
theorem there_perm {l o : List Int} (hn : l.Nodup) (hm : ∀ y ∈ l, 1 ≤ y ∧ y ≤ 40) (hp : o.Perm (oddRaw l)) (hl : o.length ≤ 40) : (unlikeTo o 41).Perm l := by
  have hS : Small o := ⟨fun x hx => (oddRaw_odd hm x (hp.mem_iff.1 hx)).1, hl⟩
  have hO : AllOdd o := fun x hx => (oddRaw_odd hm x (hp.mem_iff.1 hx)).2
  rw [List.perm_ext_iff_of_nodup (unl_nodup hS hO 41 (Nat.le_refl _)) hn]
  intro y
  rw [unl_mem hS hO y 41 (Nat.le_refl _)]
  constructor
  · rintro ⟨x, h1, h2, h3⟩
    rw [hp.count_eq] at h3
    obtain ⟨c1, c2⟩ := cnt_bit x h1 h2 l hn hm
    obtain ⟨u1, u2⟩ := tab3 x h1 h2 _ c1
    obtain ⟨b, hb, rfl⟩ := List.mem_map.1 (u1 y h3)
    rw [List.mem_range] at hb
    rw [u2 b hb, c2 b hb, decide_eq_true_eq] at h3
    exact h3
  · intro hy
    have hyb := hm y hy
    obtain ⟨t1, t2, t3, t4⟩ := tab5 y.toNat (by omega) (by omega)
    refine ⟨_, t1, t2, ?_⟩
    rw [hp.count_eq]
    generalize (spl 6 y.toNat 1).1 = x at *
    obtain ⟨i, hi, h3⟩ := List.mem_map.1 t4
    rw [List.mem_range] at hi
    rw [← h3] at t3
    have ey : (x : Int) * ((2 ^ i : Nat) : Int) = y := by
      have : ((x * 2 ^ i : Nat) : Int) = (y.toNat : Int) := by rw [t3]
      rw [Int.natCast_mul] at this; omega
    obtain ⟨c1, c2⟩ := cnt_bit x t1 t2 l hn hm
    obtain ⟨u1, u2⟩ := tab3 x t1 t2 _ c1
    rw [← ey, u2 i hi, c2 i hi, ey]
    simpa using hy
/-! sums -/
theorem sum_perm {l m : List Int} (p : l.Perm m) : l.sum = m.sum := by
  induction p with
  | nil => rfl
  | cons x _ ih => rw [List.sum_cons, List.sum_cons, ih]
  | swap x y l => rw [List.sum_cons, List.sum_cons, List.sum_cons, List.sum_cons]; omega
  | trans _ _ ih1 ih2 => rw [ih1, ih2]
theorem sum_rep (n : Nat) (x : Int) : (List.replicate n x).sum = n * x := by
  induction n with
  | zero => simp
  | succ n ih => rw [List.replicate_succ, List.sum_cons, ih, Int.natCast_succ, Int.add_mul]; omega
theorem sum_exp (y : Int) (h1 : 1 ≤ y) (h2 : y ≤ 1280) : (expI y).sum = y := by
  have : ∀ y, y < 1281 → 0 < y → (spl 6 y 1).2 * (spl 6 y 1).1 = y := by decide +kernel
  have := this y.toNat (by omega) (by omega)
  unfold expI
  rw [sum_rep, ← Int.natCast_mul, this]; omega
theorem sum_odd : ∀ {l : List Int}, (∀ y ∈ l, 1 ≤ y ∧ y ≤ 1280) → (oddRaw l).sum = l.sum
  | [], _ => rfl
  | y :: l, h => by
    have ih := sum_odd (l := l) (fun z hz => h z (List.mem_cons_of_mem _ hz))
    have hy := h y List.mem_cons_self
    unfold oddRaw at ih ⊢
    rw [List.flatMap_cons, List.sum_append, ih, sum_exp y hy.1 hy.2, List.sum_cons]
theorem unl_bd {o : List Int} (h : Small o) (ho : AllOdd o) : ∀ y ∈ unlikeTo o 41, 1 ≤ y ∧ y ≤ 1280 := fun y hy => by
  refine ⟨unl_pos h ho y hy, ?_⟩
  obtain ⟨x, h1, h2, h3⟩ := (unl_mem h ho y 41 (Nat.le_refl _)).1 hy
  have hc' : o.count (x : Int) < 64 := by have := List.count_le_length (a := (x : Int)) (l := o); have := h.len; omega
  obtain ⟨b, hb, rfl⟩ := List.mem_map.1 ((tab3 x h1 h2 _ hc').1 y h3)
  rw [List.mem_range] at hb
  have : ∀ x, x < 41 → ∀ b, b < 6 → x * 2 ^ b ≤ 1280 := by decide
  have := this x h1 b hb
  rw [← Int.natCast_mul]; omega
theorem unl_sum {o : List Int} (h : Small o) (ho : AllOdd o) : (unlikeTo o 41).sum = o.sum := by
  rw [← sum_odd (unl_bd h ho)]; exact sum_perm (back_perm h ho)
/-! falling lists -/
theorem desc_perm (l : List Int) : (desc l).Perm l := List.mergeSort_perm l _
theorem desc_len (l : List Int) : (desc l).length = l.length := List.length_mergeSort l
theorem desc_pw (l : List Int) : (desc l).Pairwise fun x y => y ≤ x :=
  (List.pairwise_mergeSort (le := fun x y : Int => decide (y ≤ x)) (fun a b c h1 h2 => by simp at *; omega) (fun a b => by simp; omega) l).imp fun h => of_decide_eq_true h
theorem fall_uniq {l m : List Int} (p : l.Perm m) (h1 : l.Pairwise fun x y => y ≤ x) (h2 : m.Pairwise fun x y => y ≤ x) : l = m :=
  p.eq_of_pairwise (le := fun x y => y ≤ x) (fun a b _ _ h h' => by omega) h1 h2
theorem desc_nodup {l : List Int} (h : l.Nodup) : (desc l).Pairwise fun x y => y < x :=
  ((desc_pw l).and ((desc_perm l).nodup_iff.2 h)).imp fun h => by omega
theorem fall_nodup {l : List Int} (h : l.Pairwise fun x y => y < x) : l.Nodup := h.imp fun h => by omega
theorem oddRaw_perm {l m : List Int} (p : l.Perm m) : (oddRaw l).Perm (oddRaw m) := p.flatMap_right _
theorem unl_perm {l m : List Int} (p : l.Perm m) : unlikeTo l 41 = unlikeTo m 41 := by
  unfold unlikeTo
  congr 1
  funext x
  rw [p.count_eq]
theorem sum_ge_len : ∀ {l : List Int}, (∀ x ∈ l, 1 ≤ x) → (l.length : Int) ≤ l.sum
  | [], _ => by simp
  | x :: l, h => by
    have := sum_ge_len (l := l) (fun y hy => h y (List.mem_cons_of_mem _ hy))
    have := h x List.mem_cons_self
    rw [List.sum_cons, List.length_cons]; omega
theorem sum_ge_mem : ∀ {l : List Int}, (∀ x ∈ l, 1 ≤ x) → ∀ x ∈ l, x ≤ l.sum
  | [], _ => by simp
  | y :: l, h => fun x hx => by
    have h2 := sum_ge_len (l := l) (fun y hy => h y (List.mem_cons_of_mem _ hy))
    have := h y List.mem_cons_self
    rw [List.sum_cons]
    rcases List.mem_cons.1 hx with rfl | hx
    · omega
    · have := sum_ge_mem (l := l) (fun y hy => h y (List.mem_cons_of_mem _ hy)) x hx; omega
/-- the first direction: unlike numbers -/
theorem glaisher1 {l : List Int} (hm : ∀ y ∈ l, 1 ≤ y ∧ y ≤ 40) (hs : l.sum ≤ 40) (hf : l.Pairwise fun x y => y < x) :
    (∀ x ∈ desc (oddRaw l), (1 ≤ x ∧ x ≤ 40) ∧ x % 2 = 1) ∧ (desc (oddRaw l)).sum = l.sum ∧ (desc (oddRaw l)).length ≤ 40 ∧ desc (unlikeTo (desc (oddRaw l)) 41) = l := by
  have h1 : ∀ x ∈ desc (oddRaw l), (1 ≤ x ∧ x ≤ 40) ∧ x % 2 = 1 := fun x hx => oddRaw_odd hm x ((desc_perm _).mem_iff.1 hx)
  have h2 : (desc (oddRaw l)).sum = l.sum := by rw [sum_perm (desc_perm _), sum_odd (fun y hy => by have := hm y hy; omega)]
  have h3 := sum_ge_len (l := desc (oddRaw l)) (fun x hx => (h1 x hx).1.1)
  refine ⟨h1, h2, by omega, ?_⟩
  exact fall_uniq ((desc_perm _).trans (there_perm (fall_nodup hf) hm (desc_perm _) (by omega))) (desc_pw _) (hf.imp fun h => by omega)
/-- the other direction: odd numbers -/
theorem glaisher2 {o : List Int} (hm : ∀ y ∈ o, 1 ≤ y ∧ y ≤ 40) (ho : AllOdd o) (hs : o.sum ≤ 40) (hf : o.Pairwise fun x y => y ≤ x) :
    (∀ x ∈ desc (unlikeTo o 41), 1 ≤ x ∧ x ≤ 40) ∧ (desc (unlikeTo o 41)).sum = o.sum ∧ (desc (unlikeTo o 41)).length ≤ 40 ∧ ((desc (unlikeTo o 41)).Pairwise fun x y => y < x) ∧ desc (oddRaw (desc (unlikeTo o 41))) = o := by
  have h0 := sum_ge_len (l := o) (fun x hx => (hm x hx).1)
  have hS : Small o := ⟨hm, by omega⟩
  have h2 : (desc (unlikeTo o 41)).sum = o.sum := by rw [sum_perm (desc_perm _), unl_sum hS ho]
  have h1 : ∀ x ∈ desc (unlikeTo o 41), 1 ≤ x := fun x hx => (unl_bd hS ho x ((desc_perm _).mem_iff.1 hx)).1
  have h3 := sum_ge_len h1
  refine ⟨fun x hx => ⟨h1 x hx, by have := sum_ge_mem h1 x hx; omega⟩, h2, by omega, desc_nodup (unl_nodup hS ho 41 (Nat.le_refl _)), ?_⟩
  exact fall_uniq ((desc_perm _).trans ((oddRaw_perm (desc_perm _)).trans (back_perm hS ho))) (desc_pw _) hf
end Go.Proofs.Ytooghdnlaonkaaa
