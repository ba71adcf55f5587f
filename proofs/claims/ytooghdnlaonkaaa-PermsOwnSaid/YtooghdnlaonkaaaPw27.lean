/- Several of my texts in one: CycM2. -/
import Derived.Test.YtooghdnlaonkaaaPw25
import Derived.Test.YtooghdnlaonkaaaPw26
/- Plain law of perm.Cycles: what its loops keep. -/
namespace Go.Proofs.Ytooghdnlaonkaaa
open Go.RowKit

open Classical in
/-- none of its turn is less -/
noncomputable def isMinB (p : List Int) (j : Nat) : Bool := decide (∀ t, j ≤ itP p t j)
noncomputable def cntMin (p : List Int) (i : Nat) : Nat := (List.range i).countP (isMinB p)
theorem cntMin_succ (p : List Int) (i : Nat) : cntMin p (i + 1) = cntMin p i + if isMinB p i = true then 1 else 0 := by
  unfold cntMin; rw [List.range_succ, List.countP_append]; simp [List.countP_cons]
structure OutI (p : List Int) (i : Nat) (S : Nat → Bool) (out : List Nat) : Prop where
  fwd : ∀ v, v < p.length → S v = true → S (pf p v) = true
  bwd : ∀ v, v < p.length → S (pf p v) = true → S v = true
  all : ∀ j, j < i → S j = true
  from_ : ∀ v, v < p.length → S v = true → ∃ j, j < i ∧ ∃ t, itP p t j = v
  sum : ∀ g : Nat → Nat, (out.map fun x => x * g x).sum = sumN (fun v => if S v = true then g (ol p v) else 0) p.length
  pos : ∀ x ∈ out, 1 ≤ x ∧ x ≤ p.length
  cnt : out.length = cntMin p i
  le : out.length ≤ i
theorem OutI.zero (p : List Int) : OutI p 0 (fun _ => false) [] :=
  ⟨fun _ _ h => by simp at h, fun _ _ h => by simp at h, fun j h => by omega, fun _ _ h => by simp at h, fun g => by simp [sumN_zero], by simp, by simp [cntMin], by simp⟩
section
variable {p : List Int} (h : IsP p) {i : Nat} {S : Nat → Bool} {out : List Nat} (hi : i < p.length) (H : OutI p i S out)
include h hi H
omit hi in
theorem OutI.fwdN {v : Nat} (hv : v < p.length) (hS : S v = true) : ∀ t, S (itP p t v) = true
  | 0 => hS
  | t + 1 => H.fwd _ (itP_lt h hv t) (OutI.fwdN hv hS t)
omit hi in
theorem OutI.bwdN {v : Nat} (hv : v < p.length) : ∀ t, S (itP p t v) = true → S v = true
  | 0, hS => hS
  | t + 1, hS => OutI.bwdN hv t (H.bwd _ (itP_lt h hv t) hS)
theorem OutI.min : isMinB p i = !S i := by
  unfold isMinB
  cases hS : S i with
  | true =>
    obtain ⟨j, hj, t, e⟩ := H.from_ i hi hS
    simp only [Bool.not_true, decide_eq_false_iff_not]
    intro hall
    -- from j to i in t; back from i to j
    have hjl : j < p.length := by omega
    have hb := itP_mul h hjl t
    have o1 := (ol_spec h hjl).1
    have : itP p (t * ol p j - t) i = j := by
      rw [← e, ← itP_add]
      have : t * ol p j - t + t = t * ol p j := Nat.sub_add_cancel (Nat.le_mul_of_pos_right t o1)
      rw [this]; exact hb
    have := hall (t * ol p j - t)
    omega
  | false =>
    simp only [Bool.not_false, decide_eq_true_eq]
    intro t
    rcases Nat.lt_or_ge (itP p t i) i with h1 | h1
    · have h2 := H.all _ h1
      have := OutI.bwdN h H hi t h2
      rw [hS] at this; cases this
    · exact h1
/-- a place that was come to -/
theorem OutI.skip (hS : S i = true) : OutI p (i + 1) S out := by
  have hm := OutI.min h hi H
  refine ⟨H.fwd, H.bwd, fun j hj => ?_, fun v hv hs => ?_, H.sum, H.pos, ?_, by have := H.le; omega⟩
  · by_cases e : j = i
    · rw [e]; exact hS
    · exact H.all j (by omega)
  · obtain ⟨j, hj, e⟩ := H.from_ v hv hs; exact ⟨j, by omega, e⟩
  · rw [cntMin_succ, hm, hS, H.cnt]; simp
end
/-- within a turn, m places on -/
def Sm (p : List Int) (i : Nat) (S : Nat → Bool) (m : Nat) : Nat → Bool := fun v => S v || (List.range m).any (fun t => itP p t i == v)
theorem Sm_zero (p : List Int) (i : Nat) (S : Nat → Bool) : Sm p i S 0 = S := by funext v; simp [Sm]
theorem Sm_true {p : List Int} {i : Nat} {S : Nat → Bool} {m v : Nat} : Sm p i S m v = true ↔ S v = true ∨ ∃ t, t < m ∧ itP p t i = v := by
  unfold Sm
  rw [Bool.or_eq_true, List.any_eq_true]
  simp only [List.mem_range, beq_iff_eq]
theorem Sm_succ (p : List Int) (i : Nat) (S : Nat → Bool) (m : Nat) : (fun v => if v = itP p m i then true else Sm p i S m v) = Sm p i S (m + 1) := by
  funext v
  rw [Bool.eq_iff_iff, Sm_true]
  by_cases e : v = itP p m i
  · rw [if_pos e]; exact ⟨fun _ => .inr ⟨m, by omega, e.symm⟩, fun _ => rfl⟩
  · rw [if_neg e, Sm_true]
    constructor
    · rintro (h | ⟨t, ht, h⟩)
      · exact .inl h
      · exact .inr ⟨t, by omega, h⟩
    · rintro (h | ⟨t, ht, h⟩)
      · exact .inl h
      · by_cases e2 : t = m
        · subst e2; exact absurd h.symm e
        · exact .inr ⟨t, by omega, h⟩
section
variable {p : List Int} (h : IsP p) {i : Nat} {S : Nat → Bool} {out : List Nat} (hi : i < p.length) (H : OutI p i S out) (hS : S i = false)
include h hi H hS
/-- not yet back -/
theorem OutI.new {m : Nat} (hm : m < ol p i) : Sm p i S m (itP p m i) = false := by
  cases hc : Sm p i S m (itP p m i) with
  | false => rfl
  | true =>
    exfalso
    rcases Sm_true.1 hc with h1 | ⟨t, ht, e⟩
    · have := OutI.bwdN h H hi m h1; rw [hS] at this; cases this
    · exact itP_ne h hi ht hm e
omit H hS in
theorem Sm_back : Sm p i S (ol p i) (itP p (ol p i) i) = true := by
  obtain ⟨o1, _, o3, _⟩ := ol_spec h hi
  exact Sm_true.2 (.inr ⟨0, by omega, by rw [o3]; rfl⟩)
theorem Sm_sum (g : Nat → Nat) : ∀ m, m ≤ ol p i → sumN (fun v => if Sm p i S m v = true then g (ol p v) else 0) p.length = sumN (fun v => if S v = true then g (ol p v) else 0) p.length + m * g (ol p i)
  | 0, _ => by rw [Sm_zero]; omega
  | m + 1, hm => by
    have ih := Sm_sum g m (by omega)
    have hk := itP_lt h hi m
    have hn := OutI.new h hi H hS (m := m) (by omega)
    have := sumN_upd (fun v => if Sm p i S m v = true then g (ol p v) else 0) (itP p m i) (g (ol p i)) p.length hk
    simp only [hn, Bool.false_eq_true, if_false] at this
    have e : sumN (fun v => if Sm p i S (m + 1) v = true then g (ol p v) else 0) p.length = sumN (fun v => if v = itP p m i then g (ol p i) else if Sm p i S m v = true then g (ol p v) else 0) p.length := by
      refine sumN_congr _ fun v _ => ?_
      rw [← Sm_succ]
      by_cases e : v = itP p m i
      · simp only [e, if_true]; rw [ol_it h hi]
      · simp only [if_neg e]
    rw [e, Nat.add_mul, Nat.one_mul]
    omega
theorem OutI.turn : OutI p (i + 1) (Sm p i S (ol p i)) (out ++ [ol p i]) := by
  obtain ⟨o1, o2, o3, o4⟩ := ol_spec h hi
  have hmn := OutI.min h hi H
  refine ⟨fun v hv hs => ?_, fun v hv hs => ?_, fun j hj => ?_, fun v hv hs => ?_, fun g => ?_, fun x hx => ?_, ?_, ?_⟩
  · rcases Sm_true.1 hs with h1 | ⟨t, ht, rfl⟩
    · exact Sm_true.2 (.inl (H.fwd v hv h1))
    · refine Sm_true.2 (.inr ?_)
      by_cases e : t + 1 = ol p i
      · exact ⟨0, by omega, by rw [show pf p (itP p t i) = itP p (t + 1) i from rfl, e, o3]; rfl⟩
      · exact ⟨t + 1, by omega, rfl⟩
  · rcases Sm_true.1 hs with h1 | ⟨t, ht, e⟩
    · exact Sm_true.2 (.inl (H.bwd v hv h1))
    · refine Sm_true.2 (.inr ?_)
      rcases t with _ | t
      · refine ⟨ol p i - 1, by omega, pf_inj h (itP_lt h hi _) hv ?_⟩
        rw [← e, show pf p (itP p (ol p i - 1) i) = itP p (ol p i - 1 + 1) i from rfl, show ol p i - 1 + 1 = ol p i by omega, o3]; rfl
      · exact ⟨t, by omega, pf_inj h (itP_lt h hi _) hv e⟩
  · by_cases e : j = i
    · subst e; exact Sm_true.2 (.inr ⟨0, by omega, rfl⟩)
    · exact Sm_true.2 (.inl (H.all j (by omega)))
  · rcases Sm_true.1 hs with h1 | ⟨t, ht, e⟩
    · obtain ⟨j, hj, e⟩ := H.from_ v hv h1; exact ⟨j, by omega, e⟩
    · exact ⟨i, by omega, t, e⟩
  · rw [Sm_sum h hi H hS g (ol p i) (Nat.le_refl _), List.map_append, List.sum_append, H.sum g]; simp
  · rcases List.mem_append.1 hx with hx | hx
    · exact H.pos x hx
    · rw [List.mem_singleton.1 hx]; exact ⟨o1, o2⟩
  · rw [List.length_append, cntMin_succ, hmn, hS, H.cnt]; simp
  · rw [List.length_append]; have := H.le; simp; omega
end
/-- what perm.Cycles has found -/
structure CycOk (p : List Int) (out : List Nat) : Prop where
  sum : ∀ g : Nat → Nat, (out.map fun x => x * g x).sum = sumN (fun v => g (ol p v)) p.length
  pos : ∀ x ∈ out, 1 ≤ x ∧ x ≤ p.length
  cnt : out.length = cntMin p p.length
  le : out.length ≤ p.length
theorem OutI.ok {p : List Int} {S : Nat → Bool} {out : List Nat} (H : OutI p p.length S out) : CycOk p out :=
  ⟨fun g => by rw [H.sum g]; exact sumN_congr _ fun v hv => by rw [if_pos (H.all v hv)], H.pos, H.cnt, H.le⟩
def natI (l : List Nat) : List Int := l.map fun x : Nat => (x : Int)
theorem natI_len (l : List Nat) : (natI l).length = l.length := by simp [natI]
def cycL (out : List Nat) : List Int := insSd (natI out) (natI out).length
theorem cycL_perm (out : List Nat) : (natI out).Perm (cycL out) := insSd_perm _ _ (Nat.le_refl _)
theorem cycL_len (out : List Nat) : (cycL out).length = out.length := by rw [← (cycL_perm out).length_eq, natI_len]
theorem sum_pick (d : Nat) : ∀ out : List Nat, (out.map fun x => x * (if x = d then 1 else 0)).sum = d * out.count d
  | [] => by simp
  | x :: out => by
    rw [List.map_cons, List.sum_cons, sum_pick d out, List.count_cons]
    by_cases e : x = d
    · subst e; simp [Nat.mul_add]; omega
    · rw [if_neg e]; simp [e]
/-- two orders whose ways back are as long, as often -/
theorem cycL_eq {p q : List Int} {o1 o2 : List Nat} (h1 : CycOk p o1) (h2 : CycOk q o2) (he : ∀ g : Nat → Nat, sumN (fun v => g (ol p v)) p.length = sumN (fun v => g (ol q v)) q.length) : cycL o1 = cycL o2 := by
  refine insSd_eq (List.Perm.map _ (List.perm_iff_count.2 fun d => ?_))
  rcases Nat.eq_zero_or_pos d with hd | hd
  · subst hd
    rw [List.count_eq_zero.2 (fun hx => by have := h1.pos 0 hx; omega), List.count_eq_zero.2 (fun hx => by have := h2.pos 0 hx; omega)]
  · have e1 := h1.sum (fun x => if x = d then 1 else 0)
    have e2 := h2.sum (fun x => if x = d then 1 else 0)
    rw [sum_pick] at e1 e2
    have := he (fun x => if x = d then 1 else 0)
    rw [← e1, ← e2] at this
    exact Nat.eq_of_mul_eq_mul_left hd this
/-! the seen ones, as the cells of an array -/
def snB (S : Nat → Bool) : List Value := (List.range 10).map fun v => Value.bool (S v)
theorem snB_len (S : Nat → Bool) : (snB S).length = 10 := by simp [snB]
theorem snB_get (S : Nat → Bool) (v : Nat) (h : v < 10) : (snB S)[v]? = some (.bool (S v)) := by simp [snB, h]
theorem snB_set (S : Nat → Bool) (k : Nat) (hk : k < 10) : (snB S).set k (.bool true) = snB (fun v => if v = k then true else S v) := by
  refine List.ext_getElem? fun i => ?_
  rw [List.getElem?_set, snB_len]
  by_cases e : k = i
  · subst e; rw [if_pos rfl, if_pos hk, snB_get _ _ hk, if_pos rfl]
  · rw [if_neg e]
    by_cases hi : i < 10
    · rw [snB_get _ _ hi, snB_get _ _ hi, if_neg (fun e' => e e'.symm)]
    · rw [List.getElem?_eq_none (by rw [snB_len]; omega), List.getElem?_eq_none (by rw [snB_len]; omega)]
end Go.Proofs.Ytooghdnlaonkaaa
