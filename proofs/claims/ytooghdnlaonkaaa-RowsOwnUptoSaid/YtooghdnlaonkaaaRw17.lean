/- Several of my texts in one: CycM. -/
import Derived.Test.YtooghdnlaonkaaaRw16
import Derived.Test.YtooghdnlaonkaaaRw11
/- Plain laws of orders: how long the way back is; sums over all; cycles. -/
namespace Go.Proofs.Ytooghdnlaonkaaa
open Go.RowKit

def pf (p : List Int) (i : Nat) : Nat := (nth p i).toNat
theorem pf_lt {p : List Int} (h : IsP p) {i : Nat} (hi : i < p.length) : pf p i < p.length := (h.at i hi).1
theorem pf_inj {p : List Int} (h : IsP p) {i j : Nat} (hi : i < p.length) (hj : j < p.length) (e : pf p i = pf p j) : i = j := by
  have h1 := h.at i hi; have h2 := h.at j hj
  unfold pf at e
  exact h.inj i j hi hj (by omega)
def itP (p : List Int) : Nat → Nat → Nat
  | 0, i => i
  | m + 1, i => pf p (itP p m i)
theorem itP_lt {p : List Int} (h : IsP p) {i : Nat} (hi : i < p.length) : ∀ m, itP p m i < p.length
  | 0 => hi
  | m + 1 => pf_lt h (itP_lt h hi m)
theorem itP_add (p : List Int) (a : Nat) (i : Nat) : ∀ b, itP p (b + a) i = itP p b (itP p a i)
  | 0 => by rw [Nat.zero_add]; rfl
  | b + 1 => by rw [show b + 1 + a = (b + a) + 1 by omega, itP, itP_add p a i b, itP]
theorem itP_inj {p : List Int} (h : IsP p) : ∀ (m : Nat) {i j : Nat}, i < p.length → j < p.length → itP p m i = itP p m j → i = j
  | 0, _, _, _, _, e => e
  | m + 1, _, _, hi, hj, e => itP_inj h m hi hj (pf_inj h (itP_lt h hi m) (itP_lt h hj m) e)
/-- one comes back -/
theorem itP_back {p : List Int} (h : IsP p) {i : Nat} (hi : i < p.length) : ∃ d, 1 ≤ d ∧ d ≤ p.length ∧ itP p d i = i := by
  refine Classical.byContradiction fun hno => ?_
  have hne : ∀ a b, a < b → b ≤ p.length → itP p a i ≠ itP p b i := fun a b hab hb e => by
    refine hno ⟨b - a, by omega, by omega, ?_⟩
    have h1 : itP p b i = itP p a (itP p (b - a) i) := by rw [← itP_add]; congr 1; omega
    rw [h1] at e
    exact (itP_inj h a hi (itP_lt h hi _) e).symm
  have nd : ((List.range (p.length + 1)).map (fun t => itP p t i)).Nodup := by
    unfold List.Nodup
    rw [List.pairwise_map]
    refine List.Pairwise.imp_of_mem ?_ (List.pairwise_lt_range (n := p.length + 1))
    intro a b ha hb hlt
    exact hne a b hlt (by have := List.mem_range.1 hb; omega)
  have := List.Nodup.length_le_of_subset (l₂ := List.range p.length) nd (fun x hx => by
    obtain ⟨t, _, rfl⟩ := List.mem_map.1 hx
    exact List.mem_range.2 (itP_lt h hi t))
  simp only [List.length_map, List.length_range] at this
  omega
/-- the length of the way back -/
def ol (p : List Int) (i : Nat) : Nat := (List.range p.length).findIdx (fun t => itP p (t + 1) i == i) + 1
theorem ol_spec {p : List Int} (h : IsP p) {i : Nat} (hi : i < p.length) : 1 ≤ ol p i ∧ ol p i ≤ p.length ∧ itP p (ol p i) i = i ∧ ∀ t, 1 ≤ t → t < ol p i → itP p t i ≠ i := by
  obtain ⟨d, d1, d2, d3⟩ := itP_back h hi
  have hlt : (List.range p.length).findIdx (fun t => itP p (t + 1) i == i) < (List.range p.length).length :=
    List.findIdx_lt_length.2 ⟨d - 1, List.mem_range.2 (by omega), by rw [show d - 1 + 1 = d by omega]; simp [d3]⟩
  have h1 := List.findIdx_getElem (w := hlt)
  rw [List.length_range] at hlt
  refine ⟨by unfold ol; omega, by unfold ol; omega, ?_, fun t t1 t2 => ?_⟩
  · unfold ol
    rw [List.getElem_range] at h1
    simpa using h1
  · unfold ol at t2
    have h2 := List.not_of_lt_findIdx (p := fun t => itP p (t + 1) i == i) (xs := List.range p.length) (i := t - 1) (by omega)
    rw [List.getElem_range] at h2
    rw [show t - 1 + 1 = t by omega] at h2
    simpa using h2
theorem ol_uniq {p : List Int} (h : IsP p) {i d : Nat} (hi : i < p.length) (d1 : 1 ≤ d) (d2 : itP p d i = i) (d3 : ∀ t, 1 ≤ t → t < d → itP p t i ≠ i) : ol p i = d := by
  obtain ⟨o1, _, o3, o4⟩ := ol_spec h hi
  rcases Nat.lt_trichotomy (ol p i) d with h1 | h1 | h1
  · exact absurd o3 (d3 _ o1 h1)
  · exact h1
  · exact absurd d2 (o4 _ d1 h1)
/-- distinct on the way -/
theorem itP_ne {p : List Int} (h : IsP p) {i a b : Nat} (hi : i < p.length) (hab : a < b) (hb : b < ol p i) : itP p a i ≠ itP p b i := fun e => by
  have h1 : itP p b i = itP p a (itP p (b - a) i) := by rw [← itP_add]; congr 1; omega
  rw [h1] at e
  exact (ol_spec h hi).2.2.2 (b - a) (by omega) (by omega) (itP_inj h a hi (itP_lt h hi _) e).symm
theorem itP_ret {p : List Int} (m i : Nat) : itP p 1 (itP p m i) = itP p m (itP p 1 i) := by rw [← itP_add, ← itP_add, Nat.add_comm]
theorem itP_comm (p : List Int) (a b i : Nat) : itP p a (itP p b i) = itP p b (itP p a i) := by rw [← itP_add, ← itP_add, Nat.add_comm]
/-- along the way it is the same -/
theorem ol_pf {p : List Int} (h : IsP p) {i : Nat} (hi : i < p.length) : ol p (pf p i) = ol p i := by
  obtain ⟨o1, _, o3, o4⟩ := ol_spec h hi
  refine ol_uniq h (pf_lt h hi) o1 ?_ fun t t1 t2 e => ?_
  · have : pf p i = itP p 1 i := rfl
    rw [this, itP_comm, o3]
  · have : pf p i = itP p 1 i := rfl
    rw [this, itP_comm] at e
    exact o4 t t1 t2 (pf_inj h (itP_lt h hi t) hi e)
theorem ol_it {p : List Int} (h : IsP p) {i : Nat} (hi : i < p.length) : ∀ m, ol p (itP p m i) = ol p i
  | 0 => rfl
  | m + 1 => by rw [itP, ol_pf h (itP_lt h hi m), ol_it h hi m]
/-- as often gone as it takes: a multiple -/
theorem itP_mul {p : List Int} (h : IsP p) {i : Nat} (hi : i < p.length) : ∀ k, itP p (k * ol p i) i = i
  | 0 => by rw [Nat.zero_mul]; rfl
  | k + 1 => by rw [Nat.add_mul, Nat.one_mul, itP_add, (ol_spec h hi).2.2.1, itP_mul h hi k]
theorem itP_dvd {p : List Int} (h : IsP p) {i : Nat} (hi : i < p.length) (m : Nat) : itP p m i = i ↔ ol p i ∣ m := by
  obtain ⟨o1, _, o3, o4⟩ := ol_spec h hi
  constructor
  · intro e
    have hm : m = m % ol p i + (m / ol p i) * ol p i := by have := Nat.mod_add_div m (ol p i); rw [Nat.mul_comm] at this; omega
    rw [hm, itP_add, itP_mul h hi] at e
    have hlt := Nat.mod_lt m (show 0 < ol p i by omega)
    refine Nat.dvd_of_mod_eq_zero ?_
    rcases Nat.eq_zero_or_pos (m % ol p i) with h0 | h0
    · exact h0
    · exact absurd e (o4 _ h0 hlt)
  · rintro ⟨k, rfl⟩
    rw [Nat.mul_comm]; exact itP_mul h hi k

/-! sums over all places -/
def sumN (F : Nat → Nat) : Nat → Nat
  | 0 => 0
  | n + 1 => sumN F n + F n
theorem sumN_congr {F G : Nat → Nat} : ∀ n, (∀ i, i < n → F i = G i) → sumN F n = sumN G n
  | 0, _ => rfl
  | n + 1, h => by rw [sumN, sumN, sumN_congr n (fun i hi => h i (by omega)), h n (by omega)]
theorem sumN_list (F : Nat → Nat) : ∀ n, sumN F n = ((List.range n).map F).sum
  | 0 => rfl
  | n + 1 => by rw [sumN, sumN_list F n, List.range_succ, List.map_append, List.sum_append]; simp
theorem sumN_zero : ∀ n, sumN (fun _ => 0) n = 0
  | 0 => rfl
  | n + 1 => by rw [sumN, sumN_zero n]
theorem sumN_one : ∀ n, sumN (fun _ => 1) n = n
  | 0 => rfl
  | n + 1 => by rw [sumN, sumN_one n]
theorem sumN_add (F G : Nat → Nat) : ∀ n, sumN (fun i => F i + G i) n = sumN F n + sumN G n
  | 0 => rfl
  | n + 1 => by rw [sumN, sumN, sumN, sumN_add F G n]; omega
theorem sumN_mul (c : Nat) (F : Nat → Nat) : ∀ n, sumN (fun i => c * F i) n = c * sumN F n
  | 0 => rfl
  | n + 1 => by rw [sumN, sumN, sumN_mul c F n, Nat.mul_add]
/-- one place more -/
theorem sumN_upd (F : Nat → Nat) (k x : Nat) : ∀ n, k < n → sumN (fun i => if i = k then x else F i) n + F k = sumN F n + x
  | 0, h => by omega
  | n + 1, h => by
    rw [sumN, sumN]
    by_cases e : k = n
    · subst e
      rw [if_pos rfl, sumN_congr k (fun i hi => by show (if i = k then x else F i) = F i; rw [if_neg (by omega)])]
      omega
    · rw [if_neg (show ¬ n = k from fun e' => e e'.symm)]
      have := sumN_upd F k x n (by omega)
      omega
theorem sumN_le {F G : Nat → Nat} : ∀ n, (∀ i, i < n → F i ≤ G i) → sumN F n ≤ sumN G n
  | 0, _ => Nat.le_refl _
  | n + 1, h => by
    have := sumN_le n (fun i hi => h i (by omega))
    have := h n (by omega)
    rw [sumN, sumN]; omega
/-- an order of all places -/
theorem isP_perm {p : List Int} (h : IsP p) : ((List.range p.length).map (pf p)).Perm (List.range p.length) := by
  have nd : ((List.range p.length).map (pf p)).Nodup := by
    unfold List.Nodup
    rw [List.pairwise_map]
    refine List.Pairwise.imp_of_mem ?_ (List.pairwise_lt_range (n := p.length))
    intro a b ha hb hlt e
    have := pf_inj h (List.mem_range.1 ha) (List.mem_range.1 hb) e
    omega
  refine (List.perm_ext_iff_of_nodup nd List.nodup_range).2 fun v => ⟨fun hv => ?_, fun hv => ?_⟩
  · obtain ⟨i, hi, rfl⟩ := List.mem_map.1 hv
    exact List.mem_range.2 (pf_lt h (List.mem_range.1 hi))
  · obtain ⟨i, hi, e⟩ := isP_get h v (List.mem_range.1 hv)
    exact List.mem_map.2 ⟨i, List.mem_range.2 hi, e⟩
theorem sumN_perm {p : List Int} (h : IsP p) (F : Nat → Nat) : sumN (fun i => F (pf p i)) p.length = sumN F p.length := by
  rw [sumN_list, sumN_list]
  have := (isP_perm h).map F
  rw [List.map_map] at this
  exact this.sum_nat

/-! undone; by other names -/
theorem pf_inv {p : List Int} (h : IsP p) {i : Nat} (hi : i < p.length) : pf (invL p) (pf p i) = i := by
  unfold pf
  rw [invL_at h i hi]; simp
theorem inv_it {p : List Int} (h : IsP p) : ∀ (t : Nat) {i : Nat}, i < p.length → itP (invL p) t (itP p t i) = i
  | 0, _, _ => rfl
  | t + 1, i, hi => by
    rw [show itP p (t + 1) i = pf p (itP p t i) from rfl]
    have : itP (invL p) (t + 1) (pf p (itP p t i)) = itP (invL p) t (itP (invL p) 1 (pf p (itP p t i))) := by rw [← itP_add]
    rw [this]
    show itP (invL p) t (pf (invL p) (pf p (itP p t i))) = i
    rw [pf_inv h (itP_lt h hi t), inv_it h t hi]
theorem ol_inv {p : List Int} (h : IsP p) {i : Nat} (hi : i < p.length) : ol (invL p) i = ol p i := by
  obtain ⟨o1, _, o3, o4⟩ := ol_spec h hi
  have key : ∀ t, itP p t i = i → itP (invL p) t i = i := fun t e => by have := inv_it h t hi; rwa [e] at this
  have key2 : ∀ t, itP (invL p) t i = i → itP p t i = i := fun t e => by
    have h1 := inv_it h t hi
    exact itP_inj (inv_isP h) t (by rw [invL_len]; exact itP_lt h hi t) (by rw [invL_len]; exact hi) (h1.trans e.symm)
  exact ol_uniq (inv_isP h) (by rw [invL_len]; exact hi) o1 (key _ o3) fun t t1 t2 e => o4 t t1 t2 (key2 t e)
theorem pf_tm {a b : List Int} {i : Nat} (hi : i < b.length) : pf (tmL a b) i = pf a (pf b i) := by
  unfold pf; rw [tmL_nth a b i hi]
/-- b after a after what undoes b -/
theorem pf_conj {a b : List Int} (hb : IsP b) {i : Nat} (hi : i < b.length) : pf (tmL b (tmL a (invL b))) (pf b i) = pf b (pf a i) := by
  have hbi := pf_lt hb hi
  rw [pf_tm (by rw [tmL_len, invL_len]; exact hbi), pf_tm (by rw [invL_len]; exact hbi), pf_inv hb hi]
theorem it_conj {a b : List Int} (ha : IsP a) (hb : IsP b) (hl : a.length = b.length) {i : Nat} (hi : i < b.length) : ∀ t, itP (tmL b (tmL a (invL b))) t (pf b i) = pf b (itP a t i)
  | 0 => rfl
  | t + 1 => by rw [itP, it_conj ha hb hl hi t, pf_conj hb (by rw [← hl]; exact itP_lt ha (by rw [hl]; exact hi) t)]; rfl
theorem conj_isP {a b : List Int} (ha : IsP a) (hb : IsP b) (hl : a.length = b.length) : IsP (tmL b (tmL a (invL b))) :=
  tm_isP hb (tm_isP ha (inv_isP hb) (by rw [invL_len]; exact hl)) (by rw [tmL_len, invL_len])
theorem conj_len (a b : List Int) : (tmL b (tmL a (invL b))).length = b.length := by rw [tmL_len, tmL_len, invL_len]
theorem ol_conj {a b : List Int} (ha : IsP a) (hb : IsP b) (hl : a.length = b.length) {i : Nat} (hi : i < b.length) : ol (tmL b (tmL a (invL b))) (pf b i) = ol a i := by
  obtain ⟨o1, _, o3, o4⟩ := ol_spec ha (show i < a.length by rw [hl]; exact hi)
  refine ol_uniq (conj_isP ha hb hl) (by rw [conj_len]; exact pf_lt hb hi) o1 (by rw [it_conj ha hb hl hi, o3]) fun t t1 t2 e => ?_
  rw [it_conj ha hb hl hi] at e
  exact o4 t t1 t2 (pf_inj hb (by rw [← hl]; exact itP_lt ha (by rw [hl]; exact hi) t) hi e)
end Go.Proofs.Ytooghdnlaonkaaa
