/- Several of my texts in one: CycM, SrtF, CycM2, CycP, Cyc, Cyc2. -/
import Derived.Test.YtefblcchmkmfpaaGrp
import Derived.Test.YtefblcchmkmfpaaRankM
import Derived.Test.YtefblcchmkmfpaaArr4
import Derived.RegionTactic
import Derived.Deep.QuietTactic
import Derived.Test.YtefblcchmkmfpaaPerm
namespace Go.Proofs.Ytefblcchmkmfpaa
open Go.RowKit

def pf (p : List Int) (i : Nat) : Nat := (nth p i).toNat
theorem pf_lt {p : List Int} (h : IsP p) {i : Nat} (hi : i < p.length) : pf p i < p.length := (h.at i hi).1
theorem pf_inj {p : List Int} (h : IsP p) {i j : Nat} (hi : i < p.length) (hj : j < p.length) (e : pf p i = pf p j) : i = j := by
  have h1 := h.at i hi; have h2 := h.at j hj
  unfold pf at e
  exact h.inj i j hi hj (by omega)
def itP (p : List Int) : Nat → Nat → Nat
  | 0, i => i
  | m + 1, i => pf p (itP p m i)
theorem itP_lt {p : List Int} (h : IsP p) {i : Nat} (hi : i < p.length) : ∀ m, itP p m i < p.length
  | 0 => hi
  | m + 1 => pf_lt h (itP_lt h hi m)
theorem itP_add (p : List Int) (a : Nat) (i : Nat) : ∀ b, itP p (b + a) i = itP p b (itP p a i)
  | 0 => by rw [Nat.zero_add]; rfl
  | b + 1 => by rw [show b + 1 + a = (b + a) + 1 by omega, itP, itP_add p a i b, itP]
theorem itP_inj {p : List Int} (h : IsP p) : ∀ (m : Nat) {i j : Nat}, i < p.length → j < p.length → itP p m i = itP p m j → i = j
  | 0, _, _, _, _, e => e
  | m + 1, _, _, hi, hj, e => itP_inj h m hi hj (pf_inj h (itP_lt h hi m) (itP_lt h hj m) e)
/-- one comes back -/
theorem itP_back {p : List Int} (h : IsP p) {i : Nat} (hi : i < p.length) : ∃ d, 1 ≤ d ∧ d ≤ p.length ∧ itP p d i = i := by
  refine Classical.byContradiction fun hno => ?_
  have hne : ∀ a b, a < b → b ≤ p.length → itP p a i ≠ itP p b i := fun a b hab hb e => by
    refine hno ⟨b - a, by omega, by omega, ?_⟩
    have h1 : itP p b i = itP p a (itP p (b - a) i) := by rw [← itP_add]; congr 1; omega
    rw [h1] at e
    exact (itP_inj h a hi (itP_lt h hi _) e).symm
  have nd : ((List.range (p.length + 1)).map (fun t => itP p t i)).Nodup := by
    unfold List.Nodup
    rw [List.pairwise_map]
    refine List.Pairwise.imp_of_mem ?_ (List.pairwise_lt_range (n := p.length + 1))
    intro a b ha hb hlt
    exact hne a b hlt (by have := List.mem_range.1 hb; omega)
  have := List.Nodup.length_le_of_subset (l₂ := List.range p.length) nd (fun x hx => by
    obtain ⟨t, _, rfl⟩ := List.mem_map.1 hx
    exact List.mem_range.2 (itP_lt h hi t))
  simp only [List.length_map, List.length_range] at this
  omega
/-- the length of the way back -/
def ol (p : List Int) (i : Nat) : Nat := (List.range p.length).findIdx (fun t => itP p (t + 1) i == i) + 1
theorem ol_spec {p : List Int} (h : IsP p) {i : Nat} (hi : i < p.length) : 1 ≤ ol p i ∧ ol p i ≤ p.length ∧ itP p (ol p i) i = i ∧ ∀ t, 1 ≤ t → t < ol p i → itP p t i ≠ i := by
  obtain ⟨d, d1, d2, d3⟩ := itP_back h hi
  have hlt : (List.range p.length).findIdx (fun t => itP p (t + 1) i == i) < (List.range p.length).length :=
    List.findIdx_lt_length.2 ⟨d - 1, List.mem_range.2 (by omega), by rw [show d - 1 + 1 = d by omega]; simp [d3]⟩
  have h1 := List.findIdx_getElem (w := hlt)
  rw [List.length_range] at hlt
  refine ⟨by unfold ol; omega, by unfold ol; omega, ?_, fun t t1 t2 => ?_⟩
  · unfold ol
    rw [List.getElem_range] at h1
    simpa using h1
  · unfold ol at t2
    have h2 := List.not_of_lt_findIdx (p := fun t => itP p (t + 1) i == i) (xs := List.range p.length) (i := t - 1) (by omega)
    rw [List.getElem_range] at h2
    rw [show t - 1 + 1 = t by omega] at h2
    simpa using h2
theorem ol_uniq {p : List Int} (h : IsP p) {i d : Nat} (hi : i < p.length) (d1 : 1 ≤ d) (d2 : itP p d i = i) (d3 : ∀ t, 1 ≤ t → t < d → itP p t i ≠ i) : ol p i = d := by
  obtain ⟨o1, _, o3, o4⟩ := ol_spec h hi
  rcases Nat.lt_trichotomy (ol p i) d with h1 | h1 | h1
  · exact absurd o3 (d3 _ o1 h1)
  · exact h1
  · exact absurd d2 (o4 _ d1 h1)
/-- distinct on the way -/
theorem itP_ne {p : List Int} (h : IsP p) {i a b : Nat} (hi : i < p.length) (hab : a < b) (hb : b < ol p i) : itP p a i ≠ itP p b i := fun e => by
  have h1 : itP p b i = itP p a (itP p (b - a) i) := by rw [← itP_add]; congr 1; omega
  rw [h1] at e
  exact (ol_spec h hi).2.2.2 (b - a) (by omega) (by omega) (itP_inj h a hi (itP_lt h hi _) e).symm
theorem itP_ret {p : List Int} (m i : Nat) : itP p 1 (itP p m i) = itP p m (itP p 1 i) := by rw [← itP_add, ← itP_add, Nat.add_comm]
theorem itP_comm (p : List Int) (a b i : Nat) : itP p a (itP p b i) = itP p b (itP p a i) := by rw [← itP_add, ← itP_add, Nat.add_comm]
/-- along the way it is the same -/
theorem ol_pf {p : List Int} (h : IsP p) {i : Nat} (hi : i < p.length) : ol p (pf p i) = ol p i := by
  obtain ⟨o1, _, o3, o4⟩ := ol_spec h hi
  refine ol_uniq h (pf_lt h hi) o1 ?_ fun t t1 t2 e => ?_
  · have : pf p i = itP p 1 i := rfl
    rw [this, itP_comm, o3]
  · have : pf p i = itP p 1 i := rfl
    rw [this, itP_comm] at e
    exact o4 t t1 t2 (pf_inj h (itP_lt h hi t) hi e)
theorem ol_it {p : List Int} (h : IsP p) {i : Nat} (hi : i < p.length) : ∀ m, ol p (itP p m i) = ol p i
  | 0 => rfl
  | m + 1 => by rw [itP, ol_pf h (itP_lt h hi m), ol_it h hi m]
/-- as often gone as it takes: a multiple -/
theorem itP_mul {p : List Int} (h : IsP p) {i : Nat} (hi : i < p.length) : ∀ k, itP p (k * ol p i) i = i
  | 0 => by rw [Nat.zero_mul]; rfl
  | k + 1 => by rw [Nat.add_mul, Nat.one_mul, itP_add, (ol_spec h hi).2.2.1, itP_mul h hi k]
theorem itP_dvd {p : List Int} (h : IsP p) {i : Nat} (hi : i < p.length) (m : Nat) : itP p m i = i ↔ ol p i ∣ m := by
  obtain ⟨o1, _, o3, o4⟩ := ol_spec h hi
  constructor
  · intro e
    have hm : m = m % ol p i + (m / ol p i) * ol p i := by have := Nat.mod_add_div m (ol p i); rw [Nat.mul_comm] at this; omega
    rw [hm, itP_add, itP_mul h hi] at e
    have hlt := Nat.mod_lt m (show 0 < ol p i by omega)
    refine Nat.dvd_of_mod_eq_zero ?_
    rcases Nat.eq_zero_or_pos (m % ol p i) with h0 | h0
    · exact h0
    · exact absurd e (o4 _ h0 hlt)
  · rintro ⟨k, rfl⟩
    rw [Nat.mul_comm]; exact itP_mul h hi k

/-! sums over all places -/
def sumN (F : Nat → Nat) : Nat → Nat
  | 0 => 0
  | n + 1 => sumN F n + F n
theorem sumN_congr {F G : Nat → Nat} : ∀ n, (∀ i, i < n → F i = G i) → sumN F n = sumN G n
  | 0, _ => rfl
  | n + 1, h => by rw [sumN, sumN, sumN_congr n (fun i hi => h i (by omega)), h n (by omega)]
theorem sumN_list (F : Nat → Nat) : ∀ n, sumN F n = ((List.range n).map F).sum
  | 0 => rfl
  | n + 1 => by rw [sumN, sumN_list F n, List.range_succ, List.map_append, List.sum_append]; simp
theorem sumN_zero : ∀ n, sumN (fun _ => 0) n = 0
  | 0 => rfl
  | n + 1 => by rw [sumN, sumN_zero n]
theorem sumN_one : ∀ n, sumN (fun _ => 1) n = n
  | 0 => rfl
  | n + 1 => by rw [sumN, sumN_one n]
theorem sumN_add (F G : Nat → Nat) : ∀ n, sumN (fun i => F i + G i) n = sumN F n + sumN G n
  | 0 => rfl
  | n + 1 => by rw [sumN, sumN, sumN, sumN_add F G n]; omega
theorem sumN_mul (c : Nat) (F : Nat → Nat) : ∀ n, sumN (fun i => c * F i) n = c * sumN F n
  | 0 => rfl
  | n + 1 => by rw [sumN, sumN, sumN_mul c F n, Nat.mul_add]
/-- one place more -/
theorem sumN_upd (F : Nat → Nat) (k x : Nat) : ∀ n, k < n → sumN (fun i => if i = k then x else F i) n + F k = sumN F n + x
  | 0, h => by omega
  | n + 1, h => by
    rw [sumN, sumN]
    by_cases e : k = n
    · subst e
      rw [if_pos rfl, sumN_congr k (fun i hi => by show (if i = k then x else F i) = F i; rw [if_neg (by omega)])]
      omega
    · rw [if_neg (show ¬ n = k from fun e' => e e'.symm)]
      have := sumN_upd F k x n (by omega)
      omega
theorem sumN_le {F G : Nat → Nat} : ∀ n, (∀ i, i < n → F i ≤ G i) → sumN F n ≤ sumN G n
  | 0, _ => Nat.le_refl _
  | n + 1, h => by
    have := sumN_le n (fun i hi => h i (by omega))
    have := h n (by omega)
    rw [sumN, sumN]; omega
/-- an order of all places -/
theorem isP_perm {p : List Int} (h : IsP p) : ((List.range p.length).map (pf p)).Perm (List.range p.length) := by
  have nd : ((List.range p.length).map (pf p)).Nodup := by
    unfold List.Nodup
    rw [List.pairwise_map]
    refine List.Pairwise.imp_of_mem ?_ (List.pairwise_lt_range (n := p.length))
    intro a b ha hb hlt e
    have := pf_inj h (List.mem_range.1 ha) (List.mem_range.1 hb) e
    omega
  refine (List.perm_ext_iff_of_nodup nd List.nodup_range).2 fun v => ⟨fun hv => ?_, fun hv => ?_⟩
  · obtain ⟨i, hi, rfl⟩ := List.mem_map.1 hv
    exact List.mem_range.2 (pf_lt h (List.mem_range.1 hi))
  · obtain ⟨i, hi, e⟩ := isP_get h v (List.mem_range.1 hv)
    exact List.mem_map.2 ⟨i, List.mem_range.2 hi, e⟩
theorem sumN_perm {p : List Int} (h : IsP p) (F : Nat → Nat) : sumN (fun i => F (pf p i)) p.length = sumN F p.length := by
  rw [sumN_list, sumN_list]
  have := (isP_perm h).map F
  rw [List.map_map] at this
  exact this.sum_nat

/-! undone; by other names -/
theorem pf_inv {p : List Int} (h : IsP p) {i : Nat} (hi : i < p.length) : pf (invL p) (pf p i) = i := by
  unfold pf
  rw [invL_at h i hi]; simp
theorem inv_it {p : List Int} (h : IsP p) : ∀ (t : Nat) {i : Nat}, i < p.length → itP (invL p) t (itP p t i) = i
  | 0, _, _ => rfl
  | t + 1, i, hi => by
    rw [show itP p (t + 1) i = pf p (itP p t i) from rfl]
    have : itP (invL p) (t + 1) (pf p (itP p t i)) = itP (invL p) t (itP (invL p) 1 (pf p (itP p t i))) := by rw [← itP_add]
    rw [this]
    show itP (invL p) t (pf (invL p) (pf p (itP p t i))) = i
    rw [pf_inv h (itP_lt h hi t), inv_it h t hi]
theorem ol_inv {p : List Int} (h : IsP p) {i : Nat} (hi : i < p.length) : ol (invL p) i = ol p i := by
  obtain ⟨o1, _, o3, o4⟩ := ol_spec h hi
  have key : ∀ t, itP p t i = i → itP (invL p) t i = i := fun t e => by have := inv_it h t hi; rwa [e] at this
  have key2 : ∀ t, itP (invL p) t i = i → itP p t i = i := fun t e => by
    have h1 := inv_it h t hi
    exact itP_inj (inv_isP h) t (by rw [invL_len]; exact itP_lt h hi t) (by rw [invL_len]; exact hi) (h1.trans e.symm)
  exact ol_uniq (inv_isP h) (by rw [invL_len]; exact hi) o1 (key _ o3) fun t t1 t2 e => o4 t t1 t2 (key2 t e)
theorem pf_tm {a b : List Int} {i : Nat} (hi : i < b.length) : pf (tmL a b) i = pf a (pf b i) := by
  unfold pf; rw [tmL_nth a b i hi]
/-- b after a after what undoes b -/
theorem pf_conj {a b : List Int} (hb : IsP b) {i : Nat} (hi : i < b.length) : pf (tmL b (tmL a (invL b))) (pf b i) = pf b (pf a i) := by
  have hbi := pf_lt hb hi
  rw [pf_tm (by rw [tmL_len, invL_len]; exact hbi), pf_tm (by rw [invL_len]; exact hbi), pf_inv hb hi]
theorem it_conj {a b : List Int} (ha : IsP a) (hb : IsP b) (hl : a.length = b.length) {i : Nat} (hi : i < b.length) : ∀ t, itP (tmL b (tmL a (invL b))) t (pf b i) = pf b (itP a t i)
  | 0 => rfl
  | t + 1 => by rw [itP, it_conj ha hb hl hi t, pf_conj hb (by rw [← hl]; exact itP_lt ha (by rw [hl]; exact hi) t)]; rfl
theorem conj_isP {a b : List Int} (ha : IsP a) (hb : IsP b) (hl : a.length = b.length) : IsP (tmL b (tmL a (invL b))) :=
  tm_isP hb (tm_isP ha (inv_isP hb) (by rw [invL_len]; exact hl)) (by rw [tmL_len, invL_len])
theorem conj_len (a b : List Int) : (tmL b (tmL a (invL b))).length = b.length := by rw [tmL_len, tmL_len, invL_len]
theorem ol_conj {a b : List Int} (ha : IsP a) (hb : IsP b) (hl : a.length = b.length) {i : Nat} (hi : i < b.length) : ol (tmL b (tmL a (invL b))) (pf b i) = ol a i := by
  obtain ⟨o1, _, o3, o4⟩ := ol_spec ha (show i < a.length by rw [hl]; exact hi)
  refine ol_uniq (conj_isP ha hb hl) (by rw [conj_len]; exact pf_lt hb hi) o1 (by rw [it_conj ha hb hl hi, o3]) fun t t1 t2 e => ?_
  rw [it_conj ha hb hl hi] at e
  exact o4 t t1 t2 (pf_inj hb (by rw [← hl]; exact itP_lt ha (by rw [hl]; exact hi) t) hi e)
end Go.Proofs.Ytefblcchmkmfpaa
namespace Go.Proofs.Ytefblcchmkmfpaa
open Go.RowKit

theorem cyc1 (x y : Int) (w : World) (hx : 0 ≤ x ∧ x ≤ 1000) (hy : 0 ≤ y ∧ y ≤ 1000) : Calls Try.prog 72 #[.int .i64 x, .int .i64 y] w fun e w' => e = .returned (.int .i64 (y - x)) ∧ w = w' := by
  obtain ⟨h1, h2⟩ := hx
  obtain ⟨h3, h4⟩ := hy
  go_enter Try.func72, Try.ntmps72
  go_wp2_with fail
  go_ret
  exact ⟨rfl, rfl⟩
def swL (l : List Int) (i k : Nat) : List Int := (l.set i (nth l k)).set k (nth l i)
theorem swL_len (l : List Int) (i k : Nat) : (swL l i k).length = l.length := by simp [swL]
theorem swL_perm (l : List Int) (i k : Nat) (hi : i < l.length) (hk : k < l.length) : l.Perm (swL l i k) := by
  have := List.set_set_perm hi hk
  unfold swL nth
  rw [List.getD_eq_getElem?_getD, List.getD_eq_getElem?_getD, List.getElem?_eq_getElem hi, List.getElem?_eq_getElem hk]
  exact this.symm
def insJd : Nat → List Int → List Int
  | 0, l => l
  | j + 1, l => if nth l j < nth l (j + 1) then insJd j (swL l (j + 1) j) else l
def insSd (l : List Int) : Nat → List Int
  | 0 => l
  | i + 1 => insJd i (insSd l i)
theorem insJd_perm : ∀ (j : Nat) (l : List Int), j < l.length → l.Perm (insJd j l)
  | 0, _, _ => .refl _
  | j + 1, l, h => by
    rw [insJd]; split
    · exact (swL_perm l (j + 1) j h (by omega)).trans (insJd_perm j _ (by rw [swL_len]; omega))
    · exact .refl _
theorem insSd_perm (l : List Int) : ∀ i, i ≤ l.length → l.Perm (insSd l i)
  | 0, _ => .refl _
  | i + 1, h => by
    have ih := insSd_perm l i (by omega)
    exact ih.trans (insJd_perm i _ (by rw [← ih.length_eq]; omega))

set_option maxRecDepth 100000 in
set_option maxHeartbeats 4000000 in
theorem insSortF {w0 : World} {L : List Ent} (l : List Int) (n cap g : Nat) (w : World) (hF : Fr w0 w (⟨3, .slice (some ⟨g, 0, .none⟩) n cap, ints l⟩ :: L)) (h12 : n ≤ 12) (h1 : 1 ≤ n) (hb : ∀ v ∈ l, 0 ≤ v ∧ v ≤ 1000) :
    Calls Try.prog 78 #[.slice (some ⟨g, 0, .none⟩) n cap, .int .i64 0, .int .i64 n, .func (.func 72) #[] #[]] w fun e w' => e = .returned (.tuple #[]) ∧ Fr w0 w' (⟨3, .slice (some ⟨g, 0, .none⟩) n cap, ints (insSd l n)⟩ :: L) := by
  have HL : Hid (∀ i, i ≤ n → (insSd l i).length = n) := Lib.hid (fun i hi => by
    have := hF.len; rw [ints_len] at this
    rw [← (insSd_perm l i (by omega)).length_eq]; omega)
  have HF := Lib.hid hF; have HBD := Lib.hid hb
  clear hb
  have H1 : Hid (insSd l 1 = l) := Lib.hid rfl
  clear hF
  go_enter Try.func78, Try.ntmps78
  go_wp2_with fail
  go_loopw [8] (fun i wr => ∃ k : Nat, i = .int .i64 k ∧ 1 ≤ k ∧ k ≤ n ∧ Fr w0 wr (⟨3, .slice (some ⟨g, 0, .none⟩) n cap, ints (insSd l k)⟩ :: L)) (fun i _ => n - (intOf i).toNat)
  case atStart => exact ⟨1, rfl, by omega, h1, by rw [H1.out]; exact HF.out⟩
  case round =>
    obtain ⟨k, rfl, k1, kn, hfr⟩ := hrel
    by_cases hlt : k < n
    · have HST : Hid (insSd l (k + 1) = insJd k (insSd l k)) := Lib.hid rfl
      have HLK : Hid ((insSd l k).length = n) := Lib.hid (HL.out k kn)
      obtain ⟨S, hS⟩ : ∃ S, insSd l k = S := ⟨_, rfl⟩
      have HPS : Hid (l.Perm S) := Lib.hid (by rw [← hS]; exact insSd_perm l k (by have := HL.out 0 (by omega); rw [insSd] at this; omega))
      rw [hS] at hfr HST HLK
      clear hS
      go_wp2_with fail
      go_loopw [9] (fun i wr => ∃ (j : Nat) (q : List Int), i = .int .i64 j ∧ j ≤ k ∧ Hid (q.length = n ∧ insJd k S = insJd j q) ∧ Hid (l.Perm q) ∧ Fr w0 wr (⟨3, .slice (some ⟨g, 0, .none⟩) n cap, ints q⟩ :: L)) (fun i _ => (intOf i).toNat)
      case atStart => exact ⟨k, S, rfl, by omega, Lib.hid ⟨HLK.out, rfl⟩, HPS, hfr⟩
      case round =>
        obtain ⟨j, q, rfl, hj, HQ, HPM, hfr⟩ := hrel
        cases j with
        | zero =>
          have HE : Hid (insSd l (k + 1) = q) := Lib.hid (by rw [HST.out, HQ.out.2, insJd])
          go_wp2_with fail
          go_quiet (fail)
          go_wp2_with fail
          exact ⟨⟨k + 1, by simp, by omega, by omega, by rw [HE.out]; exact hfr.drewN _⟩, by simp only [intOf]; omega⟩
        | succ j =>
          obtain ⟨_, e, _, c1, f1⟩ := hfr.openI (j + 1) (by rw [HQ.out.1]; omega)
          cases e
          obtain ⟨_, e, _, c2, f2⟩ := hfr.openI j (by rw [HQ.out.1]; omega)
          cases e
          have hst : insJd (j + 1) q = if nth q j < nth q (j + 1) then insJd j (swL q (j + 1) j) else q := rfl
          have hsw : (q.set (j + 1) (nth q j)).set j (nth q (j + 1)) = swL q (j + 1) j := rfl
          obtain ⟨x, hx⟩ : ∃ x, nth q (j + 1) = x := ⟨_, rfl⟩
          obtain ⟨y, hy⟩ : ∃ y, nth q j = y := ⟨_, rfl⟩
          rw [hx] at c1 hst hsw
          rw [hy] at c2 hst hsw
          have d1 : (0 : Int) ≤ (j : Int) := by omega
          have d2 : (j : Int) < (n : Int) := by omega
          have d3 : (0 : Int) ≤ (j : Int) + 1 := by omega
          have d4 : (j : Int) + 1 < (n : Int) := by omega
          have e1 : (j : Int) + 1 - 1 = (j : Int) := by omega
          have d5 : decide ((0 : Int) < (j : Int) + 1) = true := decide_eq_true (by omega)
          have bx := HBD.out x (HPM.out.mem_iff.2 (by rw [← hx]; exact nth_mem q (j + 1) (by rw [HQ.out.1]; omega)))
          have by1 := HBD.out y (HPM.out.mem_iff.2 (by rw [← hy]; exact nth_mem q j (by rw [HQ.out.1]; omega)))
          obtain ⟨bx1, bx2⟩ := bx
          obtain ⟨by1, by2⟩ := by1
          obtain ⟨b, hb⟩ : ∃ b, decide (y - x < 0) = b := ⟨_, rfl⟩
          have HB := Lib.hid hb
          by_cases hxy : y < x
          · rw [if_pos hxy] at hst
            obtain rfl : b = true := by rw [← hb, decide_eq_true (by omega)]
            have HQ2 : Hid ((swL q (j + 1) j).length = n ∧ insJd k S = insJd j (swL q (j + 1) j)) := Lib.hid ⟨by rw [swL_len, HQ.out.1], by rw [HQ.out.2, hst]⟩
            have HPM2 : Hid (l.Perm (swL q (j + 1) j)) := Lib.hid (HPM.out.trans (swL_perm q (j + 1) j (by rw [HQ.out.1]; omega) (by rw [HQ.out.1]; omega)))
            have HSW := Lib.hid hsw; have HX := Lib.hid hx; have HY := Lib.hid hy
            clear hst hsw hx hy hxy
            go_wp2_with fail
            go_quiet ((go_at_call 72; exact quiet_eq (cyc1 _ _ _ (by omega) (by omega))))
            go_wp2_with fail
            obtain ⟨_, e, _, c5, f5⟩ := (hfr.drewN nq).openI (j + 1) (by rw [HQ.out.1]; omega)
            cases e
            obtain ⟨_, e, _, c6, f6⟩ := (hfr.drewN nq).openI j (by rw [HQ.out.1]; omega)
            cases e
            rw [HX.out] at c5
            rw [HY.out] at c6
            have F5 := (hfr.drewN nq).setInt (j + 1) y
            obtain ⟨_, e, _, c3, f3⟩ := F5.openI j (by rw [List.length_set, HQ.out.1]; omega)
            cases e
            obtain ⟨v, hv⟩ : ∃ v, nth (q.set (j + 1) y) j = v := ⟨_, rfl⟩
            rw [hv] at c3
            have F6 := (F5.setInt j x).drew
            rw [HSW.out] at F6
            have HF6 := Lib.hid F6
            clear F5 F6 hv
            go_region
            go_wp2_with fail
            exact ⟨⟨j, _, rfl, by omega, HQ2, HPM2, HF6.out⟩, by simp only [intOf]; omega⟩
          · rw [if_neg hxy] at hst
            obtain rfl : b = false := by rw [← hb, decide_eq_false (by omega)]
            have HE : Hid (insSd l (k + 1) = q) := Lib.hid (by rw [HST.out, HQ.out.2, hst])
            clear hst hsw hx hy hxy
            go_wp2_with fail
            go_quiet ((go_at_call 72; exact quiet_eq (cyc1 _ _ _ (by omega) (by omega))))
            go_wp2_with fail
            exact ⟨⟨k + 1, by simp, by omega, by omega, by rw [HE.out]; exact hfr.drewN _⟩, by simp only [intOf]; omega⟩
    · obtain rfl : k = n := by omega
      go_wp2_with fail
      go_end0
      exact ⟨rfl, hfr⟩

set_option maxRecDepth 100000 in
set_option maxHeartbeats 1000000 in
theorem pdqSmallF {w0 : World} {L : List Ent} (l : List Int) (n cap g : Nat) (x : Int) (w : World) (hF : Fr w0 w (⟨3, .slice (some ⟨g, 0, .none⟩) n cap, ints l⟩ :: L)) (h12 : n ≤ 12) (h1 : 1 ≤ n) (hb : ∀ v ∈ l, 0 ≤ v ∧ v ≤ 1000) :
    Calls Try.prog 76 #[.slice (some ⟨g, 0, .none⟩) n cap, .int .i64 0, .int .i64 n, .int .i64 x, .func (.func 72) #[] #[]] w fun e w' => e = .returned (.tuple #[]) ∧ Fr w0 w' (⟨3, .slice (some ⟨g, 0, .none⟩) n cap, ints (insSd l n)⟩ :: L) := by
  have HF := Lib.hid hF; have HBD := Lib.hid hb
  clear hb
  clear hF
  have d1 : decide ((n : Int) ≤ 12) = true := decide_eq_true (by omega)
  go_enter Try.func76, Try.ntmps76
  go_wp2_with fail
  go_loop [1, 2, 3] (fun a b l => a = .int .i64 0 ∧ b = .int .i64 n) (fun _ _ _ => 0)
  case atStart => exact ⟨rfl, rfl⟩
  case round =>
    obtain ⟨rfl, rfl⟩ := hrel
    go_wp2_with fail
    refine (insSortF l n cap g _ HF.out h12 h1 HBD.out).mono ?_; rintro e w' ⟨rfl, hf⟩
    have HF2 := Lib.hid hf
    clear hf
    go_wp2_with fail
    refine bodyPost_ret (results_none rfl _ _ _) rfl ?_
    exact ⟨rfl, HF2.out⟩

set_option maxRecDepth 100000 in
theorem len64_12F (n : Nat) (h : n ≤ 12) (w : World) : Calls Try.prog 87 #[.int .u64 n] w fun e w' => (∃ L, e = .returned (.int .i64 L)) ∧ w = w' := by
  have : n = 0 ∨ n = 1 ∨ n = 2 ∨ n = 3 ∨ n = 4 ∨ n = 5 ∨ n = 6 ∨ n = 7 ∨ n = 8 ∨ n = 9 ∨ n = 10 ∨ n = 11 ∨ n = 12 := by omega
  rcases this with rfl | rfl | rfl | rfl | rfl | rfl | rfl | rfl | rfl | rfl | rfl | rfl | rfl
  all_goals
    go_enter Try.func87, Try.ntmps87
    go_wp2_with fail
    go_ret
    exact ⟨⟨_, rfl⟩, rfl⟩
set_option maxRecDepth 100000 in
theorem len_12F (n : Nat) (h : n ≤ 12) (w : World) : Calls Try.prog 77 #[.int .u64 n] w fun e w' => (∃ L, e = .returned (.int .i64 L)) ∧ w = w' := by
  go_enter Try.func77, Try.ntmps77
  go_wp2_with fail
  refine (len64_12F n h _).mono ?_; rintro e w' ⟨⟨L, rfl⟩, rfl⟩
  go_wp2_with fail
  go_ret
  exact ⟨⟨_, rfl⟩, rfl⟩
set_option maxRecDepth 100000 in
theorem slSortF {w0 : World} {L : List Ent} (l : List Int) (n cap g : Nat) (w : World) (hF : Fr w0 w (⟨3, .slice (some ⟨g, 0, .none⟩) n cap, ints l⟩ :: L)) (h12 : n ≤ 12) (h1 : 1 ≤ n) (hb : ∀ v ∈ l, 0 ≤ v ∧ v ≤ 1000) :
    Calls Try.prog 71 #[.slice (some ⟨g, 0, .none⟩) n cap, .func (.func 72) #[] #[]] w fun e w' => e = .returned (.tuple #[]) ∧ Fr w0 w' (⟨3, .slice (some ⟨g, 0, .none⟩) n cap, ints (insSd l n)⟩ :: L) := by
  have HF := Lib.hid hF; have HBD := Lib.hid hb
  clear hb
  clear hF
  go_enter Try.func71, Try.ntmps71
  go_wp2_with fail
  refine (len_12F n h12 _).mono ?_; rintro e w' ⟨⟨x, rfl⟩, rfl⟩
  go_wp2_with fail
  refine (pdqSmallF l n cap g x _ HF.out h12 h1 HBD.out).mono ?_; rintro e w' ⟨rfl, hf⟩
  have HF2 := Lib.hid hf
  clear hf
  go_wp2_with fail
  go_end0
  exact ⟨rfl, HF2.out⟩


/-! what it gives: the greatest ahead -/
theorem swL_nth (l : List Int) (i k p : Nat) (hi : i < l.length) (hk : k < l.length) : nth (swL l i k) p = if p = k then nth l i else if p = i then nth l k else nth l p := by
  unfold swL
  rw [nth_set _ _ _ _ (by simpa using hk), nth_set _ _ _ _ hi]
theorem insJd_len (j : Nat) (l : List Int) (h : j < l.length) : (insJd j l).length = l.length := (insJd_perm j l h).length_eq.symm
theorem insJd_desc : ∀ (j K : Nat) (q : List Int), j ≤ K → K < q.length → (∀ a b, a < b → b ≤ K → a ≠ j → b ≠ j → nth q b ≤ nth q a) → (∀ b, j < b → b ≤ K → nth q b ≤ nth q j) →
    ∀ a b, a < b → b ≤ K → nth (insJd j q) b ≤ nth (insJd j q) a
  | 0, K, q, _, _, h1, h2 => fun a b hab hb => by
    rw [insJd]
    by_cases e : a = 0
    · subst e; exact h2 b hab hb
    · exact h1 a b hab hb e (by omega)
  | j + 1, K, q, hjK, hK, h1, h2 => fun a b hab hb => by
    rw [insJd]
    have n := fun p => swL_nth q (j + 1) j p (by omega) (by omega)
    by_cases hc : nth q j < nth q (j + 1)
    · rw [if_pos hc]
      refine insJd_desc j K (swL q (j + 1) j) (by omega) (by rw [swL_len]; exact hK) (fun a b hab hb ha' hb' => ?_) (fun b hjb hb => ?_) a b hab hb
      · rw [n, n, if_neg hb', if_neg ha']
        by_cases e1 : b = j + 1
        · rw [if_pos e1, if_neg (by omega)]; exact h1 a j (by omega) (by omega) (by omega) (by omega)
        · rw [if_neg e1]
          by_cases e2 : a = j + 1
          · rw [if_pos e2]; exact h1 j b (by omega) hb (by omega) e1
          · rw [if_neg e2]; exact h1 a b hab hb e2 e1
      · rw [n, n, if_pos rfl, if_neg (by omega)]
        by_cases e1 : b = j + 1
        · rw [if_pos e1]; omega
        · rw [if_neg e1]; exact h2 b (by omega) hb
    · rw [if_neg hc]
      by_cases e1 : b = j + 1
      · subst e1
        by_cases e2 : a = j
        · subst e2; omega
        · have := h1 a j (by omega) (by omega) (by omega) (by omega); omega
      · by_cases e2 : a = j + 1
        · subst e2; exact h2 b hab hb
        · exact h1 a b hab hb e2 e1
theorem insSd_desc (l : List Int) : ∀ i, i ≤ l.length → ∀ a b, a < b → b < i → nth (insSd l i) b ≤ nth (insSd l i) a
  | 0, _ => fun a b _ hb => by omega
  | i + 1, h => fun a b hab hb => by
    have ih := insSd_desc l i (by omega)
    have hl := (insSd_perm l i (by omega)).length_eq
    rw [insSd]
    refine insJd_desc i i (insSd l i) (Nat.le_refl _) (by omega) (fun a b hab hb ha' hb' => ih a b hab (by omega)) (fun b h1 h2 => by omega) a b hab (by omega)
theorem insSd_pw (l : List Int) : (insSd l l.length).Pairwise (fun a b => b ≤ a) := by
  have hl := (insSd_perm l l.length (Nat.le_refl _)).length_eq
  refine List.pairwise_iff_getElem.2 fun i j hi hj hij => ?_
  have := insSd_desc l l.length (Nat.le_refl _) i j hij (by omega)
  simpa [nth, hi, hj] using this
theorem insSd_eq {l m : List Int} (h : l.Perm m) : insSd l l.length = insSd m m.length :=
  List.Perm.eq_of_pairwise (le := fun a b => b ≤ a) (fun a b _ _ h1 h2 => by omega) (insSd_pw l) (insSd_pw m) (((insSd_perm l l.length (Nat.le_refl _)).symm.trans h).trans (insSd_perm m m.length (Nat.le_refl _)))
end Go.Proofs.Ytefblcchmkmfpaa
namespace Go.Proofs.Ytefblcchmkmfpaa
open Go.RowKit

open Classical in
/-- none of its turn is less -/
noncomputable def isMinB (p : List Int) (j : Nat) : Bool := decide (∀ t, j ≤ itP p t j)
noncomputable def cntMin (p : List Int) (i : Nat) : Nat := (List.range i).countP (isMinB p)
theorem cntMin_succ (p : List Int) (i : Nat) : cntMin p (i + 1) = cntMin p i + if isMinB p i = true then 1 else 0 := by
  unfold cntMin; rw [List.range_succ, List.countP_append]; simp [List.countP_cons]
structure OutI (p : List Int) (i : Nat) (S : Nat → Bool) (out : List Nat) : Prop where
  fwd : ∀ v, v < p.length → S v = true → S (pf p v) = true
  bwd : ∀ v, v < p.length → S (pf p v) = true → S v = true
  all : ∀ j, j < i → S j = true
  from_ : ∀ v, v < p.length → S v = true → ∃ j, j < i ∧ ∃ t, itP p t j = v
  sum : ∀ g : Nat → Nat, (out.map fun x => x * g x).sum = sumN (fun v => if S v = true then g (ol p v) else 0) p.length
  pos : ∀ x ∈ out, 1 ≤ x ∧ x ≤ p.length
  cnt : out.length = cntMin p i
  le : out.length ≤ i
theorem OutI.zero (p : List Int) : OutI p 0 (fun _ => false) [] :=
  ⟨fun _ _ h => by simp at h, fun _ _ h => by simp at h, fun j h => by omega, fun _ _ h => by simp at h, fun g => by simp [sumN_zero], by simp, by simp [cntMin], by simp⟩
section
variable {p : List Int} (h : IsP p) {i : Nat} {S : Nat → Bool} {out : List Nat} (hi : i < p.length) (H : OutI p i S out)
include h hi H
omit hi in
theorem OutI.fwdN {v : Nat} (hv : v < p.length) (hS : S v = true) : ∀ t, S (itP p t v) = true
  | 0 => hS
  | t + 1 => H.fwd _ (itP_lt h hv t) (OutI.fwdN hv hS t)
omit hi in
theorem OutI.bwdN {v : Nat} (hv : v < p.length) : ∀ t, S (itP p t v) = true → S v = true
  | 0, hS => hS
  | t + 1, hS => OutI.bwdN hv t (H.bwd _ (itP_lt h hv t) hS)
theorem OutI.min : isMinB p i = !S i := by
  unfold isMinB
  cases hS : S i with
  | true =>
    obtain ⟨j, hj, t, e⟩ := H.from_ i hi hS
    simp only [Bool.not_true, decide_eq_false_iff_not]
    intro hall
    -- from j to i in t; back from i to j
    have hjl : j < p.length := by omega
    have hb := itP_mul h hjl t
    have o1 := (ol_spec h hjl).1
    have : itP p (t * ol p j - t) i = j := by
      rw [← e, ← itP_add]
      have : t * ol p j - t + t = t * ol p j := Nat.sub_add_cancel (Nat.le_mul_of_pos_right t o1)
      rw [this]; exact hb
    have := hall (t * ol p j - t)
    omega
  | false =>
    simp only [Bool.not_false, decide_eq_true_eq]
    intro t
    rcases Nat.lt_or_ge (itP p t i) i with h1 | h1
    · have h2 := H.all _ h1
      have := OutI.bwdN h H hi t h2
      rw [hS] at this; cases this
    · exact h1
/-- a place that was come to -/
theorem OutI.skip (hS : S i = true) : OutI p (i + 1) S out := by
  have hm := OutI.min h hi H
  refine ⟨H.fwd, H.bwd, fun j hj => ?_, fun v hv hs => ?_, H.sum, H.pos, ?_, by have := H.le; omega⟩
  · by_cases e : j = i
    · rw [e]; exact hS
    · exact H.all j (by omega)
  · obtain ⟨j, hj, e⟩ := H.from_ v hv hs; exact ⟨j, by omega, e⟩
  · rw [cntMin_succ, hm, hS, H.cnt]; simp
end
/-- within a turn, m places on -/
def Sm (p : List Int) (i : Nat) (S : Nat → Bool) (m : Nat) : Nat → Bool := fun v => S v || (List.range m).any (fun t => itP p t i == v)
theorem Sm_zero (p : List Int) (i : Nat) (S : Nat → Bool) : Sm p i S 0 = S := by funext v; simp [Sm]
theorem Sm_true {p : List Int} {i : Nat} {S : Nat → Bool} {m v : Nat} : Sm p i S m v = true ↔ S v = true ∨ ∃ t, t < m ∧ itP p t i = v := by
  unfold Sm
  rw [Bool.or_eq_true, List.any_eq_true]
  simp only [List.mem_range, beq_iff_eq]
theorem Sm_succ (p : List Int) (i : Nat) (S : Nat → Bool) (m : Nat) : (fun v => if v = itP p m i then true else Sm p i S m v) = Sm p i S (m + 1) := by
  funext v
  rw [Bool.eq_iff_iff, Sm_true]
  by_cases e : v = itP p m i
  · rw [if_pos e]; exact ⟨fun _ => .inr ⟨m, by omega, e.symm⟩, fun _ => rfl⟩
  · rw [if_neg e, Sm_true]
    constructor
    · rintro (h | ⟨t, ht, h⟩)
      · exact .inl h
      · exact .inr ⟨t, by omega, h⟩
    · rintro (h | ⟨t, ht, h⟩)
      · exact .inl h
      · by_cases e2 : t = m
        · subst e2; exact absurd h.symm e
        · exact .inr ⟨t, by omega, h⟩
section
variable {p : List Int} (h : IsP p) {i : Nat} {S : Nat → Bool} {out : List Nat} (hi : i < p.length) (H : OutI p i S out) (hS : S i = false)
include h hi H hS
/-- not yet back -/
theorem OutI.new {m : Nat} (hm : m < ol p i) : Sm p i S m (itP p m i) = false := by
  cases hc : Sm p i S m (itP p m i) with
  | false => rfl
  | true =>
    exfalso
    rcases Sm_true.1 hc with h1 | ⟨t, ht, e⟩
    · have := OutI.bwdN h H hi m h1; rw [hS] at this; cases this
    · exact itP_ne h hi ht hm e
omit H hS in
theorem Sm_back : Sm p i S (ol p i) (itP p (ol p i) i) = true := by
  obtain ⟨o1, _, o3, _⟩ := ol_spec h hi
  exact Sm_true.2 (.inr ⟨0, by omega, by rw [o3]; rfl⟩)
theorem Sm_sum (g : Nat → Nat) : ∀ m, m ≤ ol p i → sumN (fun v => if Sm p i S m v = true then g (ol p v) else 0) p.length = sumN (fun v => if S v = true then g (ol p v) else 0) p.length + m * g (ol p i)
  | 0, _ => by rw [Sm_zero]; omega
  | m + 1, hm => by
    have ih := Sm_sum g m (by omega)
    have hk := itP_lt h hi m
    have hn := OutI.new h hi H hS (m := m) (by omega)
    have := sumN_upd (fun v => if Sm p i S m v = true then g (ol p v) else 0) (itP p m i) (g (ol p i)) p.length hk
    simp only [hn, Bool.false_eq_true, if_false] at this
    have e : sumN (fun v => if Sm p i S (m + 1) v = true then g (ol p v) else 0) p.length = sumN (fun v => if v = itP p m i then g (ol p i) else if Sm p i S m v = true then g (ol p v) else 0) p.length := by
      refine sumN_congr _ fun v _ => ?_
      rw [← Sm_succ]
      by_cases e : v = itP p m i
      · simp only [e, if_true]; rw [ol_it h hi]
      · simp only [if_neg e]
    rw [e, Nat.add_mul, Nat.one_mul]
    omega
theorem OutI.turn : OutI p (i + 1) (Sm p i S (ol p i)) (out ++ [ol p i]) := by
  obtain ⟨o1, o2, o3, o4⟩ := ol_spec h hi
  have hmn := OutI.min h hi H
  refine ⟨fun v hv hs => ?_, fun v hv hs => ?_, fun j hj => ?_, fun v hv hs => ?_, fun g => ?_, fun x hx => ?_, ?_, ?_⟩
  · rcases Sm_true.1 hs with h1 | ⟨t, ht, rfl⟩
    · exact Sm_true.2 (.inl (H.fwd v hv h1))
    · refine Sm_true.2 (.inr ?_)
      by_cases e : t + 1 = ol p i
      · exact ⟨0, by omega, by rw [show pf p (itP p t i) = itP p (t + 1) i from rfl, e, o3]; rfl⟩
      · exact ⟨t + 1, by omega, rfl⟩
  · rcases Sm_true.1 hs with h1 | ⟨t, ht, e⟩
    · exact Sm_true.2 (.inl (H.bwd v hv h1))
    · refine Sm_true.2 (.inr ?_)
      rcases t with _ | t
      · refine ⟨ol p i - 1, by omega, pf_inj h (itP_lt h hi _) hv ?_⟩
        rw [← e, show pf p (itP p (ol p i - 1) i) = itP p (ol p i - 1 + 1) i from rfl, show ol p i - 1 + 1 = ol p i by omega, o3]; rfl
      · exact ⟨t, by omega, pf_inj h (itP_lt h hi _) hv e⟩
  · by_cases e : j = i
    · subst e; exact Sm_true.2 (.inr ⟨0, by omega, rfl⟩)
    · exact Sm_true.2 (.inl (H.all j (by omega)))
  · rcases Sm_true.1 hs with h1 | ⟨t, ht, e⟩
    · obtain ⟨j, hj, e⟩ := H.from_ v hv h1; exact ⟨j, by omega, e⟩
    · exact ⟨i, by omega, t, e⟩
  · rw [Sm_sum h hi H hS g (ol p i) (Nat.le_refl _), List.map_append, List.sum_append, H.sum g]; simp
  · rcases List.mem_append.1 hx with hx | hx
    · exact H.pos x hx
    · rw [List.mem_singleton.1 hx]; exact ⟨o1, o2⟩
  · rw [List.length_append, cntMin_succ, hmn, hS, H.cnt]; simp
  · rw [List.length_append]; have := H.le; simp; omega
end
/-- what perm.Cycles has found -/
structure CycOk (p : List Int) (out : List Nat) : Prop where
  sum : ∀ g : Nat → Nat, (out.map fun x => x * g x).sum = sumN (fun v => g (ol p v)) p.length
  pos : ∀ x ∈ out, 1 ≤ x ∧ x ≤ p.length
  cnt : out.length = cntMin p p.length
  le : out.length ≤ p.length
theorem OutI.ok {p : List Int} {S : Nat → Bool} {out : List Nat} (H : OutI p p.length S out) : CycOk p out :=
  ⟨fun g => by rw [H.sum g]; exact sumN_congr _ fun v hv => by rw [if_pos (H.all v hv)], H.pos, H.cnt, H.le⟩
def natI (l : List Nat) : List Int := l.map fun x : Nat => (x : Int)
theorem natI_len (l : List Nat) : (natI l).length = l.length := by simp [natI]
def cycL (out : List Nat) : List Int := insSd (natI out) (natI out).length
theorem cycL_perm (out : List Nat) : (natI out).Perm (cycL out) := insSd_perm _ _ (Nat.le_refl _)
theorem cycL_len (out : List Nat) : (cycL out).length = out.length := by rw [← (cycL_perm out).length_eq, natI_len]
theorem sum_pick (d : Nat) : ∀ out : List Nat, (out.map fun x => x * (if x = d then 1 else 0)).sum = d * out.count d
  | [] => by simp
  | x :: out => by
    rw [List.map_cons, List.sum_cons, sum_pick d out, List.count_cons]
    by_cases e : x = d
    · subst e; simp [Nat.mul_add]; omega
    · rw [if_neg e]; simp [e]
/-- two orders whose ways back are as long, as often -/
theorem cycL_eq {p q : List Int} {o1 o2 : List Nat} (h1 : CycOk p o1) (h2 : CycOk q o2) (he : ∀ g : Nat → Nat, sumN (fun v => g (ol p v)) p.length = sumN (fun v => g (ol q v)) q.length) : cycL o1 = cycL o2 := by
  refine insSd_eq (List.Perm.map _ (List.perm_iff_count.2 fun d => ?_))
  rcases Nat.eq_zero_or_pos d with hd | hd
  · subst hd
    rw [List.count_eq_zero.2 (fun hx => by have := h1.pos 0 hx; omega), List.count_eq_zero.2 (fun hx => by have := h2.pos 0 hx; omega)]
  · have e1 := h1.sum (fun x => if x = d then 1 else 0)
    have e2 := h2.sum (fun x => if x = d then 1 else 0)
    rw [sum_pick] at e1 e2
    have := he (fun x => if x = d then 1 else 0)
    rw [← e1, ← e2] at this
    exact Nat.eq_of_mul_eq_mul_left hd this
/-! the seen ones, as the cells of an array -/
def snB (S : Nat → Bool) : List Value := (List.range 10).map fun v => Value.bool (S v)
theorem snB_len (S : Nat → Bool) : (snB S).length = 10 := by simp [snB]
theorem snB_get (S : Nat → Bool) (v : Nat) (h : v < 10) : (snB S)[v]? = some (.bool (S v)) := by simp [snB, h]
theorem snB_set (S : Nat → Bool) (k : Nat) (hk : k < 10) : (snB S).set k (.bool true) = snB (fun v => if v = k then true else S v) := by
  refine List.ext_getElem? fun i => ?_
  rw [List.getElem?_set, snB_len]
  by_cases e : k = i
  · subst e; rw [if_pos rfl, if_pos hk, snB_get _ _ hk, if_pos rfl]
  · rw [if_neg e]
    by_cases hi : i < 10
    · rw [snB_get _ _ hi, snB_get _ _ hi, if_neg (fun e' => e e'.symm)]
    · rw [List.getElem?_eq_none (by rw [snB_len]; omega), List.getElem?_eq_none (by rw [snB_len]; omega)]
end Go.Proofs.Ytefblcchmkmfpaa
namespace Go.Proofs.Ytefblcchmkmfpaa
open Go.RowKit

/-! turns and changes -/
section
variable {o : List Int} (h : IsP o)
include h
omit h in
theorem pf_sw_at {x : Nat} (hx : x ≤ o.length) : pf (sw o o.length x) x = o.length := by
  unfold pf; rw [sw_nth _ _ _ hx, if_pos rfl]; simp
omit h in
theorem pf_sw_last {x : Nat} (hx : x < o.length) : pf (sw o o.length x) o.length = pf o x := by
  unfold pf; rw [sw_nth _ _ _ (by omega), if_neg (by omega), if_pos rfl]
omit h in
theorem pf_sw_else {x i : Nat} (hx : x ≤ o.length) (h1 : i ≠ x) (h2 : i < o.length) : pf (sw o o.length x) i = pf o i := by
  unfold pf; rw [sw_nth _ _ _ hx, if_neg h1, if_neg (by omega)]
/-- the way in o is in the new one -/
theorem sw_way {x v : Nat} (hx : x ≤ o.length) (hv : v < o.length) : ∀ t, ∃ t', itP (sw o o.length x) t' v = itP o t v
  | 0 => ⟨0, rfl⟩
  | t + 1 => by
    obtain ⟨t', e⟩ := sw_way hx hv t
    have hu := itP_lt h hv t
    by_cases hxu : itP o t v = x
    · refine ⟨t' + 2, ?_⟩
      rw [itP, itP, e, hxu, pf_sw_at hx, pf_sw_last (by omega)]
      rw [itP, hxu]
    · exact ⟨t' + 1, by rw [itP, e, pf_sw_else hx hxu hu, itP]⟩
/-- the way in the new one is in o, but for the new place -/
theorem sw_way' {x v : Nat} (hx : x ≤ o.length) (hv : v < o.length) : ∀ t, (∃ t', itP (sw o o.length x) t v = itP o t' v) ∨ (itP (sw o o.length x) t v = o.length ∧ x < o.length ∧ ∃ t', itP o t' v = x)
  | 0 => .inl ⟨0, rfl⟩
  | t + 1 => by
    rcases sw_way' hx hv t with ⟨t', e⟩ | ⟨e, hxl, t', e'⟩
    · have hu := itP_lt h hv t'
      by_cases hxu : itP o t' v = x
      · exact .inr ⟨by rw [itP, e, hxu, pf_sw_at hx], by omega, t', hxu⟩
      · exact .inl ⟨t' + 1, by rw [itP, e, pf_sw_else hx hxu hu, itP]⟩
    · exact .inl ⟨t' + 1, by rw [itP, e, pf_sw_last hxl, itP, e']⟩
theorem isMin_sw {x v : Nat} (hx : x ≤ o.length) (hv : v < o.length) : isMinB (sw o o.length x) v = isMinB o v := by
  unfold isMinB
  rw [Bool.eq_iff_iff]
  simp only [decide_eq_true_eq]
  constructor
  · intro hall t
    obtain ⟨t', e⟩ := sw_way h hx hv t
    rw [← e]; exact hall t'
  · intro hall t
    rcases sw_way' h hx hv t with ⟨t', e⟩ | ⟨e, _⟩
    · rw [e]; exact hall t'
    · rw [e]; omega
theorem isMin_sw_last {x : Nat} (hx : x ≤ o.length) : isMinB (sw o o.length x) o.length = decide (x = o.length) := by
  unfold isMinB
  rw [Bool.eq_iff_iff]
  simp only [decide_eq_true_eq]
  constructor
  · intro hall
    refine Classical.byContradiction fun hne => ?_
    have h1 := hall 1
    rw [show itP (sw o o.length x) 1 o.length = pf (sw o o.length x) o.length from rfl, pf_sw_last (by omega)] at h1
    have := pf_lt h (show x < o.length by omega)
    omega
  · rintro rfl t
    have : ∀ t, itP (sw o o.length o.length) t o.length = o.length := fun t => by
      induction t with
      | zero => rfl
      | succ t ih => rw [itP, ih, pf_sw_at (Nat.le_refl _)]
    rw [this t]; exact Nat.le_refl _
theorem cntMin_sw {x : Nat} (hx : x ≤ o.length) : cntMin (sw o o.length x) (o.length + 1) = cntMin o o.length + if x = o.length then 1 else 0 := by
  rw [cntMin_succ, isMin_sw_last h hx]
  have : cntMin (sw o o.length x) o.length = cntMin o o.length := by
    unfold cntMin
    exact List.countP_congr fun v hv => by rw [isMin_sw h hx (List.mem_range.1 hv)]
  rw [this]
  by_cases e : x = o.length
  · simp [e]
  · simp [e]
end
/-- how many changes make it -/
def mvN : Nat → List Int → Nat
  | 0, _ => 0
  | i + 1, q => mvN i (unsw q i) + if idxL q i = i then 0 else 1
theorem turns_moves : ∀ (n : Nat) (q : List Int), q.length = n → IsP q → cntMin q n + mvN n q = n
  | 0, q, hl, h => by simp [cntMin, mvN]
  | n + 1, q, hl, h => by
    obtain ⟨a1, a2, a3, a4, a5⟩ := sw_unsw q n hl h
    have ih := turns_moves n (unsw q n) a3 a4
    have e := cntMin_sw a4 (x := idxL q n) (by rw [a3]; exact a1)
    rw [a3, a5] at e
    rw [e, mvN]
    split <;> omega

/-! changes and crossings -/
def invN : List Int → Nat
  | [] => 0
  | x :: l => lessC x l + invN l
theorem invN_code : ∀ l, ((invN l : Nat) : Int) = isumR (codeL l)
  | [] => rfl
  | x :: l => by rw [invN, codeL, isumR, ← invN_code l]; omega
theorem invN_app (A B : List Int) (hAB : ∀ a ∈ A, ∀ b ∈ B, a < b) : invN (A ++ B) = invN A + invN B := by
  induction A with
  | nil => simp [invN]
  | cons a A ih =>
    have h0 : lessC a B = 0 := List.countP_eq_zero.2 fun b hb => by have := hAB a List.mem_cons_self b hb; simp; omega
    rw [List.cons_append, invN, invN, lessC_app, h0, ih (fun a' ha' => hAB a' (List.mem_cons_of_mem _ ha'))]; omega
def gtC (x : Int) (l : List Int) : Nat := l.countP (fun y => decide (x < y))
theorem lt_gt (x : Int) (l : List Int) (h : x ∉ l) : lessC x l + gtC x l = l.length := by
  induction l with
  | nil => rfl
  | cons y l ih =>
    have h1 : x ≠ y := fun e => h (e ▸ List.mem_cons_self)
    have := ih (fun hm => h (List.mem_cons_of_mem _ hm))
    rw [lessC_cons]
    unfold gtC at this ⊢
    rw [List.countP_cons, List.length_cons]
    by_cases c : y < x
    · rw [if_pos c]; simp [show ¬ x < y by omega]; omega
    · rw [if_neg c]; simp [show x < y by omega]; omega
/-- crossings of what stands ahead with what stands behind -/
def xx : List Int → List Int → Nat
  | [], _ => 0
  | a :: A, B => lessC a B + xx A B
theorem invN_split (A B : List Int) : invN (A ++ B) = invN A + xx A B + invN B := by
  induction A with
  | nil => simp [invN, xx]
  | cons a A ih => rw [List.cons_append, invN, invN, xx, lessC_app, ih]; omega
theorem xx_cons (A : List Int) (y : Int) (B : List Int) : xx A (y :: B) = gtC y A + xx A B := by
  induction A with
  | nil => rfl
  | cons a A ih =>
    rw [xx, xx, ih, lessC_cons]
    unfold gtC
    rw [List.countP_cons]
    by_cases c : y < a
    · rw [if_pos c]; simp [c]; omega
    · rw [if_neg c]; simp [c]; omega
/-- two changed: odd -/
theorem inv_change (A B C : List Int) (x y : Int) (hxy : x ≠ y) (hxB : x ∉ B) (hyB : y ∉ B) : (invN (A ++ x :: (B ++ y :: C)) + invN (A ++ y :: (B ++ x :: C))) % 2 = 1 := by
  have e : ∀ x y : Int, invN (A ++ x :: (B ++ y :: C)) = invN A + (gtC x A + (xx A B + gtC y A + xx A C)) + (lessC x B + (lessC x C + if y < x then 1 else 0) + (invN B + (gtC y B + xx B C) + (lessC y C + invN C))) := fun x y => by
    have hx : xx A (B ++ y :: C) = xx A B + gtC y A + xx A C := by
      have : ∀ B' : List Int, xx A (B' ++ y :: C) = xx A B' + (gtC y A + xx A C) := fun B' => by
        induction B' with
        | nil => rw [List.nil_append, xx_cons]; have : xx A [] = 0 := by induction A with | nil => rfl | cons a A ih => rw [xx, ih]; rfl
                 omega
        | cons b B' ih => rw [List.cons_append, xx_cons, ih, xx_cons]; omega
      rw [this]; omega
    rw [invN_split, xx_cons, hx, invN, lessC_app, lessC_cons, invN_split B, xx_cons, invN]
  rw [e x y, e y x]
  have h1 := lt_gt x B hxB
  have h2 := lt_gt y B hyB
  rcases Int.lt_or_gt_of_ne hxy with c | c
  · rw [if_neg (show ¬ y < x by omega), if_pos c]; omega
  · rw [if_pos (show y < x by omega), if_neg (show ¬ x < y by omega)]; omega
theorem swp_split (p : List Int) (a b : Nat) (hab : a < b) (hb : b < p.length) : ∃ A B C, p = A ++ nth p a :: (B ++ nth p b :: C) ∧ swp p a b = A ++ nth p b :: (B ++ nth p a :: C) ∧ A.length = a ∧ A.length + 1 + B.length = b := by
  have n1 : nth p a = p[a]'(by omega) := by simp [nth, show a < p.length by omega]
  have n2 : nth p b = p[b] := by simp [nth, hb]
  have e1 : p = p.take a ++ nth p a :: p.drop (a + 1) := by rw [n1, ← List.drop_eq_getElem_cons (by omega), List.take_append_drop]
  have e2 : p.drop (a + 1) = (p.drop (a + 1)).take (b - a - 1) ++ nth p b :: p.drop (b + 1) := by
    have h3 : (p.drop (a + 1)).drop (b - a - 1) = p.drop b := by rw [List.drop_drop]; congr 1; omega
    have h4 : p.drop b = nth p b :: p.drop (b + 1) := by rw [n2, ← List.drop_eq_getElem_cons hb]
    rw [← h4, ← h3, List.take_append_drop]
  have la : (p.take a).length = a := by rw [List.length_take]; omega
  have lb : ((p.drop (a + 1)).take (b - a - 1)).length = b - a - 1 := by rw [List.length_take, List.length_drop]; omega
  refine ⟨p.take a, (p.drop (a + 1)).take (b - a - 1), p.drop (b + 1), ?_, ?_, la, by omega⟩
  · rw [← e2]; exact e1
  · have e3 : p = p.take a ++ nth p a :: ((p.drop (a + 1)).take (b - a - 1) ++ nth p b :: p.drop (b + 1)) := by rw [← e2]; exact e1
    unfold swp
    generalize nth p a = x at *
    generalize nth p b = y at *
    generalize p.take a = A at *
    generalize (p.drop (a + 1)).take (b - a - 1) = B at *
    generalize p.drop (b + 1) = C at *
    subst e3
    rw [List.set_append_right _ _ (by omega), List.set_append_right _ _ (by omega), show a - A.length = 0 by omega, show b - A.length = (B.length) + 1 by omega, List.set_cons_zero, List.set_cons_succ, List.set_append_right _ _ (Nat.le_refl _), Nat.sub_self, List.set_cons_zero]
theorem swp_comm (p : List Int) (a b : Nat) (ha : a < p.length) (hb : b < p.length) : swp p a b = swp p b a := by
  refine ext_nth (by rw [swp_len, swp_len]) fun i hi => ?_
  rw [swp_nth _ _ _ _ ha hb, swp_nth _ _ _ _ hb ha]
  by_cases h1 : i = b <;> by_cases h2 : i = a
  · rw [if_pos h1, if_pos h2]; rw [← h1, ← h2]
  · rw [if_pos h1, if_neg h2, if_pos h1]
  · rw [if_neg h1, if_pos h2, if_pos h2]
  · rw [if_neg h1, if_neg h2, if_neg h2, if_neg h1]
theorem inv_swp {p : List Int} (h : IsP p) {a b : Nat} (ha : a < p.length) (hb : b < p.length) (hne : a ≠ b) : (invN p + invN (swp p a b)) % 2 = 1 := by
  have main : ∀ a b, a < b → b < p.length → (invN p + invN (swp p a b)) % 2 = 1 := fun a b hab hb => by
    obtain ⟨A, B, C, e1, e2, l1, l2⟩ := swp_split p a b hab hb
    have nd : ∀ i j, i < p.length → j < p.length → i ≠ j → nth p i ≠ nth p j := fun i j hi hj hij e => hij (h.inj i j hi hj e)
    have hB : ∀ k, k < B.length → nth p (a + 1 + k) = nth B k := fun k hk => by
      have na : ∀ (u v : List Int) (i : Nat), nth (u ++ v) (u.length + i) = nth v i := fun u v i => by
        unfold nth; rw [List.getD_eq_getElem?_getD, List.getD_eq_getElem?_getD, List.getElem?_append_right (by omega)]; congr 2; omega
      have nb : ∀ (u v : List Int) (i : Nat), i < u.length → nth (u ++ v) i = nth u i := fun u v i hi => by
        unfold nth; rw [List.getD_eq_getElem?_getD, List.getD_eq_getElem?_getD, List.getElem?_append_left hi]
      rw [e1, show a + 1 + k = A.length + (k + 1) by omega, na]
      rw [show nth (nth p a :: (B ++ nth p b :: C)) (k + 1) = nth (B ++ nth p b :: C) k from rfl, nb _ _ _ hk]
    have hxB : nth p a ∉ B := fun hm => by
      obtain ⟨k, hk, e⟩ := List.getElem_of_mem hm
      have : nth B k = nth p a := by simp [nth, hk] at e ⊢; exact e
      rw [← hB k hk] at this
      exact nd _ _ (by omega) (by omega) (by omega) this
    have hyB : nth p b ∉ B := fun hm => by
      obtain ⟨k, hk, e⟩ := List.getElem_of_mem hm
      have : nth B k = nth p b := by simp [nth, hk] at e ⊢; exact e
      rw [← hB k hk] at this
      exact nd _ _ (by omega) (by omega) (by omega) this
    have key := inv_change A B C (nth p a) (nth p b) (nd a b (by omega) hb (by omega)) hxB hyB
    rw [← e2, ← e1] at key; exact key
  rcases Nat.lt_or_gt_of_ne hne with c | c
  · exact main a b c hb
  · rw [swp_comm p a b ha hb]; exact main b a c ha
/-! an order of the first ones, and all others where they are -/
def extP (o : List Int) (n : Nat) : List Int := o ++ (List.range' o.length (n - o.length)).map fun i : Nat => (i : Int)
theorem extP_len (o : List Int) (n : Nat) (h : o.length ≤ n) : (extP o n).length = n := by simp [extP]; omega
theorem extP_nth (o : List Int) (n i : Nat) (_ho : o.length ≤ n) (hi : i < n) : nth (extP o n) i = if i < o.length then nth o i else i := by
  unfold extP nth
  rw [List.getD_eq_getElem?_getD, List.getElem?_append]
  by_cases c : i < o.length
  · rw [if_pos c, if_pos c]; simp [c]
  · rw [if_neg c, if_neg c, List.getElem?_map, List.getElem?_range' (by omega)]; simp; omega
theorem extP_all (o : List Int) : extP o o.length = o := by simp [extP]
theorem extP_nil (n : Nat) : extP [] n = (List.range n).map fun i : Nat => (i : Int) := by simp [extP, List.range_eq_range']
theorem extP_sw (o : List Int) (x n : Nat) (hx : x ≤ o.length) (hn : o.length < n) : extP (sw o o.length x) n = swp (extP o n) o.length x := by
  refine ext_nth (by rw [extP_len _ _ (by rw [sw_len]; omega), swp_len, extP_len _ _ (by omega)]) fun i hi => ?_
  rw [extP_len _ _ (by rw [sw_len]; omega)] at hi
  rw [extP_nth _ _ _ (by rw [sw_len]; omega) hi, swp_nth _ _ _ _ (by rw [extP_len _ _ (by omega)]; exact hn) (by rw [extP_len _ _ (by omega)]; omega), sw_len]
  rw [extP_nth o n i (by omega) hi, extP_nth o n o.length (by omega) hn, extP_nth o n x (by omega) (by omega), if_neg (Nat.lt_irrefl _)]
  by_cases c : i < o.length + 1
  · rw [if_pos c, sw_nth _ _ _ hx]
    by_cases e1 : i = x
    · rw [if_pos e1, if_pos e1]
    · rw [if_neg e1, if_neg e1]
      by_cases e2 : i = o.length
      · rw [if_pos e2, if_pos e2, if_pos (by omega)]
      · rw [if_neg e2, if_neg e2, if_pos (by omega)]
  · rw [if_neg c, if_neg (by omega), if_neg (by omega), if_neg (by omega)]
theorem extP_isP {o : List Int} (h : IsP o) : ∀ n, o.length ≤ n → IsP (extP o n) := fun n hn => by
  have l := extP_len o n hn
  refine ⟨fun i hi => ?_, fun i j hi hj e => ?_⟩
  · rw [l] at hi ⊢
    rw [extP_nth _ _ _ hn hi]; split
    · next c => have := h.bd i c; omega
    · omega
  · rw [l] at hi hj
    rw [extP_nth _ _ _ hn hi, extP_nth _ _ _ hn hj] at e
    by_cases c1 : i < o.length <;> by_cases c2 : j < o.length
    · rw [if_pos c1, if_pos c2] at e; exact h.inj i j c1 c2 e
    · rw [if_pos c1, if_neg c2] at e; have := h.bd i c1; omega
    · rw [if_neg c1, if_pos c2] at e; have := h.bd j c2; omega
    · rw [if_neg c1, if_neg c2] at e; omega
theorem tm_swp {a b : List Int} (u v : Nat) (hu : u < b.length) (hv : v < b.length) : tmL a (swp b u v) = swp (tmL a b) u v := by
  refine ext_nth (by rw [tmL_len, swp_len, swp_len, tmL_len]) fun i hi => ?_
  rw [tmL_len, swp_len] at hi
  rw [tmL_nth _ _ _ (by rw [swp_len]; exact hi), swp_nth _ _ _ _ hu hv, swp_nth _ _ _ _ (by rw [tmL_len]; exact hu) (by rw [tmL_len]; exact hv), tmL_nth _ _ _ hu, tmL_nth _ _ _ hv, tmL_nth _ _ _ hi]
  split
  · rfl
  · split <;> rfl
/-- the crossings of a after b: those of a, and as many changes as make b, but for twos -/
theorem inv_tm_ext {a : List Int} (ha : IsP a) : ∀ (i : Nat) (o : List Int), o.length = i → IsP o → i ≤ a.length → (invN (tmL a (extP o a.length)) + invN a + mvN i o) % 2 = 0
  | 0, o, hl, _, _ => by
    rw [List.eq_nil_of_length_eq_zero hl]
    have : tmL a (extP [] a.length) = a := by
      refine ext_nth (by rw [tmL_len, extP_len _ _ (by simp)]) fun i hi => ?_
      rw [tmL_len, extP_len _ _ (by simp)] at hi
      rw [tmL_nth _ _ _ (by rw [extP_len _ _ (by simp)]; exact hi), extP_nth _ _ _ (by simp) hi, if_neg (by simp)]
      simp
    rw [this, mvN]; omega
  | i + 1, q, hl, h, hi => by
    obtain ⟨a1, a2, a3, a4, a5⟩ := sw_unsw q i hl h
    have ih := inv_tm_ext ha i (unsw q i) a3 a4 (by omega)
    have e := extP_sw (unsw q i) (idxL q i) a.length (by rw [a3]; exact a1) (by rw [a3]; omega)
    rw [a3, a5] at e
    have lx := extP_len (unsw q i) a.length (by rw [a3]; omega)
    rw [e, tm_swp _ _ (by rw [lx]; omega) (by rw [lx]; omega), mvN]
    by_cases c : idxL q i = i
    · rw [if_pos c, c]
      have : swp (tmL a (extP (unsw q i) a.length)) i i = tmL a (extP (unsw q i) a.length) := by
        have lt : (tmL a (extP (unsw q i) a.length)).length = a.length := by rw [tmL_len, lx]
        refine ext_nth (by rw [swp_len]) fun j hj => ?_
        rw [swp_nth _ _ _ _ (by rw [lt]; omega) (by rw [lt]; omega)]
        split
        · next e => rw [e]
        · rfl
      rw [this]; omega
    · rw [if_neg c]
      have hp := tm_isP ha (extP_isP a4 a.length (by rw [a3]; omega)) (by rw [lx])
      have := inv_swp hp (a := i) (b := idxL q i) (by rw [tmL_len, lx]; omega) (by rw [tmL_len, lx]; omega) (fun e => c e.symm)
      omega
theorem inv_id (n : Nat) : invN (extP [] n) = 0 := by
  have : ∀ (k s : Nat), invN ((List.range' s k).map fun i : Nat => (i : Int)) = 0 := fun k => by
    induction k with
    | zero => intro s; rfl
    | succ k ih =>
      intro s
      rw [List.range'_succ, List.map_cons, invN, ih (s + 1)]
      have : lessC (s : Int) ((List.range' (s + 1) k).map fun i : Nat => (i : Int)) = 0 := List.countP_eq_zero.2 fun b hb => by
        obtain ⟨u, hu, rfl⟩ := List.mem_map.1 hb
        have := List.mem_range'.1 hu
        simp; omega
      omega
  unfold extP; simpa using this n 0
theorem id_tm {b : List Int} (hb : IsP b) : tmL (extP [] b.length) b = b := by
  refine ext_nth (by rw [tmL_len]) fun i hi => ?_
  rw [tmL_len] at hi
  have := hb.at i hi
  rw [tmL_nth _ _ _ hi, extP_nth _ _ _ (by simp) this.1, if_neg (by simp), this.2]
/-- as many crossings as changes, but for twos -/
theorem inv_moves {b : List Int} (hb : IsP b) : (invN b + mvN b.length b) % 2 = 0 := by
  have l := extP_len [] b.length (by simp)
  have := inv_tm_ext (extP_isP IsP.nil b.length (by simp)) b.length b rfl hb (by rw [l]; exact Nat.le_refl _)
  rw [l, extP_all, id_tm hb, inv_id] at this
  omega
theorem inv_tm_par {a b : List Int} (ha : IsP a) (hb : IsP b) (hl : a.length = b.length) : (invN (tmL a b) + invN a + invN b) % 2 = 0 := by
  have h1 := inv_tm_ext ha b.length b rfl hb (by omega)
  rw [hl, extP_all] at h1
  have h2 := inv_moves hb
  omega
theorem inv_inv_par {a : List Int} (ha : IsP a) : (invN (invL a) + invN a) % 2 = 0 := by
  have h1 := inv_tm_par ha (inv_isP ha) (invL_len a).symm
  have h2 : tmL a (invL a) = extP [] a.length := ext_nth (by rw [tmL_len, invL_len, extP_len _ _ (by simp)]) fun i hi => by
    rw [tmL_len, invL_len] at hi
    rw [tm_inv_right ha i hi, extP_nth _ _ _ (by simp) hi, if_neg (by simp)]
  rw [h2, inv_id] at h1
  omega
/-- the sign by turns is that by crossings -/
theorem turns_par {p : List Int} (h : IsP p) : (p.length - cntMin p p.length) % 2 = invN p % 2 := by
  have h1 := turns_moves p.length p rfl h
  have h2 := inv_moves h
  omega
end Go.Proofs.Ytefblcchmkmfpaa
namespace Go.Proofs.Ytefblcchmkmfpaa
open Go.RowKit

set_option maxRecDepth 100000 in
set_option maxHeartbeats 1000000 in
theorem insZeroF (w : World) :
    Calls Try.prog 78 #[.slice .none 0 0, .int .i64 0, .int .i64 0, .func (.func 72) #[] #[]] w fun e w' => e = .returned (.tuple #[]) ∧ w = w' := by
  go_enter Try.func78, Try.ntmps78
  go_wp2_with fail
  go_loop [8] (fun i => i = .int .i64 1) (fun _ => 0)
  case atStart => rfl
  case round =>
    subst hrel
    go_wp2_with fail
    go_end0
    exact ⟨rfl, rfl⟩
set_option maxRecDepth 100000 in
set_option maxHeartbeats 1000000 in
theorem pdqZeroF (L : Int) (w : World) :
    Calls Try.prog 76 #[.slice .none 0 0, .int .i64 0, .int .i64 0, .int .i64 L, .func (.func 72) #[] #[]] w fun e w' => e = .returned (.tuple #[]) ∧ w = w' := by
  go_enter Try.func76, Try.ntmps76
  go_wp2_with fail
  go_loop [1, 2, 3] (fun a b l => a = .int .i64 0 ∧ b = .int .i64 0) (fun _ _ _ => 0)
  case atStart => exact ⟨rfl, rfl⟩
  case round =>
    obtain ⟨rfl, rfl⟩ := hrel
    go_wp2_with fail
    refine (insZeroF _).mono ?_; rintro e w' ⟨rfl, rfl⟩
    go_wp2_with fail
    refine bodyPost_ret (results_none rfl _ _ _) rfl ?_
    exact ⟨rfl, rfl⟩
set_option maxRecDepth 100000 in
theorem sortZeroF (w : World) :
    Calls Try.prog 71 #[.slice .none 0 0, .func (.func 72) #[] #[]] w fun e w' => e = .returned (.tuple #[]) ∧ w = w' := by
  go_enter Try.func71, Try.ntmps71
  go_wp2_with fail
  refine (len_12F 0 (by omega) _).mono ?_; rintro e w' ⟨⟨L, rfl⟩, rfl⟩
  go_wp2_with fail
  refine (pdqZeroF _ _).mono ?_; rintro e w' ⟨rfl, rfl⟩
  go_wp2_with fail
  go_end0
  exact ⟨rfl, rfl⟩

def CycSaid (p : List Int) (w : World) (e : Ending) (w' : World) : Prop :=
  ∃ (ad : Option Addr) (cp : Nat) (out : List Nat), e = .returned (.tuple #[.slice ad out.length cp, .int .i64 0]) ∧ CycOk p out ∧ Fr w w' [⟨3, .slice ad out.length cp, ints (cycL out)⟩]
set_option maxRecDepth 100000 in
set_option maxHeartbeats 4000000 in
theorem cycles_any (p : List Int) (n : Nat) (a : Option Addr) (cap : Nat) (w : World) (h : Sa w a (ints p)) (hn : p.length = n) (hp : IsP p) (h10 : n ≤ 10) :
    Calls Try.prog 64 #[.slice a n cap] w (CycSaid p w) := by
  have HS := Lib.hid h; have HN := Lib.hid hn; have HP := Lib.hid hp
  clear h hn
  go_enter Try.func64, Try.ntmps64
  go_wp2_with fail
  refine (permChk p n _ _ _ HS.out HN.out HP.out h10).mono ?_; rintro e w1 ⟨rfl, F1⟩
  go_wp2_with fail
  have F2 := F1.new 66 #[.bool false, .bool false, .bool false, .bool false, .bool false, .bool false, .bool false, .bool false, .bool false, .bool false] (snB fun _ => false) rfl 10 rfl (by omega)
  obtain ⟨B, hB⟩ : ∃ B, w1.heap.size = B := ⟨_, rfl⟩
  rw [hB] at F2 ⊢
  clear hp F1
  go_loopw [6, 17] (fun o i wr => ∃ (k : Nat) (ad : Option Addr) (cp N : Nat) (S : Nat → Bool) (out : List Nat), k ≤ n ∧ i = .int .i64 k ∧ o = .slice ad N cp ∧ N ≤ 10 ∧ Hid (N = out.length ∧ (N = 0 → ad = .none ∧ cp = 0)) ∧ Hid (OutI p k S out) ∧
    Fr w wr [⟨3, .slice ad N cp, ints (natI out)⟩, ⟨66, .slice (some ⟨B, 0, .none⟩) 10 10, snB S⟩]) (fun _ i _ => n - (intOf i).toNat)
  case atStart => exact ⟨0, .none, 0, 0, fun _ => false, [], by omega, rfl, rfl, by omega, Lib.hid ⟨rfl, fun _ => ⟨rfl, rfl⟩⟩, Lib.hid (OutI.zero p), F2.nilSlice _⟩
  case round =>
    obtain ⟨k, ad, cp, N, S, out, hk, rfl, rfl, hN10, HNO, HO, hfr⟩ := hrel
    clear F2
    by_cases hlt : k < n
    · have hkp : k < p.length := by rw [HN.out]; exact hlt
      have HKP := Lib.hid hkp
      have HOL := Lib.hid (ol_spec HP.out hkp)
      clear hkp
      have e1 : (0 : Int) ≤ (k : Int) := by omega
      have e2 : (k : Int) < (n : Int) := by omega
      by_cases hS : S k = true
      · have HSK := Lib.hid (OutI.skip HP.out HKP.out HO.out hS)
        obtain ⟨g, e, _, _, hcell, hz⟩ := hfr.swap.open (by rw [snB_len]; omega)
        cases e
        have c1 := hcell k (by rw [snB_len]; omega)
        rw [snB_get _ _ (by omega), hS] at c1
        have d2 : (k : Int) < 10 := by omega
        clear hcell hz hS
        go_wp2_with fail
        go_loopw [8, 9] (fun n k' wr' => n = .int .i64 0 ∧ k' = .int .i64 k ∧ wr' = wr) (fun _ _ _ => 0)
        case atStart => exact ⟨rfl, rfl, rfl⟩
        case round =>
          obtain ⟨rfl, rfl, rfl⟩ := hrel
          go_wp2_with fail
          exact ⟨⟨k + 1, ad, cp, N, S, out, by omega, by simp, rfl, hN10, HNO, HSK, hfr⟩, by simp only [intOf]; omega⟩
      · have hSf : S k = false := by simpa using hS
        clear hS
        have HT := Lib.hid (OutI.turn HP.out HKP.out HO.out hSf)
        have HNEW : Hid (∀ m, m < ol p k → Sm p k S m (itP p m k) = false) := Lib.hid fun m hm => OutI.new HP.out HKP.out HO.out hSf hm
        have HBK := Lib.hid (Sm_back (S := S) HP.out HKP.out)
        have HF := Lib.hid hfr
        clear hfr hSf
        go_wp2_with fail
        go_loopw [8, 9] (fun n' k' wr => ∃ (m v : Nat), m ≤ ol p k ∧ m ≤ 10 ∧ v < 10 ∧ v < n ∧ n' = .int .i64 m ∧ k' = .int .i64 v ∧ Hid (v = itP p m k) ∧ Fr w wr [⟨3, .slice ad N cp, ints (natI out)⟩, ⟨66, .slice (some ⟨B, 0, .none⟩) 10 10, snB (Sm p k S m)⟩]) (fun n' _ _ => ol p k - (intOf n').toNat)
        case atStart => exact ⟨0, k, by omega, by omega, by omega, hlt, rfl, rfl, Lib.hid rfl, by rw [Sm_zero]; exact HF.out⟩
        case round =>
          obtain ⟨m, v, hm, hm10, hv10, hvn, rfl, rfl, HV, hfr⟩ := hrel
          obtain ⟨g, e, _, _, hcell, hz⟩ := hfr.swap.open (by rw [snB_len]; omega)
          cases e
          have c1 := hcell v (by rw [snB_len]; exact hv10)
          rw [snB_get _ _ hv10] at c1
          have z1 := hz v
          clear hcell hz
          have d1 : (0 : Int) ≤ (v : Int) := by omega
          have d2 : (v : Int) < 10 := by omega
          have d3 : (v : Int) < (n : Int) := by omega
          by_cases hlt2 : m < ol p k
          · have hnw := HNEW.out m hlt2
            rw [← HV.out] at hnw
            rw [hnw] at c1
            obtain ⟨b0, off, rfl, hb0, c2⟩ := (hfr.old HS.out).int v (by rw [HN.out]; exact hvn)
            have hb0' : b0 < w.heap.size := by
              obtain ⟨b', o', e', hb', _⟩ := HS.out.int v (by rw [HN.out]; exact hvn)
              cases e'; exact hb'
            have hBB : w.heap.size ≤ B := by
              have := (Ent.own.lt (hfr.os.own _ (List.mem_cons_of_mem _ List.mem_cons_self)) B rfl).1
              exact this
            have nb : b0 ≠ B := by omega
            have F3 := Fr.swap (hfr.swap.set v (.bool true))
            have hset : (snB (Sm p k S m)).set v (.bool true) = snB (Sm p k S (m + 1)) := by
              rw [snB_set _ _ hv10, HV.out, Sm_succ]
            rw [hset] at F3
            have HF3 := Lib.hid F3
            have hpv := pf_lt HP.out (show v < p.length by rw [HN.out]; exact hvn)
            rw [HN.out] at hpv
            have hx : nth p v = ((pf p v : Nat) : Int) := ((HP.out.at v (by rw [HN.out]; exact hvn)).2).symm
            have HV2 : Hid (pf p v = itP p (m + 1) k) := Lib.hid (by rw [HV.out]; rfl)
            rw [hx] at c2
            obtain ⟨u, hu⟩ : ∃ u, pf p v = u := ⟨_, rfl⟩
            rw [hu] at c2 hpv HV2
            have hm1 : m + 1 ≤ 10 := by have := HOL.out.2.1; rw [HN.out] at this; omega
            clear hfr F3 hset hx hu hnw hb0' hBB
            go_wp2_with fail
            exact ⟨⟨m + 1, u, by omega, hm1, by omega, hpv, by simp, rfl, HV2, HF3.out⟩, by simp only [intOf]; omega⟩
          · have hmo : m = ol p k := by omega
            have hbk := HBK.out
            rw [← hmo, ← HV.out] at hbk
            rw [hbk] at c1
            have h1 := HOL.out.1
            have m0 : 0 < m := by omega
            have HT2 := HT.out
            rw [← hmo] at HT2
            have HT3 := Lib.hid HT2
            have HF3 := Lib.hid hfr
            clear z1 hbk HT2 HT hmo hfr h1
            go_wp2_with (with_reducible refine at_slot 38 ?_; go_must (refine wpList_pushInt rfl _ _ rfl ad N cp _ m _ rfl HF3.out rfl ?_ ?_); rotate_left; intro ad' cp' w2 hf2 hlt2)
            · go_wp2_with fail
              have hle := HT3.out.le
              rw [List.length_append, List.length_singleton, ← HNO.out.1] at hle
              exact ⟨⟨k + 1, ad', cp', N + 1, _, out ++ [m], by omega, by simp, rfl, by omega, Lib.hid ⟨by rw [HNO.out.1]; simp, fun e => by omega⟩, HT3, by rw [show natI (out ++ [m]) = natI out ++ [(m : Int)] from by simp [natI]]; exact hf2⟩, by simp only [intOf]; omega⟩
            · omega
    · obtain rfl : k = n := by omega
      have hok : CycOk p out := OutI.ok (by have := HO.out; rwa [← HN.out] at this)
      have HOK := Lib.hid hok
      obtain rfl : N = out.length := HNO.out.1
      have HZ := Lib.hid HNO.out.2
      have F5 := hfr.sub (M := [⟨3, .slice ad out.length cp, ints (natI out)⟩]) (by simp)
      have HF5 := Lib.hid F5
      have HBD : Hid (∀ v ∈ natI out, 0 ≤ v ∧ v ≤ 1000) := Lib.hid fun v hv => by
        unfold natI at hv
        obtain ⟨x, hx, rfl⟩ := List.mem_map.1 hv
        have := hok.pos x hx
        have h2 := HN.out
        omega
      obtain ⟨M, hM⟩ : ∃ M, out.length = M := ⟨_, rfl⟩
      have HM := Lib.hid hM
      rw [hM] at HF5 hN10 HZ ⊢
      clear hok HNO F5 hfr hM
      rcases Nat.eq_zero_or_pos M with h0 | h0
      · subst h0
        have h0' : out = [] := List.eq_nil_of_length_eq_zero HM.out
        subst h0'
        obtain ⟨rfl, rfl⟩ := HZ.out rfl
        go_wp2_with fail
        refine (sortZeroF _).mono ?_; rintro e w' ⟨rfl, rfl⟩
        go_wp2_with fail
        go_ret2
        exact ⟨.none, 0, [], rfl, HOK.out, HF5.out⟩
      · obtain ⟨g, e, -, -, -⟩ := HF5.out.openI 0 (by rw [natI_len, HM.out]; exact h0)
        subst e
        go_wp2_with fail
        refine (slSortF (natI out) M cp g _ HF5.out (by omega) (by omega) HBD.out).mono ?_; rintro e w3 ⟨rfl, hf⟩
        have HF6 := Lib.hid hf
        clear hf
        go_wp2_with fail
        go_ret2
        refine ⟨some ⟨g, 0, .none⟩, cp, out, by rw [HM.out]; rfl, HOK.out, ?_⟩
        have e : cycL out = insSd (natI out) M := by unfold cycL; rw [natI_len, HM.out]
        rw [e, HM.out]; exact HF6.out
end Go.Proofs.Ytefblcchmkmfpaa
namespace Go.Proofs.Ytefblcchmkmfpaa
open Go.RowKit

def sgP (p : List Int) : Int := if invN p % 2 = 1 then -1 else 1
set_option maxRecDepth 100000 in
set_option maxHeartbeats 1000000 in
theorem sign_any (p : List Int) (n : Nat) (a : Option Addr) (cap : Nat) (w : World) (h : Sa w a (ints p)) (hn : p.length = n) (hp : IsP p) (h10 : n ≤ 10) :
    Calls Try.prog 39 #[.slice a n cap] w fun e w' => e = .returned (.tuple #[.int .i64 (sgP p), .int .i64 0]) ∧ Below w.heap.size w w' := by
  have HS := Lib.hid h; have HN := Lib.hid hn; have HP := Lib.hid hp
  have HT := Lib.hid (turns_par hp)
  clear h hn hp
  go_enter Try.func39, Try.ntmps39
  go_wp2_with fail
  refine (cycles_any p n _ _ _ HS.out HN.out HP.out h10).mono ?_; rintro e w1 ⟨ad, cp, out, rfl, hok, hfr⟩
  have HC := Lib.hid hok.cnt
  have hle := hok.le
  have HB := Lib.hid hfr.bel
  clear hok hfr
  obtain ⟨M, hM⟩ : ∃ M, out.length = M := ⟨_, rfl⟩
  have HM := Lib.hid hM
  rw [hM] at hle ⊢
  rw [HN.out] at hle
  clear hM
  have hmod : ((n : Int) - (M : Int)) % 2 = (((n - M) % 2 : Nat) : Int) := by omega
  have hs : sgP p = if (n - M) % 2 = 1 then -1 else 1 := by
    unfold sgP
    have e1 := HT.out
    rw [← HC.out, HM.out, HN.out] at e1
    rw [← e1]
  have HSG := Lib.hid hs
  obtain ⟨r, hr⟩ : ∃ r, (n - M) % 2 = r := ⟨_, rfl⟩
  have hr2 : r = 0 ∨ r = 1 := by omega
  rw [hr] at hmod HSG
  clear hs hr
  rcases hr2 with rfl | rfl
  · go_wp2_with fail
    go_ret2
    exact ⟨by rw [HSG.out]; rfl, HB.out⟩
  · go_wp2_with fail
    go_ret2
    exact ⟨by rw [HSG.out]; rfl, HB.out⟩
end Go.Proofs.Ytefblcchmkmfpaa
