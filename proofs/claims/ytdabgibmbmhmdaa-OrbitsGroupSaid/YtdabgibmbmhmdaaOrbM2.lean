/- The least of a row's turns; how many cycles: in plain words. -/
import Derived.Test.YtdabgibmbmhmdaaOrbM
namespace Go.Proofs.Ytdabgibmbmhmdaa
open Go.RowKit

/-- a row turned by an order -/
def actL (p r : List Int) : List Int := tmL r (invL p)
theorem actL_len {n : Nat} {p : List Int} (hp : Pn n p) (r : List Int) : (actL p r).length = n := by unfold actL; rw [tmL_len, invL_len, hp.1]
theorem actL_at {n : Nat} {p : List Int} (hp : Pn n p) (r : List Int) (i : Nat) (hi : i < n) : nth (actL p r) (nth p i).toNat = nth r i := by
  have h1 := hp.2.at i (by rw [hp.1]; exact hi)
  unfold actL
  rw [tmL_nth _ _ _ (by rw [invL_len]; exact h1.1), invL_at hp.2 i (by rw [hp.1]; exact hi), Int.toNat_natCast]
theorem invL_one (n : Nat) : invL (oneP n) = oneP n := (inv_of (Pn.one n) (Pn.one n) (one_tm (Pn.one n))).symm
theorem actL_one {n : Nat} {r : List Int} (hr : r.length = n) : actL (oneP n) r = r := by unfold actL; rw [invL_one, tm_one hr]
theorem actL_mul {n : Nat} {p q : List Int} (hp : Pn n p) (hq : Pn n q) (r : List Int) : actL (tmL p q) r = actL p (actL q r) := by
  unfold actL
  rw [inv_tm hp.2 hq.2 n hp.1 hq.1, tm_asc r hq.inv.1 hp.inv]
theorem actL_inv {n : Nat} {p : List Int} (hp : Pn n p) {r : List Int} (hr : r.length = n) : actL (invL p) (actL p r) = r := by
  rw [← actL_mul hp.inv hp, inv_tm_one hp, actL_one hr]
theorem actL_inj {n : Nat} {p : List Int} (hp : Pn n p) {r s : List Int} (hr : r.length = n) (hs : s.length = n) (h : actL p r = actL p s) : r = s := by
  have := congrArg (actL (invL p)) h
  rwa [actL_inv hp hr, actL_inv hp hs] at this
theorem actL_perm {n : Nat} {p : List Int} (hp : Pn n p) {r : List Int} (hr : r.length = n) : (actL p r).Perm r := by
  have h1 := isP_perm hp.inv.2
  rw [hp.inv.1] at h1
  have h2 := h1.map (nth r)
  have e1 : (List.range n).map (nth r) = r := ext_nth (by simp [hr]) fun i hi => by
    simp at hi
    simp [nth, hi]
  have e2 : ((List.range n).map (pf (invL p))).map (nth r) = actL p r := by
    rw [List.map_map]
    refine ext_nth (by simp [actL_len hp]) fun i hi => ?_
    simp at hi
    unfold actL
    rw [tmL_nth _ _ _ (by rw [hp.inv.1]; exact hi)]
    simp [nth, hi, pf]
  rw [e1, e2] at h2
  exact h2
/-- turned so far: the first k -/
def turnK (p r : List Int) (n : Nat) : Nat → List Int
  | 0 => List.replicate n 0
  | k + 1 => (turnK p r n k).set (nth p k).toNat (nth r k)
theorem turnK_len (p r : List Int) (n : Nat) : ∀ k, (turnK p r n k).length = n
  | 0 => by simp [turnK]
  | k + 1 => by rw [turnK, List.length_set, turnK_len p r n k]
theorem turnK_at {n : Nat} {p : List Int} (hp : Pn n p) (r : List Int) : ∀ k, k ≤ n → ∀ i, i < k → nth (turnK p r n k) (nth p i).toNat = nth r i
  | 0, _, i, hi => by omega
  | k + 1, hk, i, hi => by
    have hl := hp.1
    rw [turnK, nth_set _ _ _ _ (by rw [turnK_len]; have := (hp.2.at k (by omega)).1; omega)]
    by_cases e : i = k
    · subst e; rw [if_pos rfl]
    · rw [if_neg (fun e2 => e (hp.2.inj i k (by omega) (by omega) (by have := (hp.2.at i (by omega)).2; have := (hp.2.at k (by omega)).2; omega)))]
      exact turnK_at hp r k (by omega) i (by omega)
theorem turnK_all {n : Nat} {p : List Int} (hp : Pn n p) (r : List Int) : turnK p r n n = actL p r :=
  ext_nth (by rw [turnK_len, actL_len hp]) fun v hv => by
    rw [turnK_len] at hv
    obtain ⟨i, hi, rfl⟩ := isP_get hp.2 v (by rw [hp.1]; exact hv)
    rw [hp.1] at hi
    rw [turnK_at hp r n (Nat.le_refl _) i hi, actL_at hp r i hi]
/-- the least of the turns by the first j -/
def leastK (G : List (List Int)) (r : List Int) : Nat → List Int
  | 0 => r
  | j + 1 => if lexC (actL (G.getD j []) r) (leastK G r j) < 0 then actL (G.getD j []) r else leastK G r j
def leastL (G : List (List Int)) (r : List Int) : List Int := leastK G r G.length
section
variable {n : Nat} {ls G : List (List Int)} (H : IsGrp n ls G) {r : List Int} (hr : r.length = n)
include H hr
theorem leastK_in : ∀ j, j ≤ G.length → (∃ t ∈ G, leastK G r j = actL t r) ∧ ∀ i (hi : i < G.length), i < j → lexC (leastK G r j) (actL G[i] r) ≤ 0
  | 0, _ => ⟨⟨_, H.one, (actL_one hr).symm⟩, fun i _ h => by omega⟩
  | j + 1, hj => by
    obtain ⟨⟨t, ht, e1⟩, h2⟩ := leastK_in j (by omega)
    have hlj : (leastK G r j).length = n := by rw [e1, actL_len (H.pn ht)]
    have hg : G.getD j [] = G[j]'(by omega) := by simp [show j < G.length by omega]
    have hGj : G[j]'(by omega) ∈ G := List.getElem_mem _
    rw [leastK, hg]
    have hla := actL_len (H.pn hGj) r
    have hneg := lexC_neg (actL (G[j]'(by omega)) r) (leastK G r j)
    split
    · rename_i hlt
      refine ⟨⟨_, hGj, rfl⟩, fun i hi hij => ?_⟩
      by_cases e : i = j
      · subst e; rw [lexC_self]; omega
      · exact lexC_tr' (by rw [hla, hlj]) (by rw [hlj, actL_len (H.pn (List.getElem_mem hi))]) (by omega) (h2 i hi (by omega))
    · rename_i hlt
      refine ⟨⟨t, ht, e1⟩, fun i hi hij => ?_⟩
      by_cases e : i = j
      · subst e; omega
      · exact h2 i hi (by omega)
theorem least_in : ∃ t ∈ G, leastL G r = actL t r := (leastK_in H hr _ (Nat.le_refl _)).1
theorem least_len : (leastL G r).length = n := by
  obtain ⟨t, ht, e⟩ := least_in H hr
  rw [e, actL_len (H.pn ht)]
theorem least_le {g : List Int} (hg : g ∈ G) : lexC (leastL G r) (actL g r) ≤ 0 := by
  obtain ⟨i, hi, rfl⟩ := List.getElem_of_mem hg
  exact (leastK_in H hr _ (Nat.le_refl _)).2 i hi hi
/-- the least of all turns is the only one -/
theorem least_uniq {s : List Int} (h1 : ∃ t ∈ G, s = actL t r) (h2 : ∀ g ∈ G, lexC s (actL g r) ≤ 0) : s = leastL G r := by
  obtain ⟨t, ht, e⟩ := h1
  obtain ⟨u, hu, e2⟩ := least_in H hr
  have l1 : s.length = n := by rw [e, actL_len (H.pn ht)]
  have a := h2 u hu
  have b := least_le H hr ht
  rw [← e2] at a
  rw [← e] at b
  have c := lexC_neg s (leastL G r)
  exact lexC_zero _ _ (by rw [l1, least_len H hr]) (by omega)
theorem least_turn {g : List Int} (hg : g ∈ G) : leastL G (actL g r) = leastL G r := by
  have hl := actL_len (H.pn hg) r
  refine least_uniq H hr ?_ fun u hu => ?_
  · obtain ⟨t, ht, e⟩ := least_in H hl
    exact ⟨tmL t g, H.mul ht hg, by rw [e, actL_mul (H.pn ht) (H.pn hg)]⟩
  · have := least_le H hl (H.mul hu (H.inv hg))
    rwa [actL_mul (H.pn hu) (H.pn (H.inv hg)), actL_inv (H.pn hg) hr] at this
theorem least_self : leastL G (leastL G r) = leastL G r := by
  obtain ⟨t, ht, e⟩ := least_in H hr
  rw [e, least_turn H hr ht, e]
theorem least_perm : (leastL G r).Perm r := by
  obtain ⟨t, ht, e⟩ := least_in H hr
  rw [e]; exact actL_perm (H.pn ht) hr
end
/-- how many cycles -/
def cycN (p : List Int) : Nat := sumN (fun v => 2520 / ol p v) p.length / 2520
theorem cyc_len {p : List Int} {out : List Nat} (h : CycOk p out) (h10 : p.length ≤ 10) : out.length = cycN p := by
  have hs := h.sum (fun x => 2520 / x)
  have e : (out.map fun x => x * (2520 / x)).sum = 2520 * out.length := by
    have hp := h.pos
    clear h hs
    induction out with
    | nil => rfl
    | cons x l ih =>
      have hx := hp x List.mem_cons_self
      rw [List.map_cons, List.sum_cons, ih fun y hy => hp y (List.mem_cons_of_mem _ hy), List.length_cons]
      have : ∀ x, 1 ≤ x → x ≤ 10 → x * (2520 / x) = 2520 := by
        intro x h1 h2
        have : ∀ x, x < 11 → 1 ≤ x → x * (2520 / x) = 2520 := by decide
        exact this x (by omega) h1
      rw [this x hx.1 (by omega)]; omega
  unfold cycN
  rw [← hs, e]; omega
end Go.Proofs.Ytdabgibmbmhmdaa
