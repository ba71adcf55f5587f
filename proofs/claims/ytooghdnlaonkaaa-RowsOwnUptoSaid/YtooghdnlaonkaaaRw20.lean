/- Several of my texts in one: OrbM. -/
import Derived.Test.YtooghdnlaonkaaaRw08
import Derived.Test.YtooghdnlaonkaaaRw19
import Derived.Test.YtooghdnlaonkaaaRw15
/- Groups of orders: what some orders make; the least of a row's turns: in plain words. -/
namespace Go.Proofs.Ytooghdnlaonkaaa
open Go.RowKit

/-! rows, one ahead of the other -/
theorem cmp2_neg (x y : Int) : cmp2 y x = - cmp2 x y := by unfold cmp2; split <;> split <;> omega
theorem cmp2_zero {x y : Int} (h : cmp2 x y = 0) : x = y := by unfold cmp2 at h; split at h <;> (try split at h) <;> omega
theorem lexC_neg : ∀ l m, lexC m l = - lexC l m
  | [], [] => rfl
  | [], _ :: _ => rfl
  | _ :: _, [] => rfl
  | x :: l, y :: m => by
    rw [lexC, lexC, cmp2_neg x y, lexC_neg l m]
    by_cases h : cmp2 x y = 0
    · rw [if_pos h, if_pos (by omega)]
    · rw [if_neg h, if_neg (by omega)]
theorem lexC_zero : ∀ l m, l.length = m.length → lexC l m = 0 → l = m
  | [], [], _, _ => rfl
  | [], _ :: _, h, _ => by simp at h
  | _ :: _, [], h, _ => by simp at h
  | x :: l, y :: m, hl, h => by
    rw [lexC] at h
    by_cases e : cmp2 x y = 0
    · rw [if_pos e] at h
      rw [cmp2_zero e, lexC_zero l m (by simpa using hl) h]
    · rw [if_neg e] at h; exact absurd h e
theorem lexC_tr : ∀ l m r, l.length = m.length → m.length = r.length → lexC l m ≤ 0 → lexC m r < 0 → lexC l r < 0
  | [], [], _, _, _, _, h => by rw [lexC] at h; omega; simp
  | [], _ :: _, _, h, _, _, _ => by simp at h
  | _ :: _, [], _, h, _, _, _ => by simp at h
  | _ :: _, _ :: _, [], _, h, _, _ => by simp at h
  | x :: l, y :: m, z :: r, h1, h2, h3, h4 => by
    rw [lexC] at h3 h4 ⊢
    have ih := lexC_tr l m r (by simpa using h1) (by simpa using h2)
    have e1 : cmp2 x y = if x < y then -1 else if y < x then 1 else 0 := rfl
    have e2 : cmp2 y z = if y < z then -1 else if z < y then 1 else 0 := rfl
    have e3 : cmp2 x z = if x < z then -1 else if z < x then 1 else 0 := rfl
    by_cases c1 : cmp2 x y = 0
    · rw [if_pos c1] at h3
      have := cmp2_zero c1
      subst this
      by_cases c2 : cmp2 x z = 0
      · rw [if_pos c2] at h4 ⊢; exact ih h3 h4
      · rw [if_neg c2] at h4 ⊢; exact h4
    · rw [if_neg c1] at h3
      by_cases c2 : cmp2 y z = 0
      · have := cmp2_zero c2
        subst this
        rw [if_neg c1]; omega
      · rw [if_neg c2] at h4
        have xy : x < y := by
          rw [e1] at h3 c1
          split at h3
          · assumption
          · split at h3
            · omega
            · rename_i a b; rw [if_neg a, if_neg b] at c1; exact absurd rfl c1
        have yz : y < z := by
          rw [e2] at h4
          split at h4
          · assumption
          · split at h4 <;> omega
        have e4 : cmp2 x z = -1 := by rw [e3, if_pos (by omega)]
        rw [e4, if_neg (by decide)]; decide
theorem lexC_tr' {l m r : List Int} (h1 : l.length = m.length) (h2 : m.length = r.length) (h3 : lexC l m ≤ 0) (h4 : lexC m r ≤ 0) : lexC l r ≤ 0 := by
  by_cases h : lexC m r < 0
  · have := lexC_tr l m r h1 h2 h3 h; omega
  · have := lexC_zero m r h2 (by omega)
    rw [← this]; exact h3
/-! orders -/
def oneP (n : Nat) : List Int := (List.range n).map fun i : Nat => (i : Int)
theorem oneP_len (n : Nat) : (oneP n).length = n := by simp [oneP]
theorem oneP_nth (n i : Nat) (h : i < n) : nth (oneP n) i = i := by simp [oneP, nth, h]
theorem oneP_isP (n : Nat) : IsP (oneP n) := by
  refine ⟨fun i hi => ?_, fun i j hi hj e => ?_⟩
  · rw [oneP_len] at hi ⊢; rw [oneP_nth _ _ hi]; omega
  · rw [oneP_len] at hi hj; rw [oneP_nth _ _ hi, oneP_nth _ _ hj] at e; omega
/-- an order of n -/
def Pn (n : Nat) (p : List Int) : Prop := p.length = n ∧ IsP p
theorem one_tm {n : Nat} {b : List Int} (h : Pn n b) : tmL (oneP n) b = b := ext_nth (by rw [tmL_len]) fun i hi => by
  rw [tmL_len] at hi
  have := h.2.at i hi
  rw [tmL_nth _ _ _ hi, oneP_nth _ _ (by rw [← h.1]; exact this.1)]
  exact this.2
theorem tm_one {n : Nat} {a : List Int} (h : a.length = n) : tmL a (oneP n) = a := ext_nth (by rw [tmL_len, oneP_len, h]) fun i hi => by
  rw [tmL_len, oneP_len] at hi
  rw [tmL_nth _ _ _ (by rw [oneP_len]; exact hi), oneP_nth _ _ hi, Int.toNat_natCast]
theorem tm_asc {n : Nat} (a : List Int) {b c : List Int} (lb : b.length = n) (hc : Pn n c) : tmL (tmL a b) c = tmL a (tmL b c) :=
  ext_nth (by rw [tmL_len, tmL_len, tmL_len]) (fun i hi => by
    rw [tmL_len] at hi
    have := hc.2.at i hi
    rw [tmL_nth _ _ _ hi, tmL_nth _ _ _ (by rw [lb, ← hc.1]; exact this.1), tmL_nth _ _ _ (by rw [tmL_len]; exact hi), tmL_nth _ _ _ hi])
theorem Pn.mul {n : Nat} {a b : List Int} (ha : Pn n a) (hb : Pn n b) : Pn n (tmL a b) := ⟨by rw [tmL_len, hb.1], tm_isP ha.2 hb.2 (by rw [ha.1, hb.1])⟩
theorem Pn.inv {n : Nat} {a : List Int} (ha : Pn n a) : Pn n (invL a) := ⟨by rw [invL_len, ha.1], inv_isP ha.2⟩
theorem Pn.one (n : Nat) : Pn n (oneP n) := ⟨oneP_len n, oneP_isP n⟩
theorem inv_tm_one {n : Nat} {a : List Int} (ha : Pn n a) : tmL (invL a) a = oneP n := ext_nth (by rw [tmL_len, oneP_len, ha.1]) fun i hi => by
  rw [tmL_len] at hi
  rw [tm_inv_left ha.2 i hi, oneP_nth _ _ (by rw [← ha.1]; exact hi)]
theorem tm_inv_one {n : Nat} {a : List Int} (ha : Pn n a) : tmL a (invL a) = oneP n := by rw [tm_inv_both ha.2, inv_tm_one ha]
theorem tm_left {n : Nat} {a b c : List Int} (ha : Pn n a) (hb : Pn n b) (hc : Pn n c) (h : tmL a b = tmL a c) : b = c := by
  have := congrArg (tmL (invL a)) h
  rw [← tm_asc _ ha.1 hb, ← tm_asc _ ha.1 hc, inv_tm_one ha, one_tm hb, one_tm hc] at this
  exact this
theorem tm_right {n : Nat} {a b c : List Int} (ha : Pn n a) (lb : b.length = n) (lc : c.length = n) (h : tmL b a = tmL c a) : b = c := by
  have : tmL (tmL b a) (invL a) = tmL (tmL c a) (invL a) := by rw [h]
  rw [tm_asc _ ha.1 ha.inv, tm_asc _ ha.1 ha.inv, tm_inv_one ha, tm_one lb, tm_one lc] at this
  exact this
theorem inv_of {n : Nat} {a b : List Int} (ha : Pn n a) (hb : Pn n b) (h : tmL a b = oneP n) : b = invL a :=
  tm_left ha hb ha.inv (h.trans (tm_inv_one ha).symm)
/-- all orders of n -/
def allP : Nat → List (List Int)
  | 0 => [[]]
  | n + 1 => (allP n).flatMap fun o => (List.range (n + 1)).map fun x => sw o n x
theorem allP_mem : ∀ (n : Nat) (p : List Int), p ∈ allP n ↔ Pn n p
  | 0, p => by
    rw [allP, List.mem_singleton]
    refine ⟨fun h => by subst h; exact ⟨rfl, IsP.nil⟩, fun h => List.eq_nil_of_length_eq_zero h.1⟩
  | n + 1, p => by
    rw [allP, List.mem_flatMap]
    constructor
    · rintro ⟨o, ho, h⟩
      obtain ⟨x, hx, rfl⟩ := List.mem_map.1 h
      obtain ⟨rfl, h2⟩ := (allP_mem n o).1 ho
      have hx := List.mem_range.1 hx
      exact ⟨sw_len o x, h2.sw (by omega)⟩
    · rintro ⟨h1, h2⟩
      obtain ⟨a1, -, a3, a4, a5⟩ := sw_unsw p n h1 h2
      exact ⟨unsw p n, (allP_mem n _).2 ⟨a3, a4⟩, List.mem_map.2 ⟨idxL p n, List.mem_range.2 (by omega), a5⟩⟩
theorem allP_len : ∀ n, (allP n).length = facN n
  | 0 => rfl
  | n + 1 => by
    rw [allP, List.length_flatMap, facN, ← allP_len n]
    have : ∀ l : List (List Int), (l.map fun o => ((List.range (n + 1)).map fun x => sw o n x).length).sum = (n + 1) * l.length := by
      intro l
      induction l with
      | nil => rfl
      | cons o l ih => rw [List.map_cons, List.sum_cons, ih, List.length_map, List.length_range, List.length_cons, Nat.mul_succ]; omega
    exact this _
theorem nodup_flat {α β : Type} {f : α → List β} : ∀ {l : List α}, l.Nodup → (∀ a ∈ l, (f a).Nodup) → (∀ a ∈ l, ∀ b ∈ l, ∀ x, x ∈ f a → x ∈ f b → a = b) → (l.flatMap f).Nodup
  | [], _, _, _ => List.nodup_nil
  | a :: l, h1, h2, h3 => by
    obtain ⟨h4, h5⟩ := List.nodup_cons.1 h1
    rw [List.flatMap_cons, List.nodup_append]
    refine ⟨h2 a List.mem_cons_self, nodup_flat h5 (fun b hb => h2 b (List.mem_cons_of_mem _ hb)) (fun b hb c hc => h3 b (List.mem_cons_of_mem _ hb) c (List.mem_cons_of_mem _ hc)), fun x hx y hy e => ?_⟩
    subst e
    obtain ⟨b, hb, hxb⟩ := List.mem_flatMap.1 hy
    have := h3 a List.mem_cons_self b (List.mem_cons_of_mem _ hb) x hx hxb
    subst this
    exact h4 hb
theorem allP_nodup : ∀ n, (allP n).Nodup
  | 0 => by rw [allP]; simp
  | n + 1 => by
    rw [allP]
    refine nodup_flat (allP_nodup n) (fun o ho => ?_) fun o ho o' ho' q hq hq' => ?_
    · obtain ⟨rfl, h2⟩ := (allP_mem n o).1 ho
      refine nodup_map List.nodup_range fun x hx y hy e => ?_
      have h3 := (unsw_sw o h2 x (by have := List.mem_range.1 hx; omega)).1
      have h4 := (unsw_sw o h2 y (by have := List.mem_range.1 hy; omega)).1
      rw [e] at h3; omega
    · obtain ⟨rfl, h2⟩ := (allP_mem n o).1 ho
      obtain ⟨h3, h4⟩ := (allP_mem _ o').1 ho'
      obtain ⟨x, hx, rfl⟩ := List.mem_map.1 hq
      obtain ⟨y, hy, e⟩ := List.mem_map.1 hq'
      have h5 := (unsw_sw o h2 x (by have := List.mem_range.1 hx; omega)).2
      have h6 := (unsw_sw o' h4 y (by have := List.mem_range.1 hy; omega)).2
      rw [h3] at h6
      rw [← h5, ← h6, e]
/-- what some orders make -/
inductive Gen (n : Nat) (ls : List (List Int)) : List Int → Prop
  | one : Gen n ls (oneP n)
  | step (p q : List Int) : p ∈ ls → Gen n ls q → Gen n ls (tmL p q)
def AllPn (n : Nat) (ls : List (List Int)) : Prop := ∀ p ∈ ls, Pn n p
theorem Gen.ok {n : Nat} {ls : List (List Int)} (h : AllPn n ls) {q : List Int} (g : Gen n ls q) : Pn n q := by
  induction g with
  | one => exact Pn.one n
  | step p q hp _ ih => exact (h p hp).mul ih
theorem Gen.mul {n : Nat} {ls : List (List Int)} (h : AllPn n ls) {a b : List Int} (ga : Gen n ls a) (gb : Gen n ls b) : Gen n ls (tmL a b) := by
  induction ga with
  | one => rw [one_tm (gb.ok h)]; exact gb
  | step p q hp g ih => rw [tm_asc p (g.ok h).1 (gb.ok h)]; exact Gen.step p _ hp ih
/-- these are all that they make, in order -/
structure IsGrp (n : Nat) (ls G : List (List Int)) : Prop where
  gens : AllPn n ls
  srt : G.Pairwise (fun a b => lexC a b < 0)
  mem : ∀ q, q ∈ G ↔ Gen n ls q
namespace IsGrp
variable {n : Nat} {ls G : List (List Int)} (H : IsGrp n ls G)
include H
theorem pn {q : List Int} (h : q ∈ G) : Pn n q := ((H.mem q).1 h).ok H.gens
theorem nodup : G.Nodup := H.srt.imp fun {a b} h e => by subst e; rw [lexC_self] at h; omega
theorem one : oneP n ∈ G := (H.mem _).2 .one
theorem mul {a b : List Int} (ha : a ∈ G) (hb : b ∈ G) : tmL a b ∈ G := (H.mem _).2 (((H.mem a).1 ha).mul H.gens ((H.mem b).1 hb))
theorem len : G.length ≤ facN n := by
  rw [← allP_len n]
  exact H.nodup.length_le_of_subset fun q hq => (allP_mem n q).2 (H.pn hq)
theorem pos : 0 < G.length := List.length_pos_of_mem H.one
theorem permL {t : List Int} (ht : t ∈ G) : (G.map fun g => tmL t g).Perm G := by
  have hnd : (G.map fun g => tmL t g).Nodup := nodup_map H.nodup fun a ha b hb e => tm_left (H.pn ht) (H.pn ha) (H.pn hb) e
  refine perm_sub hnd H.nodup (fun x hx => ?_) (by rw [List.length_map])
  obtain ⟨g, hg, rfl⟩ := List.mem_map.1 hx
  exact H.mul ht hg
theorem permR {t : List Int} (ht : t ∈ G) : (G.map fun g => tmL g t).Perm G := by
  have hnd : (G.map fun g => tmL g t).Nodup := nodup_map H.nodup fun a ha b hb e => tm_right (H.pn ht) (H.pn ha).1 (H.pn hb).1 e
  refine perm_sub hnd H.nodup (fun x hx => ?_) (by rw [List.length_map])
  obtain ⟨g, hg, rfl⟩ := List.mem_map.1 hx
  exact H.mul hg ht
theorem inv {a : List Int} (ha : a ∈ G) : invL a ∈ G := by
  obtain ⟨b, hb, e⟩ := List.mem_map.1 ((H.permL ha).mem_iff.2 H.one)
  rw [← inv_of (H.pn ha) (H.pn hb) e]
  exact hb
theorem divides : G.length ∣ facN n := by
  rw [← allP_len n]
  refine lagrange G H.nodup tmL _ (allP n) rfl (allP_nodup n) (fun g hg s hs => ?_) (fun s hs g hg h hh e => ?_) (fun s hs => ?_) (fun g hg h hh s hs t ht e => ?_)
  · exact (allP_mem n _).2 ((H.pn hg).mul ((allP_mem n s).1 hs))
  · exact tm_right ((allP_mem n s).1 hs) (H.pn hg).1 (H.pn hh).1 e
  · exact ⟨oneP n, H.one, one_tm ((allP_mem n s).1 hs)⟩
  · refine ⟨tmL (invL g) h, H.mul (H.inv hg) hh, ?_⟩
    have hs := (allP_mem n s).1 hs
    have ht := (allP_mem n t).1 ht
    rw [tm_asc _ (H.pn hh).1 hs, ← e, ← tm_asc _ (H.pn hg).1 ht, inv_tm_one (H.pn hg), one_tm ht]
theorem uniq {G' : List (List Int)} (H' : IsGrp n ls G') : G' = G := by
  have hp : G'.Perm G := perm_of H'.nodup H.nodup fun x => (H'.mem x).trans (H.mem x).symm
  refine hp.eq_of_pairwise (le := fun a b => lexC a b < 0) (fun a b _ _ h1 h2 => ?_) H'.srt H.srt
  have := lexC_neg a b; omega
end IsGrp
end Go.Proofs.Ytooghdnlaonkaaa
