/- Lagrange and Burnside, in plain words: sets that act. -/
import Derived.Test.YtdabgibmbmhmdaaBase
namespace Go.Proofs.Ytdabgibmbmhmdaa
set_option linter.unusedSectionVars false
section
variable {α β : Type} [DecidableEq α] [DecidableEq β]
theorem nodup_map {f : α → β} {l : List α} (h : l.Nodup) (hi : ∀ a ∈ l, ∀ b ∈ l, f a = f b → a = b) : (l.map f).Nodup := by
  induction l with
  | nil => exact List.nodup_nil
  | cons a l ih =>
    rw [List.nodup_cons] at h
    rw [List.map_cons, List.nodup_cons]
    refine ⟨fun hm => ?_, ih h.2 fun x hx y hy => hi x (List.mem_cons_of_mem _ hx) y (List.mem_cons_of_mem _ hy)⟩
    obtain ⟨b, hb, e⟩ := List.mem_map.1 hm
    have := hi b (List.mem_cons_of_mem _ hb) a List.mem_cons_self e
    rw [this] at hb
    exact h.1 hb
theorem perm_of {l m : List α} (hl : l.Nodup) (hm : m.Nodup) (h : ∀ x, x ∈ l ↔ x ∈ m) : l.Perm m := (List.perm_ext_iff_of_nodup hl hm).2 h
theorem perm_sub {l m : List α} (hl : l.Nodup) (hm : m.Nodup) (h : ∀ x ∈ l, x ∈ m) (e : l.length = m.length) : l.Perm m := by
  refine perm_of hl hm fun x => ⟨h x, fun hx => Decidable.byContradiction fun hn => ?_⟩
  have : (x :: l).Nodup := List.nodup_cons.2 ⟨hn, hl⟩
  have := this.length_le_of_subset (l₂ := m) fun y hy => by
    rcases List.mem_cons.1 hy with rfl | hy
    · exact hx
    · exact h y hy
  rw [List.length_cons] at this; omega
theorem filter_split (l : List α) (p : α → Bool) : l.length = (l.filter p).length + (l.filter fun x => !p x).length := by
  induction l with
  | nil => rfl
  | cons a l ih =>
    rw [List.filter_cons, List.filter_cons]
    cases p a <;> simp [ih] <;> omega
/-- LAGRANGE, of a set that acts freely -/
theorem lagrange (G : List α) (hG : G.Nodup) (mul : α → β → β) : ∀ (n : Nat) (S : List β), S.length = n → S.Nodup → (∀ g ∈ G, ∀ s ∈ S, mul g s ∈ S) → (∀ s ∈ S, ∀ g ∈ G, ∀ h ∈ G, mul g s = mul h s → g = h) →
    (∀ s ∈ S, ∃ g ∈ G, mul g s = s) → (∀ g ∈ G, ∀ h ∈ G, ∀ s ∈ S, ∀ t ∈ S, mul g t = mul h s → ∃ k ∈ G, t = mul k s) → G.length ∣ S.length := by
  intro n
  induction n using Nat.strongRecOn with
  | ind n ih =>
    intro S hn hS hcl hinj hone hback
    cases S with
    | nil => exact ⟨0, rfl⟩
    | cons s S0 =>
      have hs : s ∈ s :: S0 := List.mem_cons_self
      generalize hSS : s :: S0 = S at *
      have hC : (G.map fun g => mul g s).Nodup := nodup_map hG (fun a ha b hb e => hinj s hs a ha b hb e)
      have hp : (S.filter fun x => decide (x ∈ G.map fun g => mul g s)).Perm (G.map fun g => mul g s) := perm_of (hS.filter _) hC (fun x => by
        rw [List.mem_filter, decide_eq_true_iff]
        refine ⟨fun h => h.2, fun h => ⟨?_, h⟩⟩
        obtain ⟨g, hg, rfl⟩ := List.mem_map.1 h
        exact hcl g hg s hs)
      have hlen := filter_split S fun x => decide (x ∈ G.map fun g => mul g s)
      rw [hp.length_eq, List.length_map] at hlen
      have hsub : ∀ x, x ∈ (S.filter fun x => !decide (x ∈ G.map fun g => mul g s)) ↔ x ∈ S ∧ x ∉ G.map fun g => mul g s := fun x => by
        rw [List.mem_filter, Bool.not_eq_true', decide_eq_false_iff_not]
      obtain ⟨g0, hg0, e0⟩ := hone s hs
      have hpos : 0 < G.length := List.length_pos_of_mem hg0
      have := ih (S.filter fun x => !decide (x ∈ G.map fun g => mul g s)).length (by omega) _ rfl (hS.filter _) (fun g hg t ht => by
        rw [hsub] at ht ⊢
        refine ⟨hcl g hg t ht.1, fun hm => ht.2 ?_⟩
        obtain ⟨h, hh, e⟩ := List.mem_map.1 hm
        obtain ⟨k, hk, e2⟩ := hback g hg h hh s hs t ht.1 e.symm
        exact List.mem_map.2 ⟨k, hk, e2.symm⟩)
        (fun t ht => hinj t ((hsub t).1 ht).1) (fun t ht => hone t ((hsub t).1 ht).1) (fun g hg h hh a ha b hb => hback g hg h hh a ((hsub a).1 ha).1 b ((hsub b).1 hb).1)
      rw [hlen]
      exact Nat.dvd_add (Nat.dvd_refl _) this
/-- sums over a row -/
def sumOn (l : List α) (f : α → Nat) : Nat := (l.map f).sum
theorem sumOn_cons (a : α) (l : List α) (f : α → Nat) : sumOn (a :: l) f = f a + sumOn l f := by simp [sumOn]
theorem sumOn_add (l : List α) (f g : α → Nat) : sumOn l (fun x => f x + g x) = sumOn l f + sumOn l g := by
  induction l with
  | nil => rfl
  | cons a l ih => rw [sumOn_cons, sumOn_cons, sumOn_cons, ih]; omega
theorem sumOn_const (l : List α) (c : Nat) : sumOn l (fun _ => c) = l.length * c := by
  induction l with
  | nil => simp [sumOn]
  | cons a l ih => rw [sumOn_cons, ih, List.length_cons, Nat.succ_mul]; omega
theorem sumOn_congr {l : List α} {f g : α → Nat} (h : ∀ x ∈ l, f x = g x) : sumOn l f = sumOn l g := by
  induction l with
  | nil => rfl
  | cons a l ih => rw [sumOn_cons, sumOn_cons, h a List.mem_cons_self, ih fun x hx => h x (List.mem_cons_of_mem _ hx)]
theorem sumOn_swap (l : List α) (m : List β) (f : α → β → Nat) : sumOn l (fun x => sumOn m (f x)) = sumOn m (fun y => sumOn l fun x => f x y) := by
  induction l with
  | nil =>
    show 0 = sumOn m fun _ => 0
    rw [sumOn_const]; rfl
  | cons a l ih =>
    rw [sumOn_cons, ih, ← sumOn_add]
    exact sumOn_congr fun y _ => (sumOn_cons a l fun x => f x y).symm
def one (b : Bool) : Nat := if b then 1 else 0
theorem count_sum (l : List α) (p : α → Bool) : (l.filter p).length = sumOn l fun x => one (p x) := by
  induction l with
  | nil => rfl
  | cons a l ih =>
    rw [List.filter_cons, sumOn_cons, ← ih]
    unfold one
    cases p a <;> simp; omega
/-- BURNSIDE -/
theorem burnside (G : List α) (X : List β) (hX : X.Nodup) (mul : α → α → α) (act : α → β → β) (least : β → β)
    (hcl : ∀ g ∈ G, ∀ x ∈ X, act g x ∈ X) (hmul : ∀ g ∈ G, ∀ h ∈ G, ∀ x ∈ X, act (mul g h) x = act g (act h x)) (hperm : ∀ t ∈ G, (G.map fun g => mul g t).Perm G)
    (hinj : ∀ g ∈ G, ∀ x ∈ X, ∀ y ∈ X, act g x = act g y → x = y)
    (hl : ∀ x ∈ X, least x ∈ X ∧ ∃ t ∈ G, act t (least x) = x) (hinv : ∀ x ∈ X, ∀ g ∈ G, least (act g x) = least x) :
    sumOn G (fun g => (X.filter fun x => decide (act g x = x)).length) = G.length * (X.filter fun x => decide (least x = x)).length := by
  have h1 : sumOn G (fun g => (X.filter fun x => decide (act g x = x)).length) = sumOn X fun x => (G.filter fun g => decide (act g x = x)).length := by
    rw [sumOn_congr fun g _ => count_sum X _, sumOn_swap]
    exact sumOn_congr fun x _ => (count_sum G _).symm
  have h2 : sumOn X (fun x => (G.filter fun g => decide (act g x = x)).length) = sumOn X fun x => (G.filter fun g => decide (act g (least x) = x)).length := by
    refine sumOn_congr fun x hx => ?_
    obtain ⟨hm, t, ht, e⟩ := hl x hx
    have h3 := (hperm t ht).filter fun g => decide (act g (least x) = x)
    rw [← h3.length_eq, List.filter_map, List.length_map]
    congr 1
    refine List.filter_congr fun g hg => ?_
    show decide _ = decide (act (mul g t) (least x) = x)
    rw [hmul g hg t ht _ hm, e]
  have h3 : sumOn X (fun x => (G.filter fun g => decide (act g (least x) = x)).length) = sumOn G fun g => (X.filter fun x => decide (act g (least x) = x)).length := by
    rw [sumOn_congr fun g _ => count_sum G _, sumOn_swap]
    exact sumOn_congr fun x _ => (count_sum X _).symm
  rw [h1, h2, h3, ← sumOn_const]
  refine sumOn_congr fun g hg => ?_
  have hp : (X.filter fun x => decide (act g (least x) = x)).Perm ((X.filter fun x => decide (least x = x)).map (act g)) := by
    refine perm_of (hX.filter _) (nodup_map (hX.filter _) fun a ha b hb e => hinj g hg a (List.mem_filter.1 ha).1 b (List.mem_filter.1 hb).1 e) fun x => ?_
    rw [List.mem_filter, decide_eq_true_iff, List.mem_map]
    constructor
    · rintro ⟨hx, e⟩
      obtain ⟨hm, -⟩ := hl x hx
      refine ⟨least x, List.mem_filter.2 ⟨hm, decide_eq_true ?_⟩, e⟩
      have := hinv _ hm g hg
      rw [e] at this
      exact this.symm
    · rintro ⟨m, hm, rfl⟩
      obtain ⟨hmX, hmm⟩ := List.mem_filter.1 hm
      have hmm := of_decide_eq_true hmm
      refine ⟨hcl g hg m hmX, ?_⟩
      rw [hinv m hmX g hg, hmm]
  rw [hp.length_eq, List.length_map]
end
end Go.Proofs.Ytdabgibmbmhmdaa
