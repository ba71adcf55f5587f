/- Several of my texts in one: Arr3, OrbA. -/
import Derived.Test.YtooghdnlaonkaaaRw07
import Derived.Laws.AppendOwnNone
import Derived.Test.YtooghdnlaonkaaaRw01
/- append of a whole slice; rows of slices. -/
namespace Go.Proofs.Ytooghdnlaonkaaa
open Go.RowKit

theorem Fr.none {w0 w : World} {L : List Ent} {T : TypeId} {ad : Option Addr} {n cap : Nat} {xs : List Value} (h : Fr w0 w (⟨T, .slice ad n cap, xs⟩ :: L)) (e : ad = .none) : n = 0 ∧ cap = 0 := by
  rcases (h.os.own _ List.mem_cons_self).elim with ⟨rfl, ⟨rfl, rfl, rfl⟩ | ⟨g, cur, rfl, h2, h3, h4, h5, h6, h7⟩⟩
  · exact ⟨rfl, rfl⟩
  · cases e
/-- append of the cells of another slice to the first of them -/
theorem wpList_pushAll {ops : Array Oper} {rest : List Oper} {o : Oper} {a : Act} {Q : Exit → Act → World → Prop} {w0 w : World} (hgd : o.guard = .none) (s x : Operand) (S T : TypeId) (z : Value) (bytes : Nat)
    (hS : Try.prog.underlying S = some (.slice T)) (hT : (Try.prog.info? T).map (fun i => (i.zero, i.size, i.bytes)) = some (some z, 1, bytes)) (hz : z.cells.size = 1) (hby : bytes ≤ 1000)
    (ho : o.op = .call { callee := .builtin .append, args := #[s, x], argTypes := #[S, S] })
    (ad sp : Option Addr) (n cap m c : Nat) (xs ys : List Value) (L : List Ent) (hs : a.eval s = .slice ad n cap) (hF : Fr w0 w (⟨T, .slice ad n cap, xs⟩ :: L))
    (hx : a.eval x = .slice sp m c) (hY : Sa w sp ys) (hm : ys.length = m) (hnone : sp = .none → c = 0 ∧ m = 0) (h1 : ∀ u ∈ ys, u.oneCell' = true) (hlen : n + m ≤ 1000000)
    (h : ∀ ad' cap' w', Fr w0 w' (⟨T, .slice ad' (n + m) cap', xs ++ ys⟩ :: L) → w.heap.size ≤ w'.heap.size → wpList Try.prog ops Q rest (a.put o.dst (.slice ad' (n + m) cap')) w') :
    wpList Try.prog ops Q (o :: rest) a w := by
  obtain ⟨i0, hi, hz0, hz1, hz2⟩ := info_parts hT
  have hn := hF.len
  have hO := hF.os.own _ List.mem_cons_self
  cases sp with
  | none =>
    obtain ⟨rfl, rfl⟩ := hnone rfl
    obtain rfl := List.eq_nil_of_length_eq_zero hm
    subst hn
    refine wpList_append_own_none hgd s x S ho w0.heap.size T i0 1 hS hi (.slice ad xs.length cap) xs.length xs hs (by rw [← hz1]; exact hz1 ▸ hO) hx ?_
    exact h ad cap w (by simpa using hF) (Nat.le_refl _)
  | some sad =>
    subst hn
    refine wpList_append_own_at _ hgd s x S ho w0.heap.size T i0 z 1 bytes hS hi hz0 hz1 hz2 hz (by decide) (.slice ad xs.length cap) xs.length xs hs hO
      sad m c ys hx (by omega) ?_ h1 ?_ ?_ ?_ ?_
    · intro j u hj
      have hjl : j < ys.length := (List.getElem?_eq_some_iff.1 hj).1
      obtain ⟨b, off, e, _, hc⟩ := hY.at j hjl
      cases e
      rw [show ((⟨b, off, .none⟩ : Addr).add j) = ⟨b, off + j, .none⟩ from by unfold Addr.add; split <;> simp_all, hc, hj]
    · unfold maxLen; omega
    · calc (xs.length + m) * bytes ≤ 1000001 * 1000 := Nat.mul_le_mul (by omega) hby
        _ ≤ _ := by omega
    · exact hF.bel.size
    · intro v' w' k1 k2 hnil hat
      have hsz := k2.size
      have hb0 := hF.bel.size
      have e1 : (xs ++ ys).length = xs.length + m := by rw [List.length_append, hm]
      obtain ⟨ad', cap', rfl⟩ : ∃ ad' cap', v' = .slice ad' (xs.length + m) cap' := by
        rcases k1.2 with ⟨e1, e2⟩ | ⟨g, cap', cur, e1, _⟩
        · exact ⟨.none, 0, by rw [e2, e1]⟩
        · exact ⟨_, _, e1⟩
      refine h ad' cap' w' ⟨?_, ⟨fun e he => ?_, ?_⟩⟩ (by omega)
      · refine Below.grown (row := (Value.slice ad xs.length cap).ownBlock) hF.bel k2 (by omega) ?_
        intro k hk
        exact (Ent.own.lt hO k hk).1
      · rcases List.mem_cons.1 he with rfl | he
        · unfold Ent.own; simp only [e1]; exact k1
        · refine World.ownsRow.kept (hF.os.own e (List.mem_cons_of_mem _ he)) k2 ?_
          exact ((List.pairwise_cons.1 hF.os.far).1 e he).symm
      · have hf := List.pairwise_cons.1 hF.os.far
        refine List.pairwise_cons.2 ⟨fun b hb => ?_, hf.2⟩
        have hbf := hf.1 b hb
        have hlt := Ent.own.lt (hF.os.own b (List.mem_cons_of_mem _ hb))
        rcases hat with hat | hat
        · rcases hbf with hbf | hbf
          · exact .inl (show (Value.slice ad' (xs.length + m) cap').ownBlock = .none by rw [hat]; exact hbf)
          · exact .inr (show (Value.slice ad' (xs.length + m) cap').ownBlock ≠ _ by rw [hat]; exact hbf)
        · refine .inr (show (Value.slice ad' (xs.length + m) cap').ownBlock ≠ _ from ?_)
          rw [hat]
          intro e
          have := (hlt _ e.symm).2
          omega

/-- a copy of a slice of ints: append([]int{}, l...) -/
theorem wpList_copyOf {ops : Array Oper} {rest : List Oper} {o : Oper} {a : Act} {Q : Exit → Act → World → Prop} {w0 w : World} (hgd : o.guard = .none) (s x : Operand)
    (ho : o.op = .call { callee := .builtin .append, args := #[s, x], argTypes := #[32, 32] })
    (ad0 sp : Option Addr) (n c : Nat) (l : List Int) (L : List Ent) (hs : a.eval s = .slice ad0 0 0) (hF : Fr w0 w (⟨3, .slice ad0 0 0, ints []⟩ :: L))
    (hx : a.eval x = .slice sp n c) (hY : Sa w sp (ints l)) (hm : (ints l).length = n) (hnone : sp = .none → c = 0 ∧ n = 0) (hlen : n ≤ 1000000)
    (h : ∀ ad' cap' w', Fr w0 w' (⟨3, .slice ad' n cap', ints l⟩ :: L) → w.heap.size ≤ w'.heap.size → wpList Try.prog ops Q rest (a.put o.dst (.slice ad' n cap')) w') :
    wpList Try.prog ops Q (o :: rest) a w := by
  refine wpList_pushAll hgd s x 32 3 (.int .i64 0) 8 Try.underlying32 intInfo rfl (by omega) ho ad0 sp 0 0 n c (ints []) (ints l) L hs hF hx hY hm hnone (ints_oneCell .i64 l) (by omega) ?_
  intro ad' cap' w' h1 h2
  rw [Nat.zero_add] at h1 ⊢
  exact h ad' cap' w' h1 h2
/-- one number of the first of them -/
theorem Fr.openI {w0 w : World} {L : List Ent} {T : TypeId} {ad : Option Addr} {n cap : Nat} {l : List Int} (h : Fr w0 w (⟨T, .slice ad n cap, ints l⟩ :: L)) (i : Nat) (hi : i < l.length) :
    ∃ g, ad = some ⟨g, 0, .none⟩ ∧ w0.heap.size ≤ g ∧ w.cell? ⟨g, i, .none⟩ = some (.int .i64 (nth l i)) ∧ w.frozen? ⟨g, i, .none⟩ = false := by
  obtain ⟨g, e, h1, _, h2, h3⟩ := h.open (by rw [ints_len]; omega)
  exact ⟨g, e, h1, by rw [h2 i (by rw [ints_len]; exact hi), ints_get l i hi], h3 i⟩
/-! rows -/
/-- a row of ints: address, capacity, numbers -/
abbrev Rw := Option Addr × Nat × List Int
def rv (p : Rw) : Value := .slice p.1 p.2.2.length p.2.1
def re (p : Rw) : Ent := ⟨3, rv p, ints p.2.2⟩
theorem rv_one (R : List Rw) : ∀ u ∈ R.map rv, u.oneCell' = true := by
  intro u hu
  obtain ⟨p, _, rfl⟩ := List.mem_map.1 hu
  rfl
theorem Fr.mem {w0 w : World} {L : List Ent} (h : Fr w0 w L) {T : TypeId} {ad : Option Addr} {n cap : Nat} {xs : List Value} (he : (⟨T, .slice ad n cap, xs⟩ : Ent) ∈ L) : Sa w ad xs := by
  obtain ⟨i, hi⟩ := List.mem_iff_getElem?.1 he
  exact h.get i hi
theorem Fr.pick {w0 w : World} {L : List Ent} (h : Fr w0 w L) {e : Ent} (he : e ∈ L) : Fr w0 w [e] := h.sub (List.singleton_sublist.2 he)
theorem slsInfo : (Try.prog.info? 32).map (fun i => (i.zero, i.size, i.bytes)) = some (some (.slice .none 0 0), 1, 24) := by kernel_rfl
end Go.Proofs.Ytooghdnlaonkaaa
/- Lagrange and Burnside, in plain words: sets that act. -/
namespace Go.Proofs.Ytooghdnlaonkaaa
set_option linter.unusedSectionVars false
section
variable {α β : Type} [DecidableEq α] [DecidableEq β]
theorem nodup_map {f : α → β} {l : List α} (h : l.Nodup) (hi : ∀ a ∈ l, ∀ b ∈ l, f a = f b → a = b) : (l.map f).Nodup := by
  induction l with
  | nil => exact List.nodup_nil
  | cons a l ih =>
    rw [List.nodup_cons] at h
    rw [List.map_cons, List.nodup_cons]
    refine ⟨fun hm => ?_, ih h.2 fun x hx y hy => hi x (List.mem_cons_of_mem _ hx) y (List.mem_cons_of_mem _ hy)⟩
    obtain ⟨b, hb, e⟩ := List.mem_map.1 hm
    have := hi b (List.mem_cons_of_mem _ hb) a List.mem_cons_self e
    rw [this] at hb
    exact h.1 hb
theorem perm_of {l m : List α} (hl : l.Nodup) (hm : m.Nodup) (h : ∀ x, x ∈ l ↔ x ∈ m) : l.Perm m := (List.perm_ext_iff_of_nodup hl hm).2 h
theorem perm_sub {l m : List α} (hl : l.Nodup) (hm : m.Nodup) (h : ∀ x ∈ l, x ∈ m) (e : l.length = m.length) : l.Perm m := by
  refine perm_of hl hm fun x => ⟨h x, fun hx => Decidable.byContradiction fun hn => ?_⟩
  have : (x :: l).Nodup := List.nodup_cons.2 ⟨hn, hl⟩
  have := this.length_le_of_subset (l₂ := m) fun y hy => by
    rcases List.mem_cons.1 hy with rfl | hy
    · exact hx
    · exact h y hy
  rw [List.length_cons] at this; omega
theorem filter_split (l : List α) (p : α → Bool) : l.length = (l.filter p).length + (l.filter fun x => !p x).length := by
  induction l with
  | nil => rfl
  | cons a l ih =>
    rw [List.filter_cons, List.filter_cons]
    cases p a <;> simp [ih] <;> omega
/-- LAGRANGE, of a set that acts freely -/
theorem lagrange (G : List α) (hG : G.Nodup) (mul : α → β → β) : ∀ (n : Nat) (S : List β), S.length = n → S.Nodup → (∀ g ∈ G, ∀ s ∈ S, mul g s ∈ S) → (∀ s ∈ S, ∀ g ∈ G, ∀ h ∈ G, mul g s = mul h s → g = h) →
    (∀ s ∈ S, ∃ g ∈ G, mul g s = s) → (∀ g ∈ G, ∀ h ∈ G, ∀ s ∈ S, ∀ t ∈ S, mul g t = mul h s → ∃ k ∈ G, t = mul k s) → G.length ∣ S.length := by
  intro n
  induction n using Nat.strongRecOn with
  | ind n ih =>
    intro S hn hS hcl hinj hone hback
    cases S with
    | nil => exact ⟨0, rfl⟩
    | cons s S0 =>
      have hs : s ∈ s :: S0 := List.mem_cons_self
      generalize hSS : s :: S0 = S at *
      have hC : (G.map fun g => mul g s).Nodup := nodup_map hG (fun a ha b hb e => hinj s hs a ha b hb e)
      have hp : (S.filter fun x => decide (x ∈ G.map fun g => mul g s)).Perm (G.map fun g => mul g s) := perm_of (hS.filter _) hC (fun x => by
        rw [List.mem_filter, decide_eq_true_iff]
        refine ⟨fun h => h.2, fun h => ⟨?_, h⟩⟩
        obtain ⟨g, hg, rfl⟩ := List.mem_map.1 h
        exact hcl g hg s hs)
      have hlen := filter_split S fun x => decide (x ∈ G.map fun g => mul g s)
      rw [hp.length_eq, List.length_map] at hlen
      have hsub : ∀ x, x ∈ (S.filter fun x => !decide (x ∈ G.map fun g => mul g s)) ↔ x ∈ S ∧ x ∉ G.map fun g => mul g s := fun x => by
        rw [List.mem_filter, Bool.not_eq_true', decide_eq_false_iff_not]
      obtain ⟨g0, hg0, e0⟩ := hone s hs
      have hpos : 0 < G.length := List.length_pos_of_mem hg0
      have := ih (S.filter fun x => !decide (x ∈ G.map fun g => mul g s)).length (by omega) _ rfl (hS.filter _) (fun g hg t ht => by
        rw [hsub] at ht ⊢
        refine ⟨hcl g hg t ht.1, fun hm => ht.2 ?_⟩
        obtain ⟨h, hh, e⟩ := List.mem_map.1 hm
        obtain ⟨k, hk, e2⟩ := hback g hg h hh s hs t ht.1 e.symm
        exact List.mem_map.2 ⟨k, hk, e2.symm⟩)
        (fun t ht => hinj t ((hsub t).1 ht).1) (fun t ht => hone t ((hsub t).1 ht).1) (fun g hg h hh a ha b hb => hback g hg h hh a ((hsub a).1 ha).1 b ((hsub b).1 hb).1)
      rw [hlen]
      exact Nat.dvd_add (Nat.dvd_refl _) this
/-- sums over a row -/
def sumOn (l : List α) (f : α → Nat) : Nat := (l.map f).sum
theorem sumOn_cons (a : α) (l : List α) (f : α → Nat) : sumOn (a :: l) f = f a + sumOn l f := by simp [sumOn]
theorem sumOn_add (l : List α) (f g : α → Nat) : sumOn l (fun x => f x + g x) = sumOn l f + sumOn l g := by
  induction l with
  | nil => rfl
  | cons a l ih => rw [sumOn_cons, sumOn_cons, sumOn_cons, ih]; omega
theorem sumOn_const (l : List α) (c : Nat) : sumOn l (fun _ => c) = l.length * c := by
  induction l with
  | nil => simp [sumOn]
  | cons a l ih => rw [sumOn_cons, ih, List.length_cons, Nat.succ_mul]; omega
theorem sumOn_congr {l : List α} {f g : α → Nat} (h : ∀ x ∈ l, f x = g x) : sumOn l f = sumOn l g := by
  induction l with
  | nil => rfl
  | cons a l ih => rw [sumOn_cons, sumOn_cons, h a List.mem_cons_self, ih fun x hx => h x (List.mem_cons_of_mem _ hx)]
theorem sumOn_swap (l : List α) (m : List β) (f : α → β → Nat) : sumOn l (fun x => sumOn m (f x)) = sumOn m (fun y => sumOn l fun x => f x y) := by
  induction l with
  | nil =>
    show 0 = sumOn m fun _ => 0
    rw [sumOn_const]; rfl
  | cons a l ih =>
    rw [sumOn_cons, ih, ← sumOn_add]
    exact sumOn_congr fun y _ => (sumOn_cons a l fun x => f x y).symm
def one (b : Bool) : Nat := if b then 1 else 0
theorem count_sum (l : List α) (p : α → Bool) : (l.filter p).length = sumOn l fun x => one (p x) := by
  induction l with
  | nil => rfl
  | cons a l ih =>
    rw [List.filter_cons, sumOn_cons, ← ih]
    unfold one
    cases p a <;> simp; omega
/-- BURNSIDE -/
theorem burnside (G : List α) (X : List β) (hX : X.Nodup) (mul : α → α → α) (act : α → β → β) (least : β → β)
    (hcl : ∀ g ∈ G, ∀ x ∈ X, act g x ∈ X) (hmul : ∀ g ∈ G, ∀ h ∈ G, ∀ x ∈ X, act (mul g h) x = act g (act h x)) (hperm : ∀ t ∈ G, (G.map fun g => mul g t).Perm G)
    (hinj : ∀ g ∈ G, ∀ x ∈ X, ∀ y ∈ X, act g x = act g y → x = y)
    (hl : ∀ x ∈ X, least x ∈ X ∧ ∃ t ∈ G, act t (least x) = x) (hinv : ∀ x ∈ X, ∀ g ∈ G, least (act g x) = least x) :
    sumOn G (fun g => (X.filter fun x => decide (act g x = x)).length) = G.length * (X.filter fun x => decide (least x = x)).length := by
  have h1 : sumOn G (fun g => (X.filter fun x => decide (act g x = x)).length) = sumOn X fun x => (G.filter fun g => decide (act g x = x)).length := by
    rw [sumOn_congr fun g _ => count_sum X _, sumOn_swap]
    exact sumOn_congr fun x _ => (count_sum G _).symm
  have h2 : sumOn X (fun x => (G.filter fun g => decide (act g x = x)).length) = sumOn X fun x => (G.filter fun g => decide (act g (least x) = x)).length := by
    refine sumOn_congr fun x hx => ?_
    obtain ⟨hm, t, ht, e⟩ := hl x hx
    have h3 := (hperm t ht).filter fun g => decide (act g (least x) = x)
    rw [← h3.length_eq, List.filter_map, List.length_map]
    congr 1
    refine List.filter_congr fun g hg => ?_
    show decide _ = decide (act (mul g t) (least x) = x)
    rw [hmul g hg t ht _ hm, e]
  have h3 : sumOn X (fun x => (G.filter fun g => decide (act g (least x) = x)).length) = sumOn G fun g => (X.filter fun x => decide (act g (least x) = x)).length := by
    rw [sumOn_congr fun g _ => count_sum G _, sumOn_swap]
    exact sumOn_congr fun x _ => (count_sum X _).symm
  rw [h1, h2, h3, ← sumOn_const]
  refine sumOn_congr fun g hg => ?_
  have hp : (X.filter fun x => decide (act g (least x) = x)).Perm ((X.filter fun x => decide (least x = x)).map (act g)) := by
    refine perm_of (hX.filter _) (nodup_map (hX.filter _) fun a ha b hb e => hinj g hg a (List.mem_filter.1 ha).1 b (List.mem_filter.1 hb).1 e) fun x => ?_
    rw [List.mem_filter, decide_eq_true_iff, List.mem_map]
    constructor
    · rintro ⟨hx, e⟩
      obtain ⟨hm, -⟩ := hl x hx
      refine ⟨least x, List.mem_filter.2 ⟨hm, decide_eq_true ?_⟩, e⟩
      have := hinv _ hm g hg
      rw [e] at this
      exact this.symm
    · rintro ⟨m, hm, rfl⟩
      obtain ⟨hmX, hmm⟩ := List.mem_filter.1 hm
      have hmm := of_decide_eq_true hmm
      refine ⟨hcl g hg m hmX, ?_⟩
      rw [hinv m hmX g hg, hmm]
  rw [hp.length_eq, List.length_map]
end
end Go.Proofs.Ytooghdnlaonkaaa
