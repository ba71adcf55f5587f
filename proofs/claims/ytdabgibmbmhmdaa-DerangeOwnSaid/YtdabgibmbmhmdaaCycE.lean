/- What follows of cycles: equal lists, sums, those of one. -/
import Derived.Test.YtdabgibmbmhmdaaCyc2
namespace Go.Proofs.Ytdabgibmbmhmdaa
open Go.RowKit

theorem cycL_eqW {o1 o2 : List Nat} (p1 : ∀ x ∈ o1, 1 ≤ x) (p2 : ∀ x ∈ o2, 1 ≤ x) (he : ∀ g : Nat → Nat, (o1.map fun x => x * g x).sum = (o2.map fun x => x * g x).sum) : cycL o1 = cycL o2 := by
  refine insSd_eq (List.Perm.map _ (List.perm_iff_count.2 fun d => ?_))
  rcases Nat.eq_zero_or_pos d with hd | hd
  · subst hd
    rw [List.count_eq_zero.2 (fun hx => by have := p1 0 hx; omega), List.count_eq_zero.2 (fun hx => by have := p2 0 hx; omega)]
  · have := he (fun x => if x = d then 1 else 0)
    rw [sum_pick, sum_pick] at this
    exact Nat.eq_of_mul_eq_mul_left hd this
theorem cyc102 {out : List Nat} (h : CycOk [1, 0, 2] out) : cycL out = [2, 1] := by
  have e0 : ol [1, 0, 2] 0 = 2 := by decide
  have e1 : ol [1, 0, 2] 1 = 2 := by decide
  have e2 : ol [1, 0, 2] 2 = 1 := by decide
  have : cycL out = cycL [2, 1] := cycL_eqW (fun x hx => (h.pos x hx).1) (by decide) fun g => by
    rw [h.sum g]
    show sumN _ 3 = _
    simp only [sumN, e0, e1, e2, List.map_cons, List.map_nil, List.sum_cons, List.sum_nil]
    omega
  rw [this]; decide
theorem cyc_inv {p : List Int} (h : IsP p) {o1 o2 : List Nat} (h1 : CycOk p o1) (h2 : CycOk (invL p) o2) : cycL o1 = cycL o2 :=
  cycL_eq h1 h2 fun g => by rw [invL_len]; exact sumN_congr _ fun v hv => by rw [ol_inv h hv]
theorem cyc_conj {a b : List Int} (ha : IsP a) (hb : IsP b) (hl : a.length = b.length) {o1 o2 : List Nat} (h1 : CycOk a o1) (h2 : CycOk (tmL b (tmL a (invL b))) o2) : cycL o1 = cycL o2 :=
  cycL_eq h1 h2 fun g => by
    rw [conj_len, ← sumN_perm hb (fun v => g (ol (tmL b (tmL a (invL b))) v)), hl]
    exact sumN_congr _ fun v hv => by rw [ol_conj ha hb hl hv]
def isL : List Int → Int
  | [] => 0
  | x :: l => x + isL l
theorem isL_perm {l m : List Int} (h : l.Perm m) : isL l = isL m := by
  induction h with
  | nil => rfl
  | cons x _ ih => rw [isL, isL, ih]
  | swap x y l => rw [isL, isL, isL, isL]; omega
  | trans _ _ ih1 ih2 => exact ih1.trans ih2
theorem isL_nat (l : List Nat) : isL (natI l) = ((l.map fun x => x * 1).sum : Nat) := by
  induction l with
  | nil => rfl
  | cons x l ih => rw [show natI (x :: l) = (x : Int) :: natI l from rfl, isL, ih, List.map_cons, List.sum_cons]; omega
theorem cyc_sum {p : List Int} {out : List Nat} (h : CycOk p out) : isL (cycL out) = p.length := by
  rw [← isL_perm (cycL_perm out), isL_nat, h.sum (fun _ => 1), sumN_one]
theorem isL_snoc (l : List Int) (x : Int) : isL (l ++ [x]) = isL l + x := by
  induction l with
  | nil => simp [isL]
  | cons y l ih => rw [List.cons_append, isL, isL, ih]; omega
theorem isL_take (l : List Int) (k : Nat) (h : k < l.length) : isL (l.take (k + 1)) = isL (l.take k) + nth l k := by rw [take_nth l k h, isL_snoc]
theorem isL_bd (l : List Int) (h : ∀ x ∈ l, 0 ≤ x ∧ x ≤ 1000) : 0 ≤ isL l ∧ isL l ≤ 1000 * l.length := by
  induction l with
  | nil => simp [isL]
  | cons x l ih =>
    have := ih fun y hy => h y (List.mem_cons_of_mem _ hy)
    have := h x List.mem_cons_self
    rw [isL, List.length_cons]; omega
theorem cycL_bd {p : List Int} {out : List Nat} (h : CycOk p out) (h10 : p.length ≤ 10) : ∀ x ∈ cycL out, 0 ≤ x ∧ x ≤ 1000 := fun x hx => by
  rw [← (cycL_perm out).mem_iff, natI] at hx
  obtain ⟨y, hy, rfl⟩ := List.mem_map.1 hx
  have := h.pos y hy; omega
/-- those that go to themselves -/
def ownN (p : List Int) : Nat := sumN (fun v => if pf p v = v then 1 else 0) p.length
theorem own_ol {p : List Int} (h : IsP p) {v : Nat} (hv : v < p.length) : pf p v = v ↔ ol p v = 1 := by
  constructor
  · intro e; exact ol_uniq h hv (by omega) e fun t t1 t2 => by omega
  · intro e; have := (ol_spec h hv).2.2.1; rw [e] at this; exact this
theorem own_eq {p : List Int} (h : IsP p) : ownN p = sumN (fun v => if ol p v = 1 then 1 else 0) p.length :=
  sumN_congr _ fun v hv => by
    have := own_ol h hv
    by_cases c : pf p v = v
    · rw [if_pos c, if_pos (this.1 c)]
    · rw [if_neg c, if_neg (fun e => c (this.2 e))]
theorem own_inv {p : List Int} (h : IsP p) : ownN (invL p) = ownN p := by
  rw [own_eq (inv_isP h), own_eq h, invL_len]
  exact sumN_congr _ fun v hv => by rw [ol_inv h hv]
theorem own_conj {a b : List Int} (ha : IsP a) (hb : IsP b) (hl : a.length = b.length) : ownN (tmL b (tmL a (invL b))) = ownN a := by
  rw [own_eq (conj_isP ha hb hl), own_eq ha, conj_len, ← sumN_perm hb (fun v => if ol (tmL b (tmL a (invL b))) v = 1 then 1 else 0), hl]
  exact sumN_congr _ fun v hv => by rw [ol_conj ha hb hl hv]
theorem own_cyc {p : List Int} (h : IsP p) {out : List Nat} (hc : CycOk p out) : ownN p = (cycL out).count 1 := by
  have e := hc.sum (fun x => if x = 1 then 1 else 0)
  rw [sum_pick, Nat.one_mul] at e
  rw [own_eq h, ← e, ← (cycL_perm out).count_eq, natI]
  clear e hc
  induction out with
  | nil => rfl
  | cons x out ih =>
    rw [List.count_cons, List.map_cons, List.count_cons, ih]
    by_cases c : x = 1
    · subst c; rfl
    · simp [c]; omega
end Go.Proofs.Ytdabgibmbmhmdaa
