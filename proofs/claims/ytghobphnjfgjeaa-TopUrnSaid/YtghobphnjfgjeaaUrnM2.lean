/- Plain laws of urns: products, order, sums. -/
import Derived.Test.YtghobphnjfgjeaaUrnM
namespace Go.Proofs.Ytghobphnjfgjeaa
open Go.RowKit

def hav (m : Int) : List Int → List Int → List Int
  | h, [] => h
  | h, k :: ds => hav m (h.set k.toNat (nth h k.toNat + m)) ds
def exN (m : Int) : List Int → List Int → Int
  | _, [] => 1
  | h, k :: ds => nth h k.toNat * exN m (h.set k.toNat (nth h k.toNat + m)) ds
def exD (m : Int) : List Int → List Int → Int
  | _, [] => 1
  | h, k :: ds => usum h * exD m (h.set k.toNat (nth h k.toNat + m)) ds
def Val (n : Nat) (ds : List Int) : Prop := ∀ k ∈ ds, 0 ≤ k ∧ k < (n : Int)
theorem Val.tail {n : Nat} {k : Int} {ds : List Int} (h : Val n (k :: ds)) : Val n ds := fun x hx => h x (by simp [hx])
theorem Val.head {n : Nat} {k : Int} {ds : List Int} (h : Val n (k :: ds)) : 0 ≤ k ∧ k < (n : Int) ∧ k.toNat < n := by
  have := h k (by simp); omega
theorem redP_le_redQ {a b : Int} (hb : 0 < b) (h0 : 0 ≤ a) (h : a ≤ b) : 0 ≤ redP a b ∧ redP a b ≤ redQ a b := by
  have h1 := redP_mul a b
  have h2 := redQ_mul a b
  have h3 := redG_pos a b hb
  generalize redG a b = g at *
  generalize redP a b = x at *
  generalize redQ a b = y at *
  constructor
  · by_cases h4 : x < 0
    · have := Int.mul_neg_of_neg_of_pos h4 h3; omega
    · omega
  · by_cases h4 : y < x
    · have : y * g < x * g := Int.mul_lt_mul_of_pos_right h4 h3
      omega
    · omega
theorem usum_more (h : List Int) (k : Nat) (m : Int) : usum (h.set k (nth h k + m)) = usum h + if k < h.length then m else 0 := by
  by_cases hk : k < h.length
  · rw [if_pos hk, usum_set _ _ _ hk]; omega
  · rw [if_neg hk, List.set_eq_of_length_le (by omega)]; omega
theorem exD_pos (m : Int) (h0 : 0 ≤ m) : ∀ (ds h : List Int), 0 < usum h → 0 < exD m h ds
  | [], _, _ => by simp [exD]
  | k :: ds, h, hp => by
    rw [exD]
    refine Int.mul_pos hp (exD_pos m h0 ds _ ?_)
    rw [usum_more]; split <;> omega
/-- what comes out without an error is the product in lowest terms -/
theorem chn_said (m : Int) (h0 : 0 ≤ m) (h12 : m ≤ 12) (n : Nat) : ∀ (ds h : List Int) (B P Q : Int), 0 ≤ B → B + 12 * ds.length ≤ 1000000 → UOk h n B → Rat1 P Q →
    (Val n ds → (chn m h ds P Q).2.2 = 0 ∨ (chn m h ds P Q).2.2 = 2) ∧ ((chn m h ds P Q).2.2 = 0 → Val n ds) ∧
    ((chn m h ds P Q).2.2 = 0 → Rat1 (chn m h ds P Q).1 (chn m h ds P Q).2.1 ∧ Eqv (chn m h ds P Q).1 (chn m h ds P Q).2.1 (P * exN m h ds) (Q * exD m h ds)) ∧
    ((chn m h ds P Q).2.2 ≠ 0 → (chn m h ds P Q).1 = 0 ∧ (chn m h ds P Q).2.1 = 0)
  | [], h, B, P, Q, _, _, hu, hr => by
    refine ⟨fun _ => .inl rfl, fun _ k hk => by simp at hk, fun _ => ⟨hr, ?_⟩, fun e => absurd rfl e⟩
    unfold Eqv
    simp [chn, exN, exD]
  | k :: ds, h, B, P, Q, hB, hB2, hu, hr => by
    rw [chn, hu.len]
    by_cases hbad : k < 0 ∨ (n : Int) ≤ k
    · rw [if_pos hbad]
      refine ⟨fun hv => ?_, fun e => by simp at e, fun e => by simp at e, fun _ => ⟨rfl, rfl⟩⟩
      have := hv.head; omega
    · rw [if_neg hbad]
      have hk : k.toNat < n := by omega
      have hx := hu.nth _ hk
      have hs := hu.pos
      have hs2 := hu.sum hB
      rw [List.length_cons] at hB2
      have hm := hu.more _ hk m h0 h12
      have hxs : nth h k.toNat ≤ usum h := usum_ge h (fun y hy => (hu.bd y hy).1) _ (by rw [hu.len]; exact hk)
      have e1 := eqv_red (nth h k.toNat) (usum h)
      have rp := red_rat (nth h k.toNat) (usum h) (by omega) (by omega)
      have vv : Val n (k :: ds) ↔ Val n ds := ⟨Val.tail, fun hv x hx => by
        rcases List.mem_cons.1 hx with rfl | hx
        · omega
        · exact hv x hx⟩
      rw [exN, exD, vv]
      generalize hp : redP (nth h k.toNat) (usum h) = p at *
      generalize hq : redQ (nth h k.toNat) (usum h) = q at *
      by_cases hf : Fits (P * p) (Q * q)
      · rw [if_pos hf]
        have hQq : 0 < Q * q := Int.mul_pos (by have := hr.1; omega) (by have := rp.1; omega)
        have hr2 : Rat1 (redP (P * p) (Q * q)) (redQ (P * p) (Q * q)) := ⟨by have := redQ_pos (P * p) (Q * q) hQq; omega, hf.1, hf.2.1, hf.2.2, red_gcd _ _ hQq⟩
        have ih := chn_said m h0 h12 n ds _ (B + 12) _ _ (by omega) (by omega) hm hr2
        have e2 := eqv_red (P * p) (Q * q)
        generalize redP (P * p) (Q * q) = P' at *
        generalize redQ (P * p) (Q * q) = Q' at *
        refine ⟨ih.1, ih.2.1, fun e => ⟨(ih.2.2.1 e).1, ?_⟩, ih.2.2.2⟩
        have i3 := (ih.2.2.1 e).2
        generalize exN m (h.set k.toNat (nth h k.toNat + m)) ds = N at *
        have d3 : 0 < exD m (h.set k.toNat (nth h k.toNat + m)) ds := exD_pos m h0 ds _ hm.pos
        generalize exD m (h.set k.toNat (nth h k.toNat + m)) ds = D at *
        generalize (chn m (h.set k.toNat (nth h k.toNat + m)) ds P' Q').1 = X at *
        generalize (chn m (h.set k.toNat (nth h k.toNat + m)) ds P' Q').2.1 = Y at *
        generalize nth h k.toNat = x at *
        generalize usum h = S at *
        have hQ'0 : 0 < Q' := by have := hr2.1; omega
        have t1 : Eqv (P' * N) (Q' * D) (P * p * N) (Q * q * D) := eqv_mul e2 rfl
        have t2 : Eqv (P * p * N) (Q * q * D) (P * (x * N)) (Q * (S * D)) := by
          have : Eqv (P * p) (Q * q) (P * x) (Q * S) := eqv_mul rfl e1
          have := eqv_mul this (rfl : Eqv N D N D)
          rw [Int.mul_assoc P x N, Int.mul_assoc Q S D] at this
          exact this
        exact eqv_trans (Int.mul_pos hQ'0 d3) i3 (eqv_trans (Int.mul_pos hQq d3) t1 t2)
      · rw [if_neg hf]
        refine ⟨fun _ => .inr rfl, fun e => by simp at e, fun e => by simp at e, fun _ => ⟨rfl, rfl⟩⟩

/-- small products fit -/
theorem chn_fits (m : Int) (h0 : 0 ≤ m) (h12 : m ≤ 12) (n : Nat) : ∀ (ds h : List Int) (B P Q : Int), 0 ≤ B → B + 12 * ds.length ≤ 1000000 → UOk h n B → Rat1 P Q → 0 ≤ P → P ≤ Q → Q * exD m h ds ≤ 1000000000 → Val n ds →
    (chn m h ds P Q).2.2 = 0 ∧ 0 ≤ (chn m h ds P Q).1 ∧ (chn m h ds P Q).1 ≤ (chn m h ds P Q).2.1
  | [], h, B, P, Q, _, _, hu, hr, p0, pq, _, _ => ⟨rfl, p0, pq⟩
  | k :: ds, h, B, P, Q, hB, hB2, hu, hr, p0, pq, hD, hv => by
    obtain ⟨v1, v2, hk⟩ := hv.head
    rw [chn, hu.len, if_neg (by omega)]
    have hx := hu.nth _ hk
    have hs := hu.pos
    rw [List.length_cons] at hB2
    have hm := hu.more _ hk m h0 h12
    have hs2 := hu.sum hB
    have hxs : nth h k.toNat ≤ usum h := usum_ge h (fun y hy => (hu.bd y hy).1) _ (by rw [hu.len]; exact hk)
    have rp := red_rat (nth h k.toNat) (usum h) (by omega) (by omega)
    have r1 := redP_le_redQ hs hx.1 hxs
    have r2 := redQ_le (nth h k.toNat) (usum h) hs
    have dp := exD_pos m h0 ds _ hm.pos
    rw [exD] at hD
    generalize hp : redP (nth h k.toNat) (usum h) = p at *
    generalize hq : redQ (nth h k.toNat) (usum h) = q at *
    have Q0 : 0 < Q := by have := hr.1; omega
    have q0 : 0 < q := by have := rp.1; omega
    have hQq : 0 < Q * q := Int.mul_pos Q0 q0
    have hPp : 0 ≤ P * p := Int.mul_nonneg p0 r1.1
    have hle : P * p ≤ Q * q := Int.mul_le_mul pq r1.2 r1.1 (by omega)
    have b1 := redP_le_redQ hQq hPp hle
    have b2 := redQ_le (P * p) (Q * q) hQq
    have b3 : Q * q ≤ Q * usum h := Int.mul_le_mul_of_nonneg_left r2 (by omega)
    have QS : 0 < Q * usum h := Int.mul_pos Q0 hs
    have b4 : Q * usum h * 1 ≤ Q * usum h * exD m (h.set k.toNat (nth h k.toNat + m)) ds := Int.mul_le_mul_of_nonneg_left (by omega) (by omega)
    rw [Int.mul_assoc Q (usum h) (exD m (h.set k.toNat (nth h k.toNat + m)) ds)] at b4
    have hf : Fits (P * p) (Q * q) := ⟨by omega, by omega, by omega⟩
    rw [if_pos hf]
    have hr2 : Rat1 (redP (P * p) (Q * q)) (redQ (P * p) (Q * q)) := ⟨by have := redQ_pos (P * p) (Q * q) hQq; omega, hf.1, hf.2.1, hf.2.2, red_gcd _ _ hQq⟩
    refine chn_fits m h0 h12 n ds _ (B + 12) _ _ (by omega) (by omega) hm hr2 b1.1 b1.2 ?_ hv.tail
    have : redQ (P * p) (Q * q) * exD m (h.set k.toNat (nth h k.toNat + m)) ds ≤ Q * usum h * exD m (h.set k.toNat (nth h k.toNat + m)) ds := Int.mul_le_mul_of_nonneg_right (by omega) (by omega)
    rw [Int.mul_assoc Q] at this
    omega

theorem exN_app (m : Int) : ∀ (a b h : List Int), exN m h (a ++ b) = exN m h a * exN m (hav m h a) b
  | [], b, h => by simp [exN, hav]
  | k :: a, b, h => by rw [List.cons_append, exN, exN, hav, exN_app m a b, Int.mul_assoc]
theorem exD_app (m : Int) : ∀ (a b h : List Int), exD m h (a ++ b) = exD m h a * exD m (hav m h a) b
  | [], b, h => by simp [exD, hav]
  | k :: a, b, h => by rw [List.cons_append, exD, exD, hav, exD_app m a b, Int.mul_assoc]
theorem hav_ok (m : Int) (h0 : 0 ≤ m) (h12 : m ≤ 12) (n : Nat) : ∀ (ds h : List Int) (B : Int), UOk h n B → Val n ds → UOk (hav m h ds) n (B + 12 * ds.length)
  | [], h, B, hu, _ => by simpa [hav] using hu
  | k :: ds, h, B, hu, hv => by
    have := hav_ok m h0 h12 n ds _ (B + 12) (hu.more _ hv.head.2.2 m h0 h12) hv.tail
    rw [hav, List.length_cons]
    rw [show B + 12 * ((ds.length + 1 : Nat) : Int) = B + 12 + 12 * (ds.length : Int) from by omega]
    exact this
theorem hav_sum (m : Int) (n : Nat) : ∀ (ds h : List Int), h.length = n → Val n ds → usum (hav m h ds) = usum h + m * ds.length
  | [], h, _, _ => by simp [hav]
  | k :: ds, h, hl, hv => by
    rw [hav, hav_sum m n ds _ (by rw [List.length_set, hl]) hv.tail, usum_more, if_pos (by rw [hl]; exact hv.head.2.2), List.length_cons, Int.natCast_add, Int.mul_add]
    simp; omega
/-- the order does not matter -/
theorem set_more_comm (h : List Int) (a b : Nat) (m : Int) (hab : a ≠ b) (ha : a < h.length) (hb : b < h.length) :
    (h.set a (nth h a + m)).set b (nth (h.set a (nth h a + m)) b + m) = (h.set b (nth h b + m)).set a (nth (h.set b (nth h b + m)) a + m) := by
  rw [nth_set _ _ _ _ ha, nth_set _ _ _ _ hb, if_neg (fun e => hab e.symm), if_neg hab, List.set_comm _ _ hab]
theorem exN_swap (m : Int) (n : Nat) (h : List Int) (hl : h.length = n) (a b : Int) (ds : List Int) (hv : Val n (a :: b :: ds)) : exN m h (a :: b :: ds) = exN m h (b :: a :: ds) := by
  have ha := hv.head.2.2
  have hb := hv.tail.head.2.2
  rw [exN, exN, exN, exN]
  by_cases hab : a.toNat = b.toNat
  · rw [hab]
  · rw [set_more_comm h a.toNat b.toNat m hab (by omega) (by omega), nth_set _ _ _ _ (by omega), nth_set _ _ _ _ (by omega), if_neg (fun e => hab e.symm), if_neg hab, ← Int.mul_assoc, ← Int.mul_assoc, Int.mul_comm (nth h a.toNat)]
theorem exN_perm (m : Int) (n : Nat) {d e : List Int} (p : d.Perm e) : ∀ h : List Int, h.length = n → Val n d → exN m h d = exN m h e := by
  induction p with
  | nil => intros; rfl
  | cons x _ ih => intro h hl hv; rw [exN, exN, ih _ (by rw [List.length_set, hl]) hv.tail]
  | swap x y l => intro h hl hv; exact exN_swap m n h hl y x l hv
  | trans p1 p2 ih1 ih2 => intro h hl hv; rw [ih1 h hl hv, ih2 h hl (fun k hk => hv k (p1.mem_iff.2 hk))]
def dpow (m : Int) : Int → Nat → Int
  | _, 0 => 1
  | S, k + 1 => S * dpow m (S + m) k
theorem exD_pow (m : Int) (n : Nat) : ∀ (ds h : List Int), h.length = n → Val n ds → exD m h ds = dpow m (usum h) ds.length
  | [], _, _, _ => rfl
  | k :: ds, h, hl, hv => by
    rw [exD, exD_pow m n ds _ (by rw [List.length_set, hl]) hv.tail, usum_more, if_pos (by rw [hl]; exact hv.head.2.2), List.length_cons, dpow]
theorem dpow_bd (m : Int) (h0 : 0 ≤ m) (h12 : m ≤ 12) : ∀ (k : Nat) (S T : Int), 0 < S → S ≤ T → 0 < dpow m S k ∧ dpow m S k ≤ dpow 12 T k
  | 0, _, _, _, _ => by simp [dpow]
  | k + 1, S, T, hS, hT => by
    have ih := dpow_bd m h0 h12 k (S + m) (T + 12) (by omega) (by omega)
    rw [dpow, dpow]
    exact ⟨Int.mul_pos hS ih.1, Int.mul_le_mul hT ih.2 (by omega) (by omega)⟩
theorem dpow_60 : dpow 12 60 0 ≤ 35000000 ∧ dpow 12 60 1 ≤ 35000000 ∧ dpow 12 60 2 ≤ 35000000 ∧ dpow 12 60 3 ≤ 35000000 ∧ dpow 12 60 4 ≤ 35000000 := by decide
theorem exD_small (m : Int) (h0 : 0 ≤ m) (h12 : m ≤ 12) (n : Nat) (h ds : List Int) (hu : UOk h n 12) (hv : Val n ds) (h4 : ds.length ≤ 4) : 0 < exD m h ds ∧ exD m h ds ≤ 35000000 := by
  rw [exD_pow m n ds h hu.len hv]
  have hs := hu.sum (by omega)
  have := dpow_bd m h0 h12 ds.length (usum h) 60 hu.pos (by omega)
  refine ⟨this.1, Int.le_trans this.2 ?_⟩
  have d := dpow_60
  obtain ⟨k, hk⟩ : ∃ k, ds.length = k := ⟨_, rfl⟩
  rw [hk] at h4 ⊢
  match k, h4 with
  | 0, _ => exact d.1
  | 1, _ => exact d.2.1
  | 2, _ => exact d.2.2.1
  | 3, _ => exact d.2.2.2.1
  | 4, _ => exact d.2.2.2.2
theorem exN_bd (m : Int) (h0 : 0 ≤ m) (h12 : m ≤ 12) (n : Nat) : ∀ (ds h : List Int) (B : Int), UOk h n B → Val n ds → 0 ≤ exN m h ds ∧ exN m h ds ≤ exD m h ds
  | [], _, _, _, _ => by simp [exN, exD]
  | k :: ds, h, B, hu, hv => by
    have hk := hv.head.2.2
    have ih := exN_bd m h0 h12 n ds _ (B + 12) (hu.more _ hk m h0 h12) hv.tail
    have hx := hu.nth _ hk
    have hxs : nth h k.toNat ≤ usum h := usum_ge h (fun y hy => (hu.bd y hy).1) _ (by rw [hu.len]; exact hk)
    rw [exN, exD]
    exact ⟨Int.mul_nonneg hx.1 ih.1, Int.mul_le_mul hxs ih.2 ih.1 (by have := hu.pos; omega)⟩
/-- the whole, where it is small -/
theorem chn_small (m : Int) (h0 : 0 ≤ m) (h12 : m ≤ 12) (n : Nat) (h ds : List Int) (hu : UOk h n 12) (hv : Val n ds) (h4 : ds.length ≤ 4) :
    chn m h ds 1 1 = (redP (exN m h ds) (exD m h ds), redQ (exN m h ds) (exD m h ds), 0) := by
  have r1 : Rat1 1 1 := by unfold Rat1; decide
  have d := exD_small m h0 h12 n h ds hu hv h4
  have f := chn_fits m h0 h12 n ds h 12 1 1 (by omega) (by omega) hu r1 (by omega) (by omega) (by omega) hv
  have s := (chn_said m h0 h12 n ds h 12 1 1 (by omega) (by omega) hu r1).2.2.1 f.1
  rw [Int.one_mul, Int.one_mul] at s
  obtain ⟨f1, -⟩ := f
  generalize chn m h ds 1 1 = c at *
  obtain ⟨X, Y, er⟩ := c
  simp only at f1 s
  obtain ⟨s1, s2⟩ := s
  have e1 := red_self s1
  have e2 := red_eq (by have := s1.1; omega) d.1 s2
  rw [f1, ← e2.1, ← e2.2, e1.1, e1.2]

/-! Laplace: one of each, one more each time -/
def allB : Nat → List (List Int)
  | 0 => [[]]
  | n + 1 => (allB n).map (fun l => 0 :: l) ++ (allB n).map (fun l => 1 :: l)
theorem allB_mem : ∀ l : List Int, (∀ x ∈ l, x = 0 ∨ x = 1) → l ∈ allB l.length
  | [], _ => by simp [allB]
  | x :: l, h => by
    have ih := allB_mem l (fun y hy => h y (by simp [hy]))
    rw [List.length_cons, allB]
    rcases h x (by simp) with rfl | rfl
    · exact List.mem_append.2 (.inl (List.mem_map.2 ⟨l, ih, rfl⟩))
    · exact List.mem_append.2 (.inr (List.mem_map.2 ⟨l, ih, rfl⟩))

/-! sums over the colours -/
theorem chn_bad (m : Int) (n : Nat) (h : List Int) (ds : List Int) (h0 : 0 ≤ m) (h12 : m ≤ 12) (hu : UOk h n 12) (hl : ds.length ≤ 1000) (he : (chn m h ds 1 1).2.2 ≠ 0) : (chn m h ds 1 1).1 = 0 ∧ (chn m h ds 1 1).2.1 = 0 :=
  (chn_said m h0 h12 n ds h 12 1 1 (by omega) (by omega) hu (by unfold Rat1; decide)).2.2.2 he

theorem red_zero (D : Int) (h : 0 < D) : redP 0 D = 0 ∧ redQ 0 D = 1 := by
  have r : Rat1 0 1 := by unfold Rat1; decide
  have e := red_self r
  have := red_eq (p := 0) (q := D) (r := 0) (s := 1) h (by omega) (by unfold Eqv; omega)
  rw [this.1, this.2]; exact e
theorem red_add (N x D : Int) (h : 0 < D) : RedIs (redP N D * redQ x D + redP x D * redQ N D) (redQ N D * redQ x D) (redP (N + x) D) (redQ (N + x) D) := by
  have e1 := eqv_add (eqv_red N D) (eqv_red x D)
  have q1 := redQ_pos N D h
  have q2 := redQ_pos x D h
  have hDD : 0 < D * D := Int.mul_pos h h
  refine red_eq (Int.mul_pos q1 q2) h (eqv_trans hDD e1 ?_)
  unfold Eqv
  rw [← Int.add_mul, Int.mul_assoc]
/-- the draws of K behind one of the first t -/
def samS (m : Int) (l : List Int) (ds : List Int) : Nat → Int
  | 0 => 0
  | t + 1 => samS m l ds t + exN m l ((t : Int) :: ds)
theorem sam_total (m : Int) (l : List Int) (K : Nat) (hK : K < l.length) : ∀ t, t ≤ l.length → samS m l [(K : Int)] t = nth l K * usum (l.take t) + if K < t then nth l K * m else 0
  | 0, _ => by simp [samS, usum]
  | t + 1, h => by
    rw [samS, sam_total m l K hK t (by omega), take_nth l t (by omega), usum_snoc, exN, exN, exN, Int.toNat_natCast, Int.toNat_natCast, nth_set _ _ _ _ (by omega)]
    by_cases e : K = t
    · subst e; rw [if_pos rfl, if_neg (by omega), if_pos (by omega)]; grind
    · rw [if_neg e]
      by_cases h2 : K < t
      · rw [if_pos h2, if_pos (by omega)]; grind
      · rw [if_neg h2, if_neg (by omega)]; grind
theorem sam_bd (m : Int) (h0 : 0 ≤ m) (h12 : m ≤ 12) (n : Nat) (l : List Int) (hu : UOk l n 12) (ds : List Int) (hv : Val n ds) (D : Int) (hD : ∀ t : Nat, t < n → exD m l ((t : Int) :: ds) = D) : ∀ t, t ≤ n → 0 ≤ samS m l ds t ∧ samS m l ds t ≤ t * D
  | 0, _ => by simp [samS]
  | t + 1, h => by
    have ih := sam_bd m h0 h12 n l hu ds hv D hD t (by omega)
    have vv : Val n ((t : Int) :: ds) := fun x hx => by
      rcases List.mem_cons.1 hx with rfl | hx
      · omega
      · exact hv x hx
    have b := exN_bd m h0 h12 n _ l 12 hu vv
    rw [hD t (by omega)] at b
    rw [samS, Int.natCast_add, Int.add_mul]
    simp only [Int.natCast_one, Int.one_mul]
    omega
/-- a colour behind the draws -/
def allS (m : Int) (l : List Int) (ds : List Int) : Nat → Int
  | 0 => 0
  | t + 1 => allS m l ds t + exN m l (ds ++ [(t : Int)])
theorem all_total (m : Int) (n : Nat) (l ds : List Int) (hl : (hav m l ds).length = n) : ∀ t, t ≤ n → allS m l ds t = exN m l ds * usum ((hav m l ds).take t)
  | 0, _ => by simp [allS, usum]
  | t + 1, h => by
    rw [allS, all_total m n l ds hl t (by omega), exN_app, exN, exN, Int.toNat_natCast, take_nth _ t (by omega), usum_snoc, Int.mul_one, Int.mul_add]
end Go.Proofs.Ytghobphnjfgjeaa
