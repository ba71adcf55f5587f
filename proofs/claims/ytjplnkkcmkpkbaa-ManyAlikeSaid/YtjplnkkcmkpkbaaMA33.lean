/- Several of my texts in one: Lot2, StrM. -/
import Derived.Test.YtjplnkkcmkpkbaaMA31
set_option linter.unusedSimpArgs false
set_option linter.unusedVariables false
/- Contract of lottery.Lend. -/
namespace Go.Proofs.Ytjplnkkcmkpkbaa
open Go.RowKit

def lendL (l : List Int) (f t : Nat) (k : Int) : List Int := (l.set f (nth l f - k)).set t (nth (l.set f (nth l f - k)) t + k)
def LendOk (l : List Int) (f t k : Int) (f' t' : Nat) : Prop := f = f' ∧ t = t' ∧ f' < l.length ∧ t' < l.length ∧ 0 ≤ k ∧ k ≤ nth l f' ∧ nth (l.set f' (nth l f' - k)) t' + k ≤ 100
theorem lendL_len (l : List Int) (f t : Nat) (k : Int) : (lendL l f t k).length = l.length := by simp [lendL]
def LendBad (w : World) (e : Ending) (w' : World) : Prop := ∃ err : Int, (err = 1 ∨ err = 4 ∨ err = 9) ∧ e = .returned (.tuple #[.slice none 0 0, .int .i64 err]) ∧ Fr w w' []
def OneSlL (l : List Int) (n : Nat) (err : Int) (w : World) (e : Ending) (w' : World) : Prop :=
  ∃ ad cp, e = .returned (.tuple #[.slice ad n cp, .int .i64 err]) ∧ n ≤ cp ∧ Fr w w' [⟨3, .slice ad n cp, ints l⟩]

theorem lend_cells {w0 w : World} {g n cap : Nat} {l : List Int} {L : List Ent} (hF : Fr w0 w (⟨3, .slice (some ⟨g, 0, none⟩) n cap, ints l⟩ :: L)) (f t : Nat) (k x y : Int)
    (hf : f < l.length) (ht : t < l.length) (hx : nth l f = x) (hy : nth (l.set f (x - k)) t = y) :
    w.cell? ⟨g, f, none⟩ = some (.int .i64 x) ∧ w.frozen? ⟨g, f, none⟩ = false ∧ (w.setCell ⟨g, f, none⟩ (.int .i64 (x - k))).cell? ⟨g, t, none⟩ = some (.int .i64 y) ∧
    (w.setCell ⟨g, f, none⟩ (.int .i64 (x - k))).frozen? ⟨g, t, none⟩ = false ∧
    ((w.setCell ⟨g, f, none⟩ (.int .i64 (x - k))).setCell ⟨g, t, none⟩ (.int .i64 (y + k))).cell? ⟨g, t, none⟩ = some (.int .i64 (y + k)) ∧
    Fr w0 ((w.setCell ⟨g, f, none⟩ (.int .i64 (x - k))).setCell ⟨g, t, none⟩ (.int .i64 (y + k))) (⟨3, .slice (some ⟨g, 0, none⟩) n cap, ints (lendL l f t k)⟩ :: L) := by
  obtain ⟨g1, e1, _, c1, z1⟩ := hF.openI f hf
  cases e1
  have h2 := hF.setInt f (x - k)
  obtain ⟨g2, e2, _, c2, z2⟩ := h2.openI t (by simpa using ht)
  cases e2
  have h3 := h2.setInt t (y + k)
  obtain ⟨g3, e3, _, c3, z3⟩ := h3.openI t (by simpa using ht)
  cases e3
  refine ⟨by rw [c1, hx], z1, by rw [c2, hy], z2, by rw [c3, nth_set _ _ _ _ (by simpa using ht), if_pos rfl], ?_⟩
  unfold lendL
  rw [hx, hy]
  exact h3

set_option maxRecDepth 100000 in
set_option maxHeartbeats 2000000 in
theorem lotLend_yes (l : List Int) (n : Nat) (a : Option Addr) (cap : Nat) (f t k : Int) (f' t' : Nat) (w : World) (h : Sa w a (ints l)) (hn : l.length = n) (hp : TkOk l) (hc : LendOk l f t k f' t') :
    Calls Try.prog 57 #[.slice a n cap, .int .i64 f, .int .i64 t, .int .i64 k] w (OneSlL (lendL l f' t' k) n 0 w) := by
  obtain ⟨rfl, rfl, hf, ht, hk, hkf, h100⟩ := hc
  have hl := hp.1
  obtain ⟨p1, p2⟩ := hp.2 f' hf
  rw [hn] at hl hf ht
  have q : ∀ j, j < l.length → 0 ≤ nth (l.set f' (nth l f' - k)) j := fun j hj => by
    rw [nth_set _ _ _ _ (by omega)]
    have := hp.2 j hj
    split <;> omega
  have qt := q t' (by omega)
  obtain ⟨b, off, rfl, hb, hcell⟩ := h.int f' (by omega)
  have HN := Lib.hid hn; have HS := Lib.hid h; have HP := Lib.hid hp
  have HSA := Lib.hid (h.alloc (.cells #[] 3))
  have HF := Lib.hid ((Fr.start w).lit [] #[] rfl 0 rfl (by omega) 3)
  have HNI := Lib.hid (show (ints l).length = n from by rw [ints_len, hn])
  obtain ⟨x, hx⟩ : ∃ x, nth l f' = x := ⟨_, rfl⟩
  rw [hx] at p1 p2 hkf h100 qt hcell
  have HX := Lib.hid hx
  obtain ⟨y, hy⟩ : ∃ y, nth (l.set f' (x - k)) t' = y := ⟨_, rfl⟩
  rw [hy] at h100 qt
  have HY := Lib.hid hy
  have e1 : (f' : Int) < (n : Int) := by omega
  have e2 : (t' : Int) < (n : Int) := by omega
  have g1 : decide ((f' : Int) < 0) = false := decide_eq_false (by omega)
  have g2 : decide (n ≤ f') = false := decide_eq_false (by omega)
  have g3 : decide ((t' : Int) < 0) = false := decide_eq_false (by omega)
  have g4 : decide (n ≤ t') = false := decide_eq_false (by omega)
  have g5 : decide (k < 0) = false := decide_eq_false (by omega)
  have g7 : decide ((100 : Int) < y + k) = false := decide_eq_false (by omega)
  have g6 : decide (x < k) = false := decide_eq_false (by omega)
  clear hn h hp hx hy q hb
  go_enter Try.func57, Try.ntmps57
  go_wp2_with fail
  refine (lotChk l n _ _ _ HS.out HN.out HP.out).mono ?_; rintro e w' ⟨rfl, rfl⟩
  go_wp2_with (with_reducible refine at_slot 47 ?_; go_must (refine wpList_copyOf rfl (.tmp 45) (.tmp 46) rfl _ _ n cap l [] rfl HF.out rfl HSA.out HNI.out (fun e => by cases e) (by omega) ?_; intro ad2 cp2 w2 hf2 _; obtain ⟨g, rfl, -⟩ := hf2.openI f' (by rw [HN.out]; exact hf); obtain ⟨c1, z1, c2, z2, c3, hf3⟩ := lend_cells hf2 f' t' k x y (by rw [HN.out]; exact hf) (by rw [HN.out]; exact ht) HX.out HY.out; have HF3 := Lib.hid hf3; clear hf2 hf3))
  go_ret2
  exact ⟨_, _, rfl, HF3.out.cap, HF3.out⟩

set_option maxRecDepth 100000 in
set_option maxHeartbeats 4000000 in
theorem lotLend_no (l : List Int) (n : Nat) (a : Option Addr) (cap : Nat) (f t k : Int) (w : World) (h : Sa w a (ints l)) (hn : l.length = n) (hp : TkOk l) (hc : ¬ ∃ f' t', LendOk l f t k f' t') :
    Calls Try.prog 57 #[.slice a n cap, .int .i64 f, .int .i64 t, .int .i64 k] w (LendBad w) := by
  have hl := hp.1
  rw [hn] at hl
  have HN := Lib.hid hn; have HS := Lib.hid h; have HP := Lib.hid hp
  have HCK := fun W b => lotChk l n a cap W b hn hp
  have HCH := Lib.hid (lotChk l n a cap w h hn hp)
  by_cases b1 : f < 0 ∨ (n : Int) ≤ f ∨ t < 0 ∨ (n : Int) ≤ t ∨ k < 0
  · clear hc hn h hp HCK
    rcases Int.lt_or_le f 0 with c1 | c1
    case' inl => have g1 : decide (f < 0) = true := decide_eq_true c1
    case' inr =>
      have g1 : decide (f < 0) = false := decide_eq_false (by omega)
      rcases Int.lt_or_le f n with c2 | c2
      case' inr => have g2 : decide ((n : Int) ≤ f) = true := decide_eq_true c2
      case' inl =>
        have g2 : decide ((n : Int) ≤ f) = false := decide_eq_false (by omega)
        rcases Int.lt_or_le t 0 with c3 | c3
        case' inl => have g3 : decide (t < 0) = true := decide_eq_true c3
        case' inr =>
          have g3 : decide (t < 0) = false := decide_eq_false (by omega)
          rcases Int.lt_or_le t n with c4 | c4
          case' inr => have g4 : decide ((n : Int) ≤ t) = true := decide_eq_true c4
          case' inl =>
            have g4 : decide ((n : Int) ≤ t) = false := decide_eq_false (by omega)
            have g5 : decide (k < 0) = true := decide_eq_true (by omega)
    all_goals
      clear b1
      go_enter Try.func57, Try.ntmps57
      go_wp2_with fail
      refine HCH.out.mono ?_; rintro e w' ⟨rfl, rfl⟩
      go_wp2_with fail
      go_ret2
      exact ⟨1, .inl rfl, rfl, Fr.start w⟩
  · obtain ⟨f', rfl⟩ : ∃ f' : Nat, f = f' := ⟨f.toNat, by omega⟩
    obtain ⟨t', rfl⟩ : ∃ t' : Nat, t = t' := ⟨t.toNat, by omega⟩
    have hf : f' < n := by omega
    have ht : t' < n := by omega
    have g1 : decide ((f' : Int) < 0) = false := decide_eq_false (by omega)
    have g2 : decide (n ≤ f') = false := decide_eq_false (by omega)
    have g3 : decide ((t' : Int) < 0) = false := decide_eq_false (by omega)
    have g4 : decide (n ≤ t') = false := decide_eq_false (by omega)
    have g5 : decide (k < 0) = false := decide_eq_false (by omega)
    obtain ⟨p1, p2⟩ := hp.2 f' (by omega)
    obtain ⟨b, off, rfl, hb, hcell⟩ := h.int f' (by omega)
    have e1 : (f' : Int) < (n : Int) := by omega
    have e2 : (t' : Int) < (n : Int) := by omega
    by_cases hk : k ≤ nth l f'
    · have hbad : 100 < nth (l.set f' (nth l f' - k)) t' + k := by
        rcases Int.lt_or_le 100 (nth (l.set f' (nth l f' - k)) t' + k) with h1 | h1
        · exact h1
        · exact absurd ⟨f', t', rfl, rfl, by omega, by omega, by omega, hk, h1⟩ hc
      have q : ∀ j, j < l.length → 0 ≤ nth (l.set f' (nth l f' - k)) j ∧ nth (l.set f' (nth l f' - k)) j ≤ 100 := fun j hj => by
        rw [nth_set _ _ _ _ (by omega)]
        have := hp.2 j hj
        split <;> omega
      have qt := q t' (by omega)
      have HSA := Lib.hid (h.alloc (.cells #[] 3))
      have HF := Lib.hid ((Fr.start w).lit [] #[] rfl 0 rfl (by omega) 3)
      have HNI := Lib.hid (show (ints l).length = n from by rw [ints_len, hn])
      obtain ⟨x, hx⟩ : ∃ x, nth l f' = x := ⟨_, rfl⟩
      rw [hx] at p1 p2 hk hbad qt hcell
      have HX := Lib.hid hx
      obtain ⟨y, hy⟩ : ∃ y, nth (l.set f' (x - k)) t' = y := ⟨_, rfl⟩
      rw [hy] at hbad qt
      have HY := Lib.hid hy
      obtain ⟨qt1, qt2⟩ := qt
      have g6 : decide (x < k) = false := decide_eq_false (by omega)
      have g7 : decide ((100 : Int) < y + k) = true := decide_eq_true hbad
      clear hn h hp hx hy q hb hc HCK b1
      go_enter Try.func57, Try.ntmps57
      go_wp2_with fail
      refine HCH.out.mono ?_; rintro e w' ⟨rfl, rfl⟩
      go_wp2_with (with_reducible refine at_slot 47 ?_; go_must (refine wpList_copyOf rfl (.tmp 45) (.tmp 46) rfl _ _ n cap l [] rfl HF.out rfl HSA.out HNI.out (fun e => by cases e) (by omega) ?_; intro ad2 cp2 w2 hf2 _; obtain ⟨g, rfl, -⟩ := hf2.openI f' (by rw [HN.out]; exact hf); obtain ⟨c1, z1, c2, z2, c3, hf3⟩ := lend_cells hf2 f' t' k x y (by rw [HN.out]; exact hf) (by rw [HN.out]; exact ht) HX.out HY.out; have HF3 := Lib.hid hf3; clear hf2 hf3))
      go_ret2
      exact ⟨9, .inr (.inr rfl), rfl, HF3.out.below⟩
    · obtain ⟨x, hx⟩ : ∃ x, nth l f' = x := ⟨_, rfl⟩
      rw [hx] at p1 p2 hk hcell
      have g6 : decide (x < k) = true := decide_eq_true (by omega)
      clear hn h hp hx hb hc HCK b1
      go_enter Try.func57, Try.ntmps57
      go_wp2_with fail
      refine HCH.out.mono ?_; rintro e w' ⟨rfl, rfl⟩
      go_wp2_with fail
      go_ret2
      exact ⟨4, .inr (.inl rfl), rfl, Fr.start w⟩

/-! the plain law -/
theorem isum_set : ∀ (l : List Int) (i : Nat) (v : Int), i < l.length → isum (l.set i v) = isum l - nth l i + v
  | [], _, _, h => by simp at h
  | x :: r, 0, v, _ => by simp [isum, nth]; omega
  | x :: r, i + 1, v, h => by
    rw [List.set_cons_succ, isum, isum, isum_set r i v (by simpa using h)]
    have : nth (x :: r) (i + 1) = nth r i := by simp [nth]
    rw [this]; omega
theorem lend_back (l : List Int) (f t k : Int) (f' t' : Nat) (hp : TkOk l) (h20 : ∀ j, j < l.length → nth l j ≤ 20) (hc : LendOk l f t k f' t') :
    TkOk (lendL l f' t' k) ∧ isum (lendL l f' t' k) = isum l ∧ LendOk (lendL l f' t' k) t f k t' f' ∧ lendL (lendL l f' t' k) t' f' k = l := by
  obtain ⟨e1, e2, hf, ht, h0, hk, h100⟩ := hc
  have n1 : ∀ j, nth (l.set f' (nth l f' - k)) j = if j = f' then nth l f' - k else nth l j := fun j => nth_set _ _ _ _ hf
  have n2 : ∀ j, nth (lendL l f' t' k) j = if j = t' then nth (l.set f' (nth l f' - k)) t' + k else nth (l.set f' (nth l f' - k)) j := fun j => nth_set _ _ _ _ (by simpa using ht)
  have n3 : ∀ j, nth ((lendL l f' t' k).set t' (nth (lendL l f' t' k) t' - k)) j = if j = t' then nth (lendL l f' t' k) t' - k else nth (lendL l f' t' k) j := fun j => nth_set _ _ _ _ (by rw [lendL_len]; exact ht)
  have n4 : ∀ j, nth (lendL (lendL l f' t' k) t' f' k) j = if j = f' then nth ((lendL l f' t' k).set t' (nth (lendL l f' t' k) t' - k)) f' + k else nth ((lendL l f' t' k).set t' (nth (lendL l f' t' k) t' - k)) j := fun j => nth_set _ _ _ _ (by rw [List.length_set, lendL_len]; exact hf)
  refine ⟨⟨by rw [lendL_len]; exact hp.1, fun j hj => ?_⟩, ?_, ⟨e2, e1, by rw [lendL_len]; exact ht, by rw [lendL_len]; exact hf, h0, ?_, ?_⟩, ?_⟩
  · rw [lendL_len] at hj
    rw [n2]
    have := hp.2 j hj
    have := hp.2 t' ht
    have := hp.2 f' hf
    have h1 := n1 t'
    split
    · split at h1 <;> omega
    · rw [n1]; split <;> omega
  · unfold lendL
    rw [isum_set _ _ _ (by simpa using ht), isum_set _ _ _ hf]; omega
  · rw [n2, if_pos rfl]
    have h1 := n1 t'
    have := hp.2 t' ht
    have := hp.2 f' hf
    split at h1 <;> omega
  · rw [n3, n2 t', if_pos rfl]
    by_cases e : f' = t'
    · subst e
      rw [if_pos rfl, n1, if_pos rfl]; have := h20 f' hf; omega
    · rw [if_neg e, n2, if_neg e, n1, if_pos rfl]; have := h20 f' hf; omega
  · refine ext_nth (by rw [lendL_len, lendL_len]) (fun j hj => ?_)
    rw [lendL_len, lendL_len] at hj
    rw [n4, n3, n3, n2, n2, n2]
    by_cases e : f' = t'
    · subst e
      by_cases ej : j = f'
      · subst ej; simp only [if_true, n1]; omega
      · simp only [if_neg ej, n1]
    · by_cases ej : j = f'
      · subst ej; simp only [if_true, if_neg e, n1]; omega
      · by_cases ej2 : j = t'
        · subst ej2; simp only [if_true, if_neg ej, n1]; omega
        · simp only [if_neg ej, if_neg ej2, n1]
end Go.Proofs.Ytjplnkkcmkpkbaa
/- Plain laws of turns by shares. -/
namespace Go.Proofs.Ytjplnkkcmkpkbaa
open Go.RowKit

def bestL (l had : List Int) : Nat → Int
  | 0 => -1
  | k + 1 => if 0 < nth l k ∧ (bestL l had k < 0 ∨ nth had k * nth l (bestL l had k).toNat < nth had (bestL l had k).toNat * nth l k) then k else bestL l had k
theorem bestL_lt (l had : List Int) : ∀ k, -1 ≤ bestL l had k ∧ bestL l had k < k
  | 0 => ⟨by simp [bestL], by simp [bestL]⟩
  | k + 1 => by
    have := bestL_lt l had k
    rw [bestL]; split <;> omega
theorem cross_lt {a b c p q r : Int} (hp : 0 < p) (hq : 0 < q) (hr : 0 < r) (h1 : c * q < b * r) (h2 : b * p ≤ a * q) : c * p ≤ a * r := by
  have e1 : c * q * p ≤ b * r * p := Int.mul_le_mul_of_nonneg_right (Int.le_of_lt h1) (Int.le_of_lt hp)
  have e2 : b * p * r ≤ a * q * r := Int.mul_le_mul_of_nonneg_right h2 (Int.le_of_lt hr)
  have e3 : q * (c * p) ≤ q * (a * r) := by
    rw [show q * (c * p) = c * q * p from by rw [← Int.mul_assoc, Int.mul_comm q c], show q * (a * r) = a * q * r from by rw [← Int.mul_assoc, Int.mul_comm q a]]
    rw [show b * p * r = b * r * p from by rw [Int.mul_assoc, Int.mul_comm p r, ← Int.mul_assoc]] at e2
    exact Int.le_trans e1 e2
  exact Int.le_of_mul_le_mul_left e3 hq
theorem bestL_none (l had : List Int) : ∀ k, bestL l had k = -1 → ∀ j, j < k → nth l j ≤ 0
  | 0, _, j, hj => by omega
  | k + 1, h, j, hj => by
    have hb := bestL_lt l had k
    rw [bestL] at h
    split at h
    · omega
    · next hc =>
      by_cases ej : j = k
      · subst ej
        rcases Int.lt_or_le 0 (nth l j) with h3 | h3
        · exact absurd ⟨h3, .inl (by omega)⟩ hc
        · exact h3
      · exact bestL_none l had k h j (by omega)
theorem bestL_best (l had : List Int) : ∀ k, 0 ≤ bestL l had k → 0 < nth l (bestL l had k).toNat ∧ ∀ j, j < k → 0 < nth l j → nth had (bestL l had k).toNat * nth l j ≤ nth had j * nth l (bestL l had k).toNat
  | 0, h => by simp [bestL] at h
  | k + 1, h => by
    have hb := bestL_lt l had k
    by_cases hc : 0 < nth l k ∧ (bestL l had k < 0 ∨ nth had k * nth l (bestL l had k).toNat < nth had (bestL l had k).toNat * nth l k)
    · have e : bestL l had (k + 1) = k := by rw [bestL, if_pos hc]
      rw [e]
      simp only [Int.toNat_natCast]
      refine ⟨hc.1, fun j hj hp => ?_⟩
      by_cases ej : j = k
      · subst ej; exact Int.le_refl _
      · rcases hc.2 with h2 | h2
        · exact absurd hp (by have := bestL_none l had k (by omega) j (by omega); omega)
        · by_cases h0 : 0 ≤ bestL l had k
          · have := bestL_best l had k h0
            exact cross_lt hp this.1 hc.1 h2 (this.2 j (by omega) hp)
          · exact absurd hp (by have := bestL_none l had k (by omega) j (by omega); omega)
    · have e : bestL l had (k + 1) = bestL l had k := by rw [bestL, if_neg hc]
      rw [e] at h ⊢
      have := bestL_best l had k h
      refine ⟨this.1, fun j hj hp => ?_⟩
      by_cases ej : j = k
      · subst ej
        rcases Int.lt_or_le (nth had j * nth l (bestL l had j).toNat) (nth had (bestL l had j).toNat * nth l j) with h3 | h3
        · exact absurd ⟨hp, .inr h3⟩ hc
        · exact h3
      · exact this.2 j (by omega) hp
theorem bestL_no (l had : List Int) : ∀ k, (∀ j, j < k → nth l j ≤ 0) → bestL l had k = -1
  | 0, _ => rfl
  | k + 1, h => by
    rw [bestL, if_neg (fun hc => by have := h k (by omega); omega)]
    exact bestL_no l had k (fun j hj => h j (by omega))
theorem bestL_some (l had : List Int) (k j : Nat) (hj : j < k) (h : 0 < nth l j) : 0 ≤ bestL l had k := by
  have := bestL_lt l had k
  rcases Int.lt_or_le (bestL l had k) 0 with h1 | h1
  · have := bestL_none l had k (by omega) j hj; omega
  · exact h1
/-- tickets times c: the same -/
theorem bestL_mul (l m had : List Int) (c : Int) (hc : 0 < c) : ∀ k, (∀ j, j < k → nth m j = nth l j * c) → bestL m had k = bestL l had k
  | 0, _ => rfl
  | k + 1, h => by
    have ih := bestL_mul l m had c hc k (fun j hj => h j (by omega))
    have hb := bestL_lt l had k
    rw [bestL, bestL, ih, h k (by omega)]
    have e1 : (0 < nth l k * c) = (0 < nth l k) := by
      apply propext
      constructor
      · intro h1
        rcases Int.lt_or_le 0 (nth l k) with h2 | h2
        · exact h2
        · have := Int.mul_le_mul_of_nonneg_right h2 (Int.le_of_lt hc); omega
      · intro h1; exact Int.mul_pos h1 hc
    simp only [e1]
    by_cases h0 : bestL l had k < 0
    · simp [h0]
    · have e2 : nth m (bestL l had k).toNat = nth l (bestL l had k).toNat * c := h _ (by omega)
      rw [e2, ← Int.mul_assoc, ← Int.mul_assoc]
      have e3 : (nth had k * nth l (bestL l had k).toNat * c < nth had (bestL l had k).toNat * nth l k * c) = (nth had k * nth l (bestL l had k).toNat < nth had (bestL l had k).toNat * nth l k) := by
        apply propext
        constructor
        · intro h1; exact Int.lt_of_mul_lt_mul_right h1 (Int.le_of_lt hc)
        · intro h1; exact Int.mul_lt_mul_of_pos_right h1 hc
      simp only [e3]
/-- had as many more as there are tickets: the same -/
theorem bestL_add (l had had' : List Int) : ∀ k, (∀ j, j < k → nth had' j = nth l j + nth had j) → bestL l had' k = bestL l had k
  | 0, _ => rfl
  | k + 1, h => by
    have ih := bestL_add l had had' k (fun j hj => h j (by omega))
    have hb := bestL_lt l had k
    rw [bestL, bestL, ih, h k (by omega)]
    by_cases h0 : bestL l had k < 0
    · simp [h0]
    · have e2 : nth had' (bestL l had k).toNat = nth l (bestL l had k).toNat + nth had (bestL l had k).toNat := h _ (by omega)
      rw [e2, Int.add_mul, Int.add_mul, Int.mul_comm (nth l (bestL l had k).toNat) (nth l k)]
      have e3 : (nth l k * nth l (bestL l had k).toNat + nth had k * nth l (bestL l had k).toNat < nth l k * nth l (bestL l had k).toNat + nth had (bestL l had k).toNat * nth l k) = (nth had k * nth l (bestL l had k).toNat < nth had (bestL l had k).toNat * nth l k) := by
        apply propext; omega
      simp only [e3]

def bst (l had : List Int) : Nat := (bestL l had l.length).toNat
def bump (had : List Int) (k : Nat) : List Int := had.set k (nth had k + 1)
def hadAt (l : List Int) : Nat → List Int
  | 0 => List.replicate l.length 0
  | t + 1 => bump (hadAt l t) (bst l (hadAt l t))
def runS (l : List Int) (n : Nat) : List Int := (List.range n).map fun t => ((bst l (hadAt l t) : Nat) : Int)
theorem runS_len (l : List Int) (n : Nat) : (runS l n).length = n := by simp [runS]
theorem runS_nth (l : List Int) (n t : Nat) (h : t < n) : nth (runS l n) t = bst l (hadAt l t) := by simp [nth, runS, h]
theorem runS_succ (l : List Int) (n : Nat) : runS l (n + 1) = runS l n ++ [((bst l (hadAt l n) : Nat) : Int)] := by simp [runS, List.range_succ]
theorem bump_len (had : List Int) (k : Nat) : (bump had k).length = had.length := by simp [bump]
theorem bump_nth (had : List Int) (k j : Nat) (h : k < had.length) : nth (bump had k) j = if j = k then nth had k + 1 else nth had j := nth_set _ _ _ _ h
theorem hadAt_len (l : List Int) : ∀ t, (hadAt l t).length = l.length
  | 0 => by simp [hadAt]
  | t + 1 => by rw [hadAt, bump_len]; exact hadAt_len l t
/-- somebody has tickets -/
def Some1 (l : List Int) : Prop := ∃ j, j < l.length ∧ 0 < nth l j
theorem bst_of {l had : List Int} (h : Some1 l) : bestL l had l.length = (bst l had : Nat) ∧ bst l had < l.length ∧ 0 < nth l (bst l had) ∧ ∀ j, j < l.length → 0 < nth l j → nth had (bst l had) * nth l j ≤ nth had j * nth l (bst l had) := by
  obtain ⟨j, hj, h⟩ := h
  have h0 := bestL_some l had l.length j hj h
  have hb := bestL_lt l had l.length
  have := bestL_best l had l.length h0
  unfold bst
  exact ⟨by omega, by omega, this.1, this.2⟩
structure Fair (l h : List Int) (t : Nat) : Prop where
  len : h.length = l.length
  pos : ∀ i, i < l.length → 0 ≤ nth h i ∧ nth h i ≤ t
  zero : ∀ i, i < l.length → nth l i ≤ 0 → nth h i = 0
  fair : ∀ i j, i < l.length → j < l.length → 0 < nth l i → 0 < nth l j → (nth h i - 1) * nth l j ≤ nth h j * nth l i
  sum : isum h = t
theorem isum_rep0 : ∀ n, isum (List.replicate n 0) = 0
  | 0 => rfl
  | n + 1 => by rw [List.replicate_succ, isum, isum_rep0 n]; rfl
theorem fair_at {l : List Int} (hs : Some1 l) : ∀ t, Fair l (hadAt l t) t
  | 0 => by
    refine ⟨hadAt_len l 0, fun i hi => ?_, fun i hi _ => ?_, fun i j hi hj h1 h2 => ?_, ?_⟩
    · rw [hadAt, nth_rep _ _ _ hi]; omega
    · rw [hadAt, nth_rep _ _ _ hi]
    · rw [hadAt, nth_rep _ _ _ hi, nth_rep _ _ _ hj]; omega
    · rw [hadAt, isum_rep0]; rfl
  | t + 1 => by
    have F := fair_at hs t
    obtain ⟨b0, b1, b2, b3⟩ := bst_of (had := hadAt l t) hs
    have hl := F.len
    generalize hk : bst l (hadAt l t) = k at *
    generalize hh : hadAt l t = h at *
    have e : hadAt l (t + 1) = bump h k := by rw [hadAt, hh, hk]
    rw [e]
    have bn := fun j => bump_nth h k j (by omega)
    refine ⟨by rw [bump_len, hl], fun i hi => ?_, fun i hi h0 => ?_, fun i j hi hj h1 h2 => ?_, ?_⟩
    · rw [bn]; have := F.pos i hi; have := F.pos k b1; split <;> omega
    · rw [bn, if_neg (fun e => by subst e; omega)]; exact F.zero i hi h0
    · rw [bn, bn]
      have f1 := F.fair i j hi hj h1 h2
      by_cases e1 : i = k
      · subst e1
        rw [if_pos rfl, show nth h i + 1 - 1 = nth h i from by omega]
        by_cases e2 : j = i
        · subst e2; rw [if_pos rfl, Int.add_mul]; omega
        · rw [if_neg e2]; exact b3 j hj h2
      · rw [if_neg e1]
        by_cases e2 : j = k
        · subst e2; rw [if_pos rfl, Int.add_mul]; omega
        · rw [if_neg e2]; exact f1
    · unfold bump
      rw [isum_set _ _ _ (by omega), F.sum]; omega
/-- no more than one turn behind -/
theorem Fair.more {l h : List Int} {t : Nat} (F : Fair l h t) (i k : Nat) (hi : i < l.length) (hk : k < l.length) (h0 : 0 < nth l k) (hle : nth l k ≤ nth l i) : nth h k ≤ nth h i + 1 := by
  have f := F.fair k i hk hi h0 (by omega)
  have p := (F.pos i hi).1
  have e : nth h i * nth l k ≤ nth h i * nth l i := Int.mul_le_mul_of_nonneg_left hle p
  have : (nth h k - 1) * nth l i ≤ nth h i * nth l i := by omega
  have := Int.le_of_mul_le_mul_right this (by omega)
  omega
theorem isum_lt : ∀ (a b : List Int), a.length = b.length → (∀ i, i < a.length → nth a i ≤ nth b i) → isum a ≤ isum b ∧ ((∃ i, i < a.length ∧ nth a i < nth b i) → isum a < isum b)
  | [], [], _, _ => ⟨Int.le_refl _, fun ⟨i, h, _⟩ => by simp at h⟩
  | [], _ :: _, h, _ => by simp at h
  | _ :: _, [], h, _ => by simp at h
  | x :: r, y :: s, hl, h => by
    have h0 := h 0 (by simp)
    have ih := isum_lt r s (by simpa using hl) (fun i hi => by have := h (i + 1) (by simpa using hi); simpa [nth] using this)
    simp only [nth, List.getD_cons_zero] at h0
    rw [isum, isum]
    refine ⟨by omega, fun ⟨i, hi, hlt⟩ => ?_⟩
    cases i with
    | zero => simp only [nth, List.getD_cons_zero] at hlt; omega
    | succ i =>
      have := ih.2 ⟨i, by simpa using hi, by simpa [nth] using hlt⟩
      omega
theorem hadAt_round {l : List Int} (hp : ∀ j, j < l.length → 0 ≤ nth l j) (hs : Some1 l) : hadAt l (isum l).toNat = l := by
  have F := fair_at hs (isum l).toNat
  have hsum := F.sum
  have h0 : 0 ≤ isum l := by
    have := isum_lt (List.replicate l.length 0) l (by simp) (fun i hi => by rw [nth_rep _ _ _ (by simpa using hi)]; exact hp i (by simpa using hi))
    rw [isum_rep0] at this; exact this.1
  generalize hadAt l (isum l).toNat = h at *
  have key : ∀ i j, i < l.length → j < l.length → nth l i < nth h i → nth h j < nth l j → False := by
    intro i j hi hj h1 h2
    have p1 := (F.pos j hj).1
    have q1 := hp i hi
    have pi : 0 < nth l i := by
      rcases Int.lt_or_le 0 (nth l i) with h | h
      · exact h
      · have := F.zero i hi h; omega
    have f := F.fair i j hi hj pi (by omega)
    have e1 : nth l i * nth l j ≤ (nth h i - 1) * nth l j := Int.mul_le_mul_of_nonneg_right (by omega) (by omega)
    have e2 : nth h j * nth l i < nth l j * nth l i := Int.mul_lt_mul_of_pos_right h2 pi
    rw [Int.mul_comm (nth l j)] at e2
    omega
  refine ext_nth F.len (fun i hi => ?_)
  rw [F.len] at hi
  by_cases hex : ∃ j, j < l.length ∧ nth h j < nth l j
  · obtain ⟨j, hj, hlt⟩ := hex
    have := (isum_lt h l F.len (fun i hi' => by
      rcases Int.lt_or_le (nth l i) (nth h i) with h1 | h1
      · exact (key i j (by rw [← F.len]; exact hi') hj h1 hlt).elim
      · exact h1)).2 ⟨j, by rw [F.len]; exact hj, hlt⟩
    omega
  · have hge : ∀ j, j < l.length → nth l j ≤ nth h j := fun j hj => by
      rcases Int.lt_or_le (nth h j) (nth l j) with h1 | h1
      · exact absurd ⟨j, hj, h1⟩ hex
      · exact h1
    rcases Int.lt_or_le (nth l i) (nth h i) with h1 | h1
    · have := (isum_lt l h F.len.symm (fun i hi' => hge i hi')).2 ⟨i, hi, h1⟩
      omega
    · have := hge i hi; omega
theorem hadAt_again {l : List Int} (hp : ∀ j, j < l.length → 0 ≤ nth l j) (hs : Some1 l) : ∀ t j, j < l.length → nth (hadAt l ((isum l).toNat + t)) j = nth l j + nth (hadAt l t) j
  | 0, j, hj => by
    rw [Nat.add_zero, hadAt_round hp hs, hadAt, nth_rep _ _ _ hj]; omega
  | t + 1, j, hj => by
    have ih := hadAt_again hp hs t
    have e := bestL_add l (hadAt l t) (hadAt l ((isum l).toNat + t)) l.length (fun j hj => ih j hj)
    have e2 : bst l (hadAt l ((isum l).toNat + t)) = bst l (hadAt l t) := by unfold bst; rw [e]
    obtain ⟨_, b1, _⟩ := bst_of (had := hadAt l t) hs
    rw [show (isum l).toNat + (t + 1) = ((isum l).toNat + t) + 1 from rfl, hadAt, hadAt, e2, bump_nth _ _ _ (by rw [hadAt_len]; exact b1), bump_nth _ _ _ (by rw [hadAt_len]; exact b1)]
    by_cases ej : j = bst l (hadAt l t)
    · subst ej; rw [if_pos rfl, if_pos rfl, ih _ b1]; omega
    · rw [if_neg ej, if_neg ej, ih j hj]
theorem bst_again {l : List Int} (hp : ∀ j, j < l.length → 0 ≤ nth l j) (hs : Some1 l) (t : Nat) : bst l (hadAt l ((isum l).toNat + t)) = bst l (hadAt l t) := by
  unfold bst; rw [bestL_add l (hadAt l t) (hadAt l ((isum l).toNat + t)) l.length (fun j hj => hadAt_again hp hs t j hj)]
end Go.Proofs.Ytjplnkkcmkpkbaa
