/- Several of my texts in one: Lot2. -/
import Derived.Test.YtbolgfiafbhicaaDoorDF06
/- Contract of lottery.Lend. -/
namespace Go.Proofs.YtbolgfiafbhicaaDoor
open Go.RowKit

def lendL (l : List Int) (f t : Nat) (k : Int) : List Int := (l.set f (nth l f - k)).set t (nth (l.set f (nth l f - k)) t + k)
def LendOk (l : List Int) (f t k : Int) (f' t' : Nat) : Prop := f = f' ∧ t = t' ∧ f' < l.length ∧ t' < l.length ∧ 0 ≤ k ∧ k ≤ nth l f' ∧ nth (l.set f' (nth l f' - k)) t' + k ≤ 100
theorem lendL_len (l : List Int) (f t : Nat) (k : Int) : (lendL l f t k).length = l.length := by simp [lendL]
def LendBad (w : World) (e : Ending) (w' : World) : Prop := ∃ err : Int, (err = 1 ∨ err = 4 ∨ err = 9) ∧ e = .returned (.tuple #[.slice none 0 0, .int .i64 err]) ∧ Fr w w' []
def OneSlL (l : List Int) (n : Nat) (err : Int) (w : World) (e : Ending) (w' : World) : Prop :=
  ∃ ad cp, e = .returned (.tuple #[.slice ad n cp, .int .i64 err]) ∧ n ≤ cp ∧ Fr w w' [⟨3, .slice ad n cp, ints l⟩]

theorem lend_cells {w0 w : World} {g n cap : Nat} {l : List Int} {L : List Ent} (hF : Fr w0 w (⟨3, .slice (some ⟨g, 0, none⟩) n cap, ints l⟩ :: L)) (f t : Nat) (k x y : Int)
    (hf : f < l.length) (ht : t < l.length) (hx : nth l f = x) (hy : nth (l.set f (x - k)) t = y) :
    w.cell? ⟨g, f, none⟩ = some (.int .i64 x) ∧ w.frozen? ⟨g, f, none⟩ = false ∧ (w.setCell ⟨g, f, none⟩ (.int .i64 (x - k))).cell? ⟨g, t, none⟩ = some (.int .i64 y) ∧
    (w.setCell ⟨g, f, none⟩ (.int .i64 (x - k))).frozen? ⟨g, t, none⟩ = false ∧
    ((w.setCell ⟨g, f, none⟩ (.int .i64 (x - k))).setCell ⟨g, t, none⟩ (.int .i64 (y + k))).cell? ⟨g, t, none⟩ = some (.int .i64 (y + k)) ∧
    Fr w0 ((w.setCell ⟨g, f, none⟩ (.int .i64 (x - k))).setCell ⟨g, t, none⟩ (.int .i64 (y + k))) (⟨3, .slice (some ⟨g, 0, none⟩) n cap, ints (lendL l f t k)⟩ :: L) := by
  obtain ⟨g1, e1, _, c1, z1⟩ := hF.openI f hf
  cases e1
  have h2 := hF.setInt f (x - k)
  obtain ⟨g2, e2, _, c2, z2⟩ := h2.openI t (by simpa using ht)
  cases e2
  have h3 := h2.setInt t (y + k)
  obtain ⟨g3, e3, _, c3, z3⟩ := h3.openI t (by simpa using ht)
  cases e3
  refine ⟨by rw [c1, hx], z1, by rw [c2, hy], z2, by rw [c3, nth_set _ _ _ _ (by simpa using ht), if_pos rfl], ?_⟩
  unfold lendL
  rw [hx, hy]
  exact h3

set_option maxRecDepth 100000 in
set_option maxHeartbeats 2000000 in
theorem lotLend_yes (l : List Int) (n : Nat) (a : Option Addr) (cap : Nat) (f t k : Int) (f' t' : Nat) (w : World) (h : Sa w a (ints l)) (hn : l.length = n) (hp : TkOk l) (hc : LendOk l f t k f' t') :
    Calls Tryd.prog 87 #[.slice a n cap, .int .i64 f, .int .i64 t, .int .i64 k] w (OneSlL (lendL l f' t' k) n 0 w) := by
  obtain ⟨rfl, rfl, hf, ht, hk, hkf, h100⟩ := hc
  have hl := hp.1
  obtain ⟨p1, p2⟩ := hp.2 f' hf
  rw [hn] at hl hf ht
  have q : ∀ j, j < l.length → 0 ≤ nth (l.set f' (nth l f' - k)) j := fun j hj => by
    rw [nth_set _ _ _ _ (by omega)]
    have := hp.2 j hj
    split <;> omega
  have qt := q t' (by omega)
  obtain ⟨b, off, rfl, hb, hcell⟩ := h.int f' (by omega)
  have HN := Lib.hid hn; have HS := Lib.hid h; have HP := Lib.hid hp
  have HSA := Lib.hid (h.alloc (.cells #[] 3))
  have HF := Lib.hid ((Fr.start w).lit [] #[] rfl 0 rfl (by omega) 3)
  have HNI := Lib.hid (show (ints l).length = n from by rw [ints_len, hn])
  obtain ⟨x, hx⟩ : ∃ x, nth l f' = x := ⟨_, rfl⟩
  rw [hx] at p1 p2 hkf h100 qt hcell
  have HX := Lib.hid hx
  obtain ⟨y, hy⟩ : ∃ y, nth (l.set f' (x - k)) t' = y := ⟨_, rfl⟩
  rw [hy] at h100 qt
  have HY := Lib.hid hy
  have e1 : (f' : Int) < (n : Int) := by omega
  have e2 : (t' : Int) < (n : Int) := by omega
  have g1 : decide ((f' : Int) < 0) = false := decide_eq_false (by omega)
  have g2 : decide (n ≤ f') = false := decide_eq_false (by omega)
  have g3 : decide ((t' : Int) < 0) = false := decide_eq_false (by omega)
  have g4 : decide (n ≤ t') = false := decide_eq_false (by omega)
  have g5 : decide (k < 0) = false := decide_eq_false (by omega)
  have g7 : decide ((100 : Int) < y + k) = false := decide_eq_false (by omega)
  have g6 : decide (x < k) = false := decide_eq_false (by omega)
  clear hn h hp hx hy q hb
  go_enter Tryd.func87, Tryd.ntmps87
  go_wp2_with fail
  refine (lotChk l n _ _ _ HS.out HN.out HP.out).mono ?_; rintro e w' ⟨rfl, rfl⟩
  go_wp2_with (with_reducible refine at_slot 47 ?_; go_must (refine wpList_copyOf rfl (.tmp 45) (.tmp 46) rfl _ _ n cap l [] rfl HF.out rfl HSA.out HNI.out (fun e => by cases e) (by omega) ?_; intro ad2 cp2 w2 hf2 _; obtain ⟨g, rfl, -⟩ := hf2.openI f' (by rw [HN.out]; exact hf); obtain ⟨c1, z1, c2, z2, c3, hf3⟩ := lend_cells hf2 f' t' k x y (by rw [HN.out]; exact hf) (by rw [HN.out]; exact ht) HX.out HY.out; have HF3 := Lib.hid hf3; clear hf2 hf3))
  go_ret2
  exact ⟨_, _, rfl, HF3.out.cap, HF3.out⟩

set_option maxRecDepth 100000 in
set_option maxHeartbeats 4000000 in
theorem lotLend_no (l : List Int) (n : Nat) (a : Option Addr) (cap : Nat) (f t k : Int) (w : World) (h : Sa w a (ints l)) (hn : l.length = n) (hp : TkOk l) (hc : ¬ ∃ f' t', LendOk l f t k f' t') :
    Calls Tryd.prog 87 #[.slice a n cap, .int .i64 f, .int .i64 t, .int .i64 k] w (LendBad w) := by
  have hl := hp.1
  rw [hn] at hl
  have HN := Lib.hid hn; have HS := Lib.hid h; have HP := Lib.hid hp
  have HCK := fun W b => lotChk l n a cap W b hn hp
  have HCH := Lib.hid (lotChk l n a cap w h hn hp)
  by_cases b1 : f < 0 ∨ (n : Int) ≤ f ∨ t < 0 ∨ (n : Int) ≤ t ∨ k < 0
  · clear hc hn h hp HCK
    rcases Int.lt_or_le f 0 with c1 | c1
    case' inl => have g1 : decide (f < 0) = true := decide_eq_true c1
    case' inr =>
      have g1 : decide (f < 0) = false := decide_eq_false (by omega)
      rcases Int.lt_or_le f n with c2 | c2
      case' inr => have g2 : decide ((n : Int) ≤ f) = true := decide_eq_true c2
      case' inl =>
        have g2 : decide ((n : Int) ≤ f) = false := decide_eq_false (by omega)
        rcases Int.lt_or_le t 0 with c3 | c3
        case' inl => have g3 : decide (t < 0) = true := decide_eq_true c3
        case' inr =>
          have g3 : decide (t < 0) = false := decide_eq_false (by omega)
          rcases Int.lt_or_le t n with c4 | c4
          case' inr => have g4 : decide ((n : Int) ≤ t) = true := decide_eq_true c4
          case' inl =>
            have g4 : decide ((n : Int) ≤ t) = false := decide_eq_false (by omega)
            have g5 : decide (k < 0) = true := decide_eq_true (by omega)
    all_goals
      clear b1
      go_enter Tryd.func87, Tryd.ntmps87
      go_wp2_with fail
      refine HCH.out.mono ?_; rintro e w' ⟨rfl, rfl⟩
      go_wp2_with fail
      go_ret2
      exact ⟨1, .inl rfl, rfl, Fr.start w⟩
  · obtain ⟨f', rfl⟩ : ∃ f' : Nat, f = f' := ⟨f.toNat, by omega⟩
    obtain ⟨t', rfl⟩ : ∃ t' : Nat, t = t' := ⟨t.toNat, by omega⟩
    have hf : f' < n := by omega
    have ht : t' < n := by omega
    have g1 : decide ((f' : Int) < 0) = false := decide_eq_false (by omega)
    have g2 : decide (n ≤ f') = false := decide_eq_false (by omega)
    have g3 : decide ((t' : Int) < 0) = false := decide_eq_false (by omega)
    have g4 : decide (n ≤ t') = false := decide_eq_false (by omega)
    have g5 : decide (k < 0) = false := decide_eq_false (by omega)
    obtain ⟨p1, p2⟩ := hp.2 f' (by omega)
    obtain ⟨b, off, rfl, hb, hcell⟩ := h.int f' (by omega)
    have e1 : (f' : Int) < (n : Int) := by omega
    have e2 : (t' : Int) < (n : Int) := by omega
    by_cases hk : k ≤ nth l f'
    · have hbad : 100 < nth (l.set f' (nth l f' - k)) t' + k := by
        rcases Int.lt_or_le 100 (nth (l.set f' (nth l f' - k)) t' + k) with h1 | h1
        · exact h1
        · exact absurd ⟨f', t', rfl, rfl, by omega, by omega, by omega, hk, h1⟩ hc
      have q : ∀ j, j < l.length → 0 ≤ nth (l.set f' (nth l f' - k)) j ∧ nth (l.set f' (nth l f' - k)) j ≤ 100 := fun j hj => by
        rw [nth_set _ _ _ _ (by omega)]
        have := hp.2 j hj
        split <;> omega
      have qt := q t' (by omega)
      have HSA := Lib.hid (h.alloc (.cells #[] 3))
      have HF := Lib.hid ((Fr.start w).lit [] #[] rfl 0 rfl (by omega) 3)
      have HNI := Lib.hid (show (ints l).length = n from by rw [ints_len, hn])
      obtain ⟨x, hx⟩ : ∃ x, nth l f' = x := ⟨_, rfl⟩
      rw [hx] at p1 p2 hk hbad qt hcell
      have HX := Lib.hid hx
      obtain ⟨y, hy⟩ : ∃ y, nth (l.set f' (x - k)) t' = y := ⟨_, rfl⟩
      rw [hy] at hbad qt
      have HY := Lib.hid hy
      obtain ⟨qt1, qt2⟩ := qt
      have g6 : decide (x < k) = false := decide_eq_false (by omega)
      have g7 : decide ((100 : Int) < y + k) = true := decide_eq_true hbad
      clear hn h hp hx hy q hb hc HCK b1
      go_enter Tryd.func87, Tryd.ntmps87
      go_wp2_with fail
      refine HCH.out.mono ?_; rintro e w' ⟨rfl, rfl⟩
      go_wp2_with (with_reducible refine at_slot 47 ?_; go_must (refine wpList_copyOf rfl (.tmp 45) (.tmp 46) rfl _ _ n cap l [] rfl HF.out rfl HSA.out HNI.out (fun e => by cases e) (by omega) ?_; intro ad2 cp2 w2 hf2 _; obtain ⟨g, rfl, -⟩ := hf2.openI f' (by rw [HN.out]; exact hf); obtain ⟨c1, z1, c2, z2, c3, hf3⟩ := lend_cells hf2 f' t' k x y (by rw [HN.out]; exact hf) (by rw [HN.out]; exact ht) HX.out HY.out; have HF3 := Lib.hid hf3; clear hf2 hf3))
      go_ret2
      exact ⟨9, .inr (.inr rfl), rfl, HF3.out.below⟩
    · obtain ⟨x, hx⟩ : ∃ x, nth l f' = x := ⟨_, rfl⟩
      rw [hx] at p1 p2 hk hcell
      have g6 : decide (x < k) = true := decide_eq_true (by omega)
      clear hn h hp hx hb hc HCK b1
      go_enter Tryd.func87, Tryd.ntmps87
      go_wp2_with fail
      refine HCH.out.mono ?_; rintro e w' ⟨rfl, rfl⟩
      go_wp2_with fail
      go_ret2
      exact ⟨4, .inr (.inl rfl), rfl, Fr.start w⟩

/-! the plain law -/
theorem isum_set : ∀ (l : List Int) (i : Nat) (v : Int), i < l.length → isum (l.set i v) = isum l - nth l i + v
  | [], _, _, h => by simp at h
  | x :: r, 0, v, _ => by simp [isum, nth]; omega
  | x :: r, i + 1, v, h => by
    rw [List.set_cons_succ, isum, isum, isum_set r i v (by simpa using h)]
    have : nth (x :: r) (i + 1) = nth r i := by simp [nth]
    rw [this]; omega
theorem lend_back (l : List Int) (f t k : Int) (f' t' : Nat) (hp : TkOk l) (h20 : ∀ j, j < l.length → nth l j ≤ 20) (hc : LendOk l f t k f' t') :
    TkOk (lendL l f' t' k) ∧ isum (lendL l f' t' k) = isum l ∧ LendOk (lendL l f' t' k) t f k t' f' ∧ lendL (lendL l f' t' k) t' f' k = l := by
  obtain ⟨e1, e2, hf, ht, h0, hk, h100⟩ := hc
  have n1 : ∀ j, nth (l.set f' (nth l f' - k)) j = if j = f' then nth l f' - k else nth l j := fun j => nth_set _ _ _ _ hf
  have n2 : ∀ j, nth (lendL l f' t' k) j = if j = t' then nth (l.set f' (nth l f' - k)) t' + k else nth (l.set f' (nth l f' - k)) j := fun j => nth_set _ _ _ _ (by simpa using ht)
  have n3 : ∀ j, nth ((lendL l f' t' k).set t' (nth (lendL l f' t' k) t' - k)) j = if j = t' then nth (lendL l f' t' k) t' - k else nth (lendL l f' t' k) j := fun j => nth_set _ _ _ _ (by rw [lendL_len]; exact ht)
  have n4 : ∀ j, nth (lendL (lendL l f' t' k) t' f' k) j = if j = f' then nth ((lendL l f' t' k).set t' (nth (lendL l f' t' k) t' - k)) f' + k else nth ((lendL l f' t' k).set t' (nth (lendL l f' t' k) t' - k)) j := fun j => nth_set _ _ _ _ (by rw [List.length_set, lendL_len]; exact hf)
  refine ⟨⟨by rw [lendL_len]; exact hp.1, fun j hj => ?_⟩, ?_, ⟨e2, e1, by rw [lendL_len]; exact ht, by rw [lendL_len]; exact hf, h0, ?_, ?_⟩, ?_⟩
  · rw [lendL_len] at hj
    rw [n2]
    have := hp.2 j hj
    have := hp.2 t' ht
    have := hp.2 f' hf
    have h1 := n1 t'
    split
    · split at h1 <;> omega
    · rw [n1]; split <;> omega
  · unfold lendL
    rw [isum_set _ _ _ (by simpa using ht), isum_set _ _ _ hf]; omega
  · rw [n2, if_pos rfl]
    have h1 := n1 t'
    have := hp.2 t' ht
    have := hp.2 f' hf
    split at h1 <;> omega
  · rw [n3, n2 t', if_pos rfl]
    by_cases e : f' = t'
    · subst e
      rw [if_pos rfl, n1, if_pos rfl]; have := h20 f' hf; omega
    · rw [if_neg e, n2, if_neg e, n1, if_pos rfl]; have := h20 f' hf; omega
  · refine ext_nth (by rw [lendL_len, lendL_len]) (fun j hj => ?_)
    rw [lendL_len, lendL_len] at hj
    rw [n4, n3, n3, n2, n2, n2]
    by_cases e : f' = t'
    · subst e
      by_cases ej : j = f'
      · subst ej; simp only [if_true, n1]; omega
      · simp only [if_neg ej, n1]
    · by_cases ej : j = f'
      · subst ej; simp only [if_true, if_neg e, n1]; omega
      · by_cases ej2 : j = t'
        · subst ej2; simp only [if_true, if_neg ej, n1]; omega
        · simp only [if_neg ej, if_neg ej2, n1]
end Go.Proofs.YtbolgfiafbhicaaDoor
