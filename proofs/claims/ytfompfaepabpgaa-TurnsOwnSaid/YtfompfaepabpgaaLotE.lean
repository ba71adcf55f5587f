/- lottery.Lend where it may not be: which error. -/
import Derived.Test.YtfompfaepabpgaaLot2
namespace Go.Proofs.Ytfompfaepabpgaa
open Go.RowKit

def lendErr (l : List Int) (f t k : Int) : Int := if f < 0 ∨ (l.length : Int) ≤ f ∨ t < 0 ∨ (l.length : Int) ≤ t ∨ k < 0 then 1 else if nth l f.toNat < k then 4 else 9
set_option maxRecDepth 100000 in
set_option maxHeartbeats 4000000 in
theorem lotLend_err (l : List Int) (n : Nat) (a : Option Addr) (cap : Nat) (f t k : Int) (w : World) (h : Sa w a (ints l)) (hn : l.length = n) (hp : TkOk l) (hc : ¬ ∃ f' t', LendOk l f t k f' t') :
    Calls Try.prog 80 #[.slice a n cap, .int .i64 f, .int .i64 t, .int .i64 k] w fun e w' => e = .returned (.tuple #[.slice none 0 0, .int .i64 (lendErr l f t k)]) ∧ Fr w w' [] := by
  have hl := hp.1
  rw [hn] at hl
  have HN := Lib.hid hn; have HS := Lib.hid h; have HP := Lib.hid hp
  have HCK := fun W b => lotChk l n a cap W b hn hp
  have HCH := Lib.hid (lotChk l n a cap w h hn hp)
  by_cases b1 : f < 0 ∨ (n : Int) ≤ f ∨ t < 0 ∨ (n : Int) ≤ t ∨ k < 0
  · have HE : Hid (lendErr l f t k = 1) := Lib.hid (by unfold lendErr; rw [if_pos (by rw [hn]; exact b1)])
    clear hc hn h hp HCK
    rcases Int.lt_or_le f 0 with c1 | c1
    case' inl => have g1 : decide (f < 0) = true := decide_eq_true c1
    case' inr =>
      have g1 : decide (f < 0) = false := decide_eq_false (by omega)
      rcases Int.lt_or_le f n with c2 | c2
      case' inr => have g2 : decide ((n : Int) ≤ f) = true := decide_eq_true c2
      case' inl =>
        have g2 : decide ((n : Int) ≤ f) = false := decide_eq_false (by omega)
        rcases Int.lt_or_le t 0 with c3 | c3
        case' inl => have g3 : decide (t < 0) = true := decide_eq_true c3
        case' inr =>
          have g3 : decide (t < 0) = false := decide_eq_false (by omega)
          rcases Int.lt_or_le t n with c4 | c4
          case' inr => have g4 : decide ((n : Int) ≤ t) = true := decide_eq_true c4
          case' inl =>
            have g4 : decide ((n : Int) ≤ t) = false := decide_eq_false (by omega)
            have g5 : decide (k < 0) = true := decide_eq_true (by omega)
    all_goals
      clear b1
      go_enter Try.func80, Try.ntmps80
      go_wp2_with fail
      refine HCH.out.mono ?_; rintro e w' ⟨rfl, rfl⟩
      go_wp2_with fail
      go_ret2
      exact ⟨by rw [HE.out]; rfl, Fr.start w⟩
  · obtain ⟨f', rfl⟩ : ∃ f' : Nat, f = f' := ⟨f.toNat, by omega⟩
    obtain ⟨t', rfl⟩ : ∃ t' : Nat, t = t' := ⟨t.toNat, by omega⟩
    have hf : f' < n := by omega
    have ht : t' < n := by omega
    have g1 : decide ((f' : Int) < 0) = false := decide_eq_false (by omega)
    have g2 : decide (n ≤ f') = false := decide_eq_false (by omega)
    have g3 : decide ((t' : Int) < 0) = false := decide_eq_false (by omega)
    have g4 : decide (n ≤ t') = false := decide_eq_false (by omega)
    have g5 : decide (k < 0) = false := decide_eq_false (by omega)
    obtain ⟨p1, p2⟩ := hp.2 f' (by omega)
    obtain ⟨b, off, rfl, hb, hcell⟩ := h.int f' (by omega)
    have e1 : (f' : Int) < (n : Int) := by omega
    have e2 : (t' : Int) < (n : Int) := by omega
    by_cases hk : k ≤ nth l f'
    · have hbad : 100 < nth (l.set f' (nth l f' - k)) t' + k := by
        rcases Int.lt_or_le 100 (nth (l.set f' (nth l f' - k)) t' + k) with h1 | h1
        · exact h1
        · exact absurd ⟨f', t', rfl, rfl, by omega, by omega, by omega, hk, h1⟩ hc
      have q : ∀ j, j < l.length → 0 ≤ nth (l.set f' (nth l f' - k)) j ∧ nth (l.set f' (nth l f' - k)) j ≤ 100 := fun j hj => by
        rw [nth_set _ _ _ _ (by omega)]
        have := hp.2 j hj
        split <;> omega
      have qt := q t' (by omega)
      have HE : Hid (lendErr l f' t' k = 9) := Lib.hid (by unfold lendErr; rw [if_neg (by rw [hn]; exact b1), Int.toNat_natCast, if_neg (by omega)])
      have HSA := Lib.hid (h.alloc (.cells #[] 3))
      have HF := Lib.hid ((Fr.start w).lit [] #[] rfl 0 rfl (by omega) 3)
      have HNI := Lib.hid (show (ints l).length = n from by rw [ints_len, hn])
      obtain ⟨x, hx⟩ : ∃ x, nth l f' = x := ⟨_, rfl⟩
      rw [hx] at p1 p2 hk hbad qt hcell
      have HX := Lib.hid hx
      obtain ⟨y, hy⟩ : ∃ y, nth (l.set f' (x - k)) t' = y := ⟨_, rfl⟩
      rw [hy] at hbad qt
      have HY := Lib.hid hy
      obtain ⟨qt1, qt2⟩ := qt
      have g6 : decide (x < k) = false := decide_eq_false (by omega)
      have g7 : decide ((100 : Int) < y + k) = true := decide_eq_true hbad
      clear hn h hp hx hy q hb hc HCK b1
      go_enter Try.func80, Try.ntmps80
      go_wp2_with fail
      refine HCH.out.mono ?_; rintro e w' ⟨rfl, rfl⟩
      go_wp2_with (with_reducible refine at_slot 47 ?_; go_must (refine wpList_copyOf rfl (.tmp 45) (.tmp 46) rfl _ _ n cap l [] rfl HF.out rfl HSA.out HNI.out (fun e => by cases e) (by omega) ?_; intro ad2 cp2 w2 hf2 _; obtain ⟨g, rfl, -⟩ := hf2.openI f' (by rw [HN.out]; exact hf); obtain ⟨c1, z1, c2, z2, c3, hf3⟩ := lend_cells hf2 f' t' k x y (by rw [HN.out]; exact hf) (by rw [HN.out]; exact ht) HX.out HY.out; have HF3 := Lib.hid hf3; clear hf2 hf3))
      go_ret2
      exact ⟨by rw [HE.out]; rfl, HF3.out.below⟩
    · have HE : Hid (lendErr l f' t' k = 4) := Lib.hid (by unfold lendErr; rw [if_neg (by rw [hn]; exact b1), Int.toNat_natCast, if_pos (by omega)])
      obtain ⟨x, hx⟩ : ∃ x, nth l f' = x := ⟨_, rfl⟩
      rw [hx] at p1 p2 hk hcell
      have g6 : decide (x < k) = true := decide_eq_true (by omega)
      clear hn h hp hx hb hc HCK b1
      go_enter Try.func80, Try.ntmps80
      go_wp2_with fail
      refine HCH.out.mono ?_; rintro e w' ⟨rfl, rfl⟩
      go_wp2_with fail
      go_ret2
      exact ⟨by rw [HE.out]; rfl, Fr.start w⟩
end Go.Proofs.Ytfompfaepabpgaa
