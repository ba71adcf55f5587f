/- Several of my texts in one: Lin2. -/
import Derived.Test.YtooghdnlaonkaaaPw30
import Derived.Test.YtooghdnlaonkaaaPw16
import Derived.Test.YtooghdnlaonkaaaPw15
/- Contracts of lines.Check, Up, Down, Split. -/
namespace Go.Proofs.Ytooghdnlaonkaaa
open Go.RowKit

theorem linChk (n : Nat) (a : Option Addr) (cap : Nat) (w : World) : Calls Try.prog 102 #[.slice a n cap] w fun e w' => e = .returned (.int .i64 (if 30 < n then 2 else 0)) ∧ w = w' := by
  by_cases h : 30 < n
  · have d : decide ((30 : Int) < (n : Int)) = true := decide_eq_true (by omega)
    rw [if_pos h]
    clear h
    go_enter Try.func102, Try.ntmps102
    go_wp2_with fail
    go_ret
    exact ⟨rfl, rfl⟩
  · have d : decide ((30 : Int) < (n : Int)) = false := decide_eq_false (by omega)
    rw [if_neg h]
    clear h
    go_enter Try.func102, Try.ntmps102
    go_wp2_with fail
    go_ret
    exact ⟨rfl, rfl⟩
def mUp : Int → Int → Bool := fun a b => decide (a < b)
def mDn : Int → Int → Bool := fun a b => decide (b ≤ a)
theorem up1 (x y : Int) (W : World) : Calls Try.prog 104 #[.int .i64 x, .int .i64 y] W fun e w' => e = .returned (.bool (mUp x y)) ∧ W = w' := by
  unfold mUp
  go_enter Try.func104, Try.ntmps104
  go_wp2_with fail
  go_ret
  exact ⟨rfl, rfl⟩
theorem down1 (x y : Int) (W : World) : Calls Try.prog 105 #[.int .i64 x, .int .i64 y] W fun e w' => e = .returned (.bool (mDn x y)) ∧ W = w' := by
  unfold mDn
  go_enter Try.func105, Try.ntmps105
  go_wp2_with fail
  go_ret
  exact ⟨rfl, rfl⟩
def LinSaid (l : List Int) (w : World) (e : Ending) (w' : World) : Prop :=
  ∃ ad cp, e = .returned (.tuple #[.slice ad l.length cp, .int .i64 0]) ∧ l.length ≤ cp ∧ Fr w w' [⟨3, .slice ad l.length cp, ints l⟩]
set_option maxRecDepth 100000 in
theorem lin_up (l : List Int) (n : Nat) (a : Option Addr) (cap : Nat) (w : World) (h : Sa w a (ints l)) (hn : l.length = n) (h30 : n ≤ 30) (hc : n ≤ cap) :
    Calls Try.prog 56 #[.slice a n cap] w (LinSaid (bestK mUp l n) w) := by
  have HS := Lib.hid h; have HN := Lib.hid hn
  clear h hn
  go_enter Try.func56, Try.ntmps56
  go_wp2_with fail
  refine (linChk n a cap w).mono ?_; rintro e w' ⟨rfl, rfl⟩
  rw [if_neg (show ¬ 30 < n by omega)]
  go_wp2_with fail
  refine (longest_any mUp 104 (enters_of Try.func104 (by kernel_rfl) rfl) up1 l n a cap w HS.out HN.out h30 hc).mono ?_; rintro e w1 ⟨ad, cp, rfl, hcp, hf⟩
  have HF := Lib.hid hf
  clear hf
  go_wp2_with fail
  go_ret2
  exact ⟨ad, cp, rfl, hcp, HF.out⟩
set_option maxRecDepth 100000 in
theorem lin_down (l : List Int) (n : Nat) (a : Option Addr) (cap : Nat) (w : World) (h : Sa w a (ints l)) (hn : l.length = n) (h30 : n ≤ 30) (hc : n ≤ cap) :
    Calls Try.prog 57 #[.slice a n cap] w (LinSaid (bestK mDn l n) w) := by
  have HS := Lib.hid h; have HN := Lib.hid hn
  clear h hn
  go_enter Try.func57, Try.ntmps57
  go_wp2_with fail
  refine (linChk n a cap w).mono ?_; rintro e w' ⟨rfl, rfl⟩
  rw [if_neg (show ¬ 30 < n by omega)]
  go_wp2_with fail
  refine (longest_any mDn 105 (enters_of Try.func105 (by kernel_rfl) rfl) down1 l n a cap w HS.out HN.out h30 hc).mono ?_; rintro e w1 ⟨ad, cp, rfl, hcp, hf⟩
  have HF := Lib.hid hf
  clear hf
  go_wp2_with fail
  go_ret2
  exact ⟨ad, cp, rfl, hcp, HF.out⟩
theorem lin_up_no (n : Nat) (a : Option Addr) (cap : Nat) (w : World) (h : 30 < n) : Calls Try.prog 56 #[.slice a n cap] w fun e w' => e = .returned (.tuple #[.slice .none 0 0, .int .i64 2]) ∧ w = w' := by
  go_enter Try.func56, Try.ntmps56
  go_wp2_with fail
  refine (linChk n a cap w).mono ?_; rintro e w' ⟨rfl, rfl⟩
  rw [if_pos h]
  go_wp2_with fail
  go_ret2
  exact ⟨rfl, rfl⟩
theorem lin_down_no (n : Nat) (a : Option Addr) (cap : Nat) (w : World) (h : 30 < n) : Calls Try.prog 57 #[.slice a n cap] w fun e w' => e = .returned (.tuple #[.slice .none 0 0, .int .i64 2]) ∧ w = w' := by
  go_enter Try.func57, Try.ntmps57
  go_wp2_with fail
  refine (linChk n a cap w).mono ?_; rintro e w' ⟨rfl, rfl⟩
  rw [if_pos h]
  go_wp2_with fail
  go_ret2
  exact ⟨rfl, rfl⟩
theorem lin_split_no (n : Nat) (a : Option Addr) (cap : Nat) (w : World) (h : 30 < n) : Calls Try.prog 58 #[.slice a n cap] w fun e w' => e = .returned (.tuple #[.slice .none 0 0, .int .i64 2]) ∧ w = w' := by
  go_enter Try.func58, Try.ntmps58
  go_wp2_with fail
  refine (linChk n a cap w).mono ?_; rintro e w' ⟨rfl, rfl⟩
  rw [if_pos h]
  go_wp2_with fail
  go_ret2
  exact ⟨rfl, rfl⟩

/-! the first of some ints -/
def IdxF (P : Int → Bool) (l : List Int) (n : Nat) (w : World) (e : Ending) (w' : World) : Prop :=
  ∃ r : Int, e = .returned (.int .i64 r) ∧ ((r = -1 ∧ ∀ i, i < n → P (nth l i) = false) ∨ ∃ k : Nat, k < n ∧ r = k ∧ P (nth l k) = true ∧ ∀ i, i < k → P (nth l i) = false) ∧ w = w'
set_option maxHeartbeats 1000000 in
theorem idxF_any (P : Int → Bool) (g : Nat) (cl : Array Value) (hg : ∀ args w, (callFunc g args).run Try.prog w = .ok (.enter g args) w)
    (l : List Int) (n : Nat) (a : Option Addr) (cap : Nat) (w : World) (hf : ∀ x, Calls Try.prog g (#[.int .i64 x] ++ cl) w fun e w' => e = .returned (.bool (P x)) ∧ w = w') (h : Sa w a (ints l)) (hn : l.length = n) (hl : n ≤ 1000000) :
    Calls Try.prog 106 #[.slice a n cap, .func (.func g) #[] cl] w (IdxF P l n w) := by
  have HS := Lib.hid h; have HN := Lib.hid hn; have HF := Lib.hid hf
  clear h hn hf
  go_enter Try.func106, Try.ntmps106
  go_wp2_with fail
  go_loop [8] (fun i => ∃ k : Nat, k ≤ n ∧ Hid (∀ i, i < k → P (nth l i) = false) ∧ i = .int .i64 k) (fun i => n - (intOf i).toNat)
  case atStart => exact ⟨0, Nat.zero_le _, Lib.hid (by intro i hi; omega), rfl⟩
  case round =>
    obtain ⟨k, hk, hz, rfl⟩ := hrel
    by_cases hlt : k < n
    · obtain ⟨b, off, rfl, hb, hc⟩ := HS.out.int k (by rw [HN.out]; exact hlt)
      obtain ⟨x, hx⟩ : ∃ x, nth l k = x := ⟨_, rfl⟩
      rw [hx] at hc
      have HX := Lib.hid hx
      have HC := Lib.hid (HF.out x)
      have e1 : (0 : Int) ≤ (k : Int) := by omega
      have e2 : (k : Int) < (n : Int) := by omega
      obtain ⟨B, hB⟩ : ∃ B, P x = B := ⟨_, rfl⟩
      have HB := Lib.hid hB
      clear hx hB
      cases B
      · go_wp2_with (go_at_fn g; refine HC.out.mono ?_; rintro e w' ⟨rfl, rfl⟩; rw [HB.out])
        go_round
        case rel =>
          refine ⟨k + 1, by omega, Lib.hid fun i hi => ?_, by go_num⟩
          by_cases h : i = k
          · subst h; rw [HX.out]; exact HB.out
          · exact hz.out i (by omega)
        case measure => simp [intOf]; omega
      · go_wp2_with (go_at_fn g; refine HC.out.mono ?_; rintro e w' ⟨rfl, rfl⟩; rw [HB.out])
        go_ret
        exact ⟨k, rfl, .inr ⟨k, hlt, rfl, by rw [HX.out]; exact HB.out, hz.out⟩, rfl⟩
    · obtain rfl : k = n := by omega
      go_wp2_with fail
      go_ret
      exact ⟨-1, rfl, .inl ⟨rfl, hz.out⟩, rfl⟩
theorem split1 (x y : Int) (b : Nat) (W : World) (hc : W.cell? ⟨b, 0, .none⟩ = some (.int .i64 x)) : Calls Try.prog 107 #[.int .i64 y, .pointer (some ⟨b, 0, .none⟩)] W fun e w' => e = .returned (.bool (decide (x ≤ y))) ∧ W = w' := by
  go_enter Try.func107, Try.ntmps107
  go_wp2_with fail
  go_ret
  exact ⟨rfl, rfl⟩
end Go.Proofs.Ytooghdnlaonkaaa
