/- Contracts of package gray: Of, Back, Bit; and the plain laws of the code. -/
import Derived.Test.YtdabgibmbmhmdaaBase
import Derived.Laws.BitsAllLaws
import Derived.Deep.QuietTactic
import Derived.BigQuiet
namespace Go.Proofs.Ytdabgibmbmhmdaa
open Go.RowKit

theorem u16xor (a b : Nat) (ha : a < 65536) (hb : b < 65536) : bits .xor .u16 (a : Int) (b : Int) = ((a ^^^ b : Nat) : Int) := Go.u16_xor_nat a b ha hb

set_option maxHeartbeats 400000 in
theorem grayOf_any (a : Nat) (w : World) (ha : a < 65536) :
    Calls Try.prog 81 #[.int .u16 a] w fun e w' => e = .returned (.int .u16 ((a ^^^ a / 2 : Nat) : Int)) ∧ w = w' := by
  have HX := Lib.hid (u16xor a (a / 2) ha (by omega))
  go_enter Try.func81, Try.ntmps81
  go_wp2
  go_ret
  refine ⟨ret_int ?_, rfl⟩
  rw [← HX.out]; simp

def backTo (a : Nat) : Nat → Nat
  | 0 => a
  | j + 1 => backTo a j ^^^ (backTo a j / 2 ^ 2 ^ j)
theorem backTo_lt (a j : Nat) (ha : a < 65536) : backTo a j < 65536 := by
  induction j with
  | zero => exact ha
  | succ j ih =>
    have : backTo a j / 2 ^ 2 ^ j < 65536 := Nat.lt_of_le_of_lt (Nat.div_le_self _ _) ih
    exact Nat.xor_lt_two_pow (n := 16) ih this

set_option maxHeartbeats 400000 in
theorem grayBack_any (a : Nat) (w : World) (ha : a < 65536) :
    Calls Try.prog 82 #[.int .u16 a] w fun e w' => e = .returned (.int .u16 ((backTo a 4 : Nat) : Int)) ∧ w = w' := by
  go_enter Try.func82, Try.ntmps82
  go_wp2
  go_loop [0, 3] (fun g k => ∃ j : Nat, j ≤ 4 ∧ g = .int .u16 ((backTo a j : Nat) : Int) ∧ k = .int .i64 ((2 ^ j : Nat) : Int)) (fun _ k => 16 - (intOf k).toNat)
  case atStart => exact ⟨0, by omega, rfl, rfl⟩
  case round =>
    obtain ⟨j, hj, rfl, rfl⟩ := hrel
    have hb := backTo_lt a j ha
    have HX := Lib.hid (u16xor (backTo a j) (backTo a j / 2 ^ 2 ^ j) hb (Nat.lt_of_le_of_lt (Nat.div_le_self _ _) hb))
    generalize hg : backTo a j = g at *
    have HG := Lib.hid hg; clear hg
    obtain (rfl | rfl | rfl | rfl | rfl) : j = 0 ∨ j = 1 ∨ j = 2 ∨ j = 3 ∨ j = 4 := by omega
    · go_wp2
      exact ⟨⟨1, by omega, by rw [backTo, HG.out]; have := HX.out; simp at this ⊢; exact this, rfl⟩, by simp [intOf]⟩
    · go_wp2
      exact ⟨⟨2, by omega, by rw [backTo, HG.out]; have := HX.out; simp at this ⊢; exact this, rfl⟩, by simp [intOf]⟩
    · go_wp2
      exact ⟨⟨3, by omega, by rw [backTo, HG.out]; have := HX.out; simp at this ⊢; exact this, rfl⟩, by simp [intOf]⟩
    · go_wp2
      exact ⟨⟨4, by omega, by rw [backTo, HG.out]; have := HX.out; simp at this ⊢; exact this, rfl⟩, by simp [intOf]⟩
    · go_wp2
      go_ret
      exact ⟨ret_int (by rw [HG.out]), rfl⟩

/-! plain laws -/
theorem div_xor (a b n : Nat) : (a ^^^ b) / 2 ^ n = a / 2 ^ n ^^^ b / 2 ^ n := by
  simp only [← Nat.shiftRight_eq_div_pow, Nat.shiftRight_xor_distrib]
theorem xor4 (a b c d : Nat) : (a ^^^ b) ^^^ (c ^^^ d) = (a ^^^ c) ^^^ (b ^^^ d) := by
  rw [Nat.xor_assoc, ← Nat.xor_assoc b, Nat.xor_comm b c, Nat.xor_assoc c, ← Nat.xor_assoc]
theorem back_xor (a b j : Nat) : backTo (a ^^^ b) j = backTo a j ^^^ backTo b j := by
  induction j with
  | zero => rfl
  | succ j ih => simp only [backTo, ih, div_xor, xor4]
theorem double (a n : Nat) : (a ^^^ a / 2 ^ n) ^^^ (a ^^^ a / 2 ^ n) / 2 ^ n = a ^^^ a / 2 ^ (n + n) := by
  rw [div_xor, Nat.div_div_eq_div_mul, ← Nat.pow_add, xor4]
  rw [Nat.xor_comm a, xor4, Nat.xor_self, Nat.zero_xor]
theorem back_of_to (a : Nat) : ∀ j, backTo (a ^^^ a / 2) j = a ^^^ a / 2 ^ 2 ^ j
  | 0 => rfl
  | j + 1 => by rw [backTo, back_of_to a j, double, Nat.pow_succ 2 j, Nat.mul_two]
theorem back_of (a : Nat) (h : a < 65536) : backTo (a ^^^ a / 2) 4 = a := by
  rw [back_of_to, Nat.div_eq_of_lt (by simpa using h), Nat.xor_zero]
theorem of_back_to (a : Nat) : ∀ j, backTo a j ^^^ backTo a j / 2 = backTo (a ^^^ a / 2) j := by
  intro j
  induction j with
  | zero => rfl
  | succ j ih =>
    rw [backTo, backTo, ← ih]
    have := div_xor (backTo a j) (backTo a j / 2 ^ 2 ^ j) 1
    simp only [Nat.pow_one] at this
    rw [this, div_xor _ _ (2 ^ j), xor4, Nat.div_div_eq_div_mul, Nat.div_div_eq_div_mul, Nat.mul_comm]
theorem of_back (a : Nat) (h : a < 65536) : backTo a 4 ^^^ backTo a 4 / 2 = a := by rw [of_back_to, back_of a h]
theorem of_xor (a b : Nat) : (a ^^^ b) ^^^ (a ^^^ b) / 2 = (a ^^^ a / 2) ^^^ (b ^^^ b / 2) := by
  have := div_xor a b 1
  simp only [Nat.pow_one] at this
  rw [this, xor4]
theorem of_lt (a : Nat) (h : a < 65536) : a ^^^ a / 2 < 65536 := Nat.xor_lt_two_pow (n := 16) h (by omega)

set_option maxHeartbeats 400000 in
theorem grays_any (w : World) : Calls Try.prog 37 #[] w fun e w' => e = .returned (.bool true) ∧ w = w' := by
  go_enter Try.func37, Try.ntmps37
  go_wp2_with fail
  refine (grayOf_any 5 _ (by omega)).mono ?_; rintro e w' ⟨rfl, rfl⟩
  go_wp2_with fail
  refine (grayBack_any 7 _ (by omega)).mono ?_; rintro e w' ⟨rfl, rfl⟩
  go_wp2_with fail
  go_ret
  exact ⟨rfl, rfl⟩

/-- GraySums: the walk -/
def FirstZero (a k : Nat) : Prop := k ≤ 15 ∧ a % 2 ^ k = 2 ^ k - 1 ∧ a / 2 ^ k % 2 = 0
def OnesTo (a k : Nat) : Prop := k ≤ 15 ∧ a % 2 ^ k = 2 ^ k - 1
theorem ones_next (a k : Nat) (ha : a < 65536) (hne : a ≠ 65535) (h : OnesTo a k) (h1 : a / 2 ^ k % 2 = 1) : OnesTo a (k + 1) := by
  obtain ⟨h2, h3⟩ := h
  have hm : a % 2 ^ (k + 1) = 2 ^ (k + 1) - 1 := by
    have hp := Nat.two_pow_pos k
    rw [Nat.pow_succ, Nat.mod_mul, h3, h1]; omega
  refine ⟨?_, hm⟩
  by_cases hk : k = 15
  · subst hk; omega
  · omega
theorem firstZero_flip (a k : Nat) (h : FirstZero a k) : (a ^^^ a / 2) ^^^ ((a + 1) ^^^ (a + 1) / 2) = 2 ^ k := by
  obtain ⟨h1, h2, h3⟩ := h
  rw [← of_xor]
  have hp := Nat.two_pow_pos k
  have hd : a / 2 ^ (k + 1) = (a + 1) / 2 ^ (k + 1) ∧ a % 2 ^ (k + 1) = 2 ^ k - 1 ∧ (a + 1) % 2 ^ (k + 1) = 2 ^ k := by
    have e1 : a % 2 ^ (k + 1) = 2 ^ k - 1 := by rw [Nat.pow_succ, Nat.mod_mul, h2, h3]; omega
    have e2 := Nat.div_add_mod a (2 ^ (k + 1))
    rw [e1] at e2
    have e3 : a + 1 = 2 ^ (k + 1) * (a / 2 ^ (k + 1)) + 2 ^ k := by omega
    have hlt : 2 ^ k < 2 ^ (k + 1) := by rw [Nat.pow_succ]; omega
    refine ⟨?_, e1, ?_⟩
    · have : (2 ^ (k + 1) * (a / 2 ^ (k + 1)) + 2 ^ k) / 2 ^ (k + 1) = a / 2 ^ (k + 1) := by rw [Nat.mul_add_div (by omega), Nat.div_eq_of_lt hlt]; simp
      rw [← e3] at this; exact this.symm
    · rw [e3, Nat.mul_add_mod, Nat.mod_eq_of_lt hlt]
  have ht : a ^^^ (a + 1) = 2 ^ (k + 1) - 1 := by
    have e1 : (a ^^^ (a + 1)) / 2 ^ (k + 1) = 0 := by rw [div_xor, hd.1, Nat.xor_self]
    have e2 : (a ^^^ (a + 1)) % 2 ^ (k + 1) = (2 ^ k - 1) ^^^ 2 ^ k := by rw [Nat.xor_mod_two_pow, hd.2.1, hd.2.2]
    have e3 := Nat.div_add_mod (a ^^^ (a + 1)) (2 ^ (k + 1))
    rw [e1, e2] at e3
    rw [← e3]
    clear e1 e2 e3 hd h2 h3 hp
    have : ∀ k, k < 16 → 2 ^ (k + 1) * 0 + ((2 ^ k - 1) ^^^ 2 ^ k) = 2 ^ (k + 1) - 1 := by decide
    exact this k (by omega)
  rw [ht]
  have : ∀ k, k < 16 → (2 ^ (k + 1) - 1) ^^^ (2 ^ (k + 1) - 1) / 2 = 2 ^ k := by decide
  exact this k (by omega)

theorem u16and1 (a : Nat) (ha : a < 65536) : bits .and .u16 (a : Int) 1 = ((a % 2 : Nat) : Int) := by
  have := Go.u16_and_nat a 1 ha (by omega)
  rw [Nat.and_one_is_mod] at this
  exact this

def BitSaid (a : Nat) (w : World) (e : Ending) (w' : World) : Prop := ∃ k : Nat, FirstZero a k ∧ e = .returned (.tuple #[.int .i64 k, .int .i64 0]) ∧ w = w'

set_option maxHeartbeats 400000 in
theorem grayBit_any (a : Nat) (w : World) (ha : a < 65536) (hne : a ≠ 65535) :
    Calls Try.prog 35 #[.int .u16 a] w (BitSaid a w) := by
  have hb : ((a : Int) == 65535) = false := by simp; omega
  go_enter Try.func35, Try.ntmps35
  go_wp2
  go_loop [0, 4] (fun g n => ∃ k : Nat, OnesTo a k ∧ g = .int .u16 ((a / 2 ^ k : Nat) : Int) ∧ n = .int .i64 k) (fun _ n => 16 - (intOf n).toNat)
  case atStart => exact ⟨0, by simp [OnesTo]; omega, by simp, rfl⟩
  case round =>
    obtain ⟨k, hk, rfl, rfl⟩ := hrel
    have hlt : a / 2 ^ k < 65536 := Nat.lt_of_le_of_lt (Nat.div_le_self _ _) ha
    have HA := Lib.hid (u16and1 _ hlt)
    have h15 := hk.1
    generalize hg : a / 2 ^ k = g at *
    have HG := Lib.hid hg; clear hg
    have HK := Lib.hid hk; clear hk
    by_cases hm : g % 2 = 1
    · have ht : (bits .and .u16 (g : Int) 1 == 1) = true := by rw [HA.out, hm]; rfl
      have HM := Lib.hid hm; clear hm
      go_wp2
      go_round
      case rel => exact ⟨k + 1, ones_next a k ha hne HK.out (by rw [HG.out]; exact HM.out), by rw [Nat.pow_succ, ← Nat.div_div_eq_div_mul, HG.out]; simp, by go_num⟩
      case measure => simp [intOf]; omega
    · have ht : (bits .and .u16 (g : Int) 1 == 1) = false := by rw [HA.out]; simp; omega
      have HM := Lib.hid hm; clear hm
      go_wp2
      go_ret2
      exact ⟨k, ⟨HK.out.1, HK.out.2, by rw [HG.out]; have := HM.out; omega⟩, rfl, rfl⟩

theorem grayBit_last (w : World) : Calls Try.prog 35 #[.int .u16 65535] w fun e w' => e = .returned (.tuple #[.int .i64 0, .int .i64 4]) ∧ w = w' := by
  go_enter Try.func35, Try.ntmps35
  go_wp2
  go_ret2
  exact ⟨rfl, rfl⟩

end Go.Proofs.Ytdabgibmbmhmdaa
