/- Plain mathematics: the complement of a set of bits reverses ranks. -/
import Derived.Test.YtdcekplmmfenlaaMathSub
namespace Go.Proofs.Ytdcekplmmfenlaa
theorem bitAt_test (s i : Nat) : bitAt s i = if s.testBit i then 1 else 0 := by
  unfold bitAt
  rw [Nat.testBit_eq_decide_div_mod_eq]
  rcases Nat.mod_two_eq_zero_or_one (s / 2 ^ i) with h | h <;> simp [h]
theorem bitAt_compl (s n i : Nat) (hs : s < 2 ^ n) (hi : i < n) : bitAt (2 ^ n - (s + 1)) i = 1 - bitAt s i := by
  rw [bitAt_test, bitAt_test, Nat.testBit_two_pow_sub_succ hs]
  simp only [hi, decide_true, Bool.true_and]
  cases s.testBit i <;> rfl
theorem compl_all (s o : Nat) : ∀ b, (∀ i, i < b → bitAt o i = 1 - bitAt s i) → onesB s b + onesB o b = b ∧ rkB s b + rkB o b + 1 = chN b (onesB s b)
  | 0, _ => by simp [onesB, rkB, chN]
  | b + 1, h => by
    obtain ⟨h1, h2⟩ := compl_all s o b (fun i hi => h i (by omega))
    have hb := h b (by omega)
    have hle := onesB_le s b
    rw [onesB_succ s, onesB_succ o, rkB_succ s, rkB_succ o, onesB_succ s, onesB_succ o]
    rcases bitAt_01 s b with hs | hs
    · rw [hs] at hb ⊢
      rw [hb]
      refine ⟨by omega, ?_⟩
      simp only [Nat.zero_mul, Nat.add_zero, Nat.sub_zero, Nat.one_mul]
      cases hk : onesB s b with
      | zero =>
        rw [hk] at h1 h2
        rw [chN_zero, chN_gt b _ (by omega)]
        rw [chN_zero] at h2; omega
      | succ k =>
        rw [hk] at h1 h2 hle
        have e := chN_symm b k (by omega)
        rw [show b - k = onesB o b + 1 from by omega] at e
        rw [chN_ss, e]; omega
    · rw [hs] at hb ⊢
      rw [hb]
      refine ⟨by omega, ?_⟩
      simp only [Nat.one_mul, Nat.sub_self, Nat.zero_mul, Nat.add_zero]
      rw [chN_ss]; omega
theorem compl_set (s n : Nat) (hs : s < 2 ^ n) (hn : n ≤ 16) :
    onesB s 16 + onesB (2 ^ n - (s + 1)) 16 = n ∧ rkB s 16 + rkB (2 ^ n - (s + 1)) 16 + 1 = chN n (onesB s 16) := by
  have ho : 2 ^ n - (s + 1) < 2 ^ n := by have := Nat.two_pow_pos n; omega
  rw [ones_within s n hs 16 hn, ones_within _ n ho 16 hn, rk_within s n hs 16 hn, rk_within _ n ho 16 hn]
  exact compl_all s _ n (fun i hi => bitAt_compl s n i hs hi)
end Go.Proofs.Ytdcekplmmfenlaa
