/- The walk of the law NestsBack. -/
import Derived.Test.YtdcekplmmfenlaaNest4
namespace Go.Proofs.Ytdcekplmmfenlaa
open Go.RowKit

theorem at_chk : ∀ r h k, k < pathN r h → chkL (atN r h k) h = 0
  | 0, 0, _, _ => rfl
  | 0, _ + 1, _, h => by simp [pathN] at h
  | r + 1, h, k, hk => by
    rw [atN]
    by_cases h1 : k < pathN r (h + 1)
    · rw [if_pos h1, chkL_open]; exact at_chk r (h + 1) k h1
    · rw [if_neg h1]
      cases h with
      | zero => rw [pathN] at hk; exact absurd hk h1
      | succ g =>
        rw [pathN] at hk
        rw [chkL_close]
        exact at_chk r g _ (by simp only [Nat.add_assoc, Nat.reduceAdd] at *; omega)
theorem at_of : ∀ r h k, k < pathN r h → ofL (atN r h k) h = k
  | 0, 0, k, hk => by rw [pathN] at hk; show 0 = k; omega
  | 0, _ + 1, _, h => by simp [pathN] at h
  | r + 1, h, k, hk => by
    rw [atN]
    by_cases h1 : k < pathN r (h + 1)
    · rw [if_pos h1, ofL, if_neg (by decide)]; exact at_of r (h + 1) k h1
    · rw [if_neg h1, ofL, if_pos rfl, atN_len]
      cases h with
      | zero => rw [pathN] at hk; exact absurd hk h1
      | succ g =>
        rw [pathN] at hk
        rw [Nat.add_sub_cancel, at_of r g _ (by simp only [Nat.add_assoc, Nat.reduceAdd] at *; omega)]
        omega
theorem at_lt : ∀ r h k m, k < m → m < pathN r h → Op.bytesLess (atN r h k) (atN r h m) = true
  | 0, 0, k, m, h1, h2 => by rw [pathN] at h2; omega
  | 0, _ + 1, _, _, _, h => by simp [pathN] at h
  | r + 1, h, k, m, hk, hm => by
    rw [atN, atN]
    by_cases h1 : m < pathN r (h + 1)
    · rw [if_pos h1, if_pos (by omega), Op.bytesLess, at_lt r (h + 1) k m hk h1]; decide
    · rw [if_neg h1]
      by_cases h2 : k < pathN r (h + 1)
      · rw [if_pos h2, Op.bytesLess]; simp
      · rw [if_neg h2, Op.bytesLess]
        cases h with
        | zero => rw [pathN] at hm; exact absurd hm h1
        | succ g =>
          rw [pathN] at hm
          rw [Nat.add_sub_cancel, at_lt r g _ _ (by omega) (by simp only [Nat.add_assoc, Nat.reduceAdd] at *; omega)]; decide
theorem less_irrefl : ∀ l : List UInt8, Op.bytesLess l l = false
  | [] => rfl
  | a :: l => by rw [Op.bytesLess, less_irrefl l]; simp
theorem less_asymm : ∀ l m : List UInt8, Op.bytesLess l m = true → Op.bytesLess m l = false
  | [], [], h => rfl
  | [], _ :: _, h => by simp [Op.bytesLess]
  | _ :: _, [], h => by simp [Op.bytesLess] at h
  | a :: l, b :: m, h => by
    rw [Op.bytesLess] at h ⊢
    simp only [Bool.or_eq_true, decide_eq_true_eq, Bool.and_eq_true, beq_iff_eq] at h
    rcases h with h | ⟨rfl, h⟩
    · have h1 : ¬ b < a := fun h2 => absurd (UInt8.lt_trans h h2) (UInt8.lt_irrefl _)
      have h2 : (b == a) = false := beq_eq_false_iff_ne.2 (fun e => by subst e; exact UInt8.lt_irrefl _ h)
      simp [h1, h2]
    · rw [less_asymm l m h]; simp
theorem at_cmp (r h k m : Nat) (hk : k < pathN r h) (hm : m < pathN r h) : Op.bytesLess (atN r h k) (atN r h m) = decide (k < m) := by
  rcases Nat.lt_trichotomy k m with e | e | e
  · rw [at_lt r h k m e hm, decide_eq_true e]
  · subst e; rw [less_irrefl, decide_eq_false (by omega)]
  · rw [less_asymm _ _ (at_lt r h m k e hk), decide_eq_false (by omega)]

/-- nests.At with its string under a name -/
def AtSaid (n k : Nat) (w : World) (e : Ending) (w' : World) : Prop := ∃ S : ByteArray, e = .returned (.tuple #[.string S, .int .i64 0]) ∧ Hid (S.data.toList = atN (2 * n) 0 k) ∧ Hid (S.size = 2 * n) ∧ Fr w w' []
theorem nestAtS (x y : Int) (n k : Nat) (w : World) (hx : x = n) (hy : y = k) (hn : n ≤ 15) (hk : k < catN n) :
    Calls Try.prog 21 #[.int .i64 x, .int .i64 y] w (AtSaid n k w) := by
  subst hx; subst hy
  refine (nestAt_nat n k w hn hk).mono ?_; rintro e w' ⟨rfl, hb⟩
  exact ⟨_, rfl, Lib.hid rfl, Lib.hid (by show (atN (2 * n) 0 k).toArray.size = _; rw [List.size_toArray, atN_len]), (Fr.start w).keep hb⟩
theorem nestOfS (S : ByteArray) (n k : Nat) (w : World) (hS : S.data.toList = atN (2 * n) 0 k) (hz : S.size = 2 * n) (hn : n ≤ 15) (hk : k < catN n) :
    Calls Try.prog 22 #[.string S] w fun e w' => e = .returned (.tuple #[.int .i64 k, .int .i64 0]) ∧ Fr w w' [] := by
  have h := nestOf S w (by omega) (by rw [hS]; exact at_chk _ _ _ hk)
  rwa [hS, at_of _ _ _ hk] at h
theorem nestChkS (S : ByteArray) (n k : Nat) (w : World) (hS : S.data.toList = atN (2 * n) 0 k) (hz : S.size = 2 * n) (hn : n ≤ 15) (hk : k < catN n) :
    Calls Try.prog 23 #[.string S] w (RetI 0 w) := by
  have h := nestChk S w (by unfold maxLen; omega)
  rwa [show chkS S.data.toList = 0 from by unfold chkS; rw [hS, atN_len, if_neg (by omega)]; exact at_chk _ _ _ hk] at h

set_option maxRecDepth 100000 in
set_option maxHeartbeats 2000000 in
theorem nestsBack_any (x y z : Int) (w : World) :
    Calls Try.prog 5 #[.int .i64 x, .int .i64 y, .int .i64 z] w fun e w' => e = .returned (.bool true) ∧ Below w.heap.size w w' := by
  obtain ⟨n, hn, hx⟩ : ∃ m : Nat, m < 16 ∧ x % 16 = m := ⟨(x % 16).toNat, by omega, by omega⟩
  have cb := cat_small n (by omega)
  have c1 : 1 ≤ catN n := by
    have h : ∀ n, n < 16 → 1 ≤ catL n := by decide +kernel
    rw [← catL_eq]; exact h n hn
  have HCN : Hid (catN n = pathN (2 * n) 0) := Lib.hid rfl
  obtain ⟨m, hm⟩ : ∃ m, catN n = m := ⟨_, rfl⟩
  rw [hm] at cb c1
  have HM := Lib.hid hm; clear hm
  obtain ⟨i, hi, hy⟩ : ∃ i : Nat, i < m ∧ y % m = i := ⟨(y % m).toNat, by have := Int.emod_nonneg y (b := (m : Int)) (by omega); have := Int.emod_lt_of_pos y (b := (m : Int)) (by omega); omega, by have := Int.emod_nonneg y (b := (m : Int)) (by omega); omega⟩
  obtain ⟨k, hk, hz⟩ : ∃ i : Nat, i < m ∧ z % m = i := ⟨(z % m).toNat, by have := Int.emod_nonneg z (b := (m : Int)) (by omega); have := Int.emod_lt_of_pos z (b := (m : Int)) (by omega); omega, by have := Int.emod_nonneg z (b := (m : Int)) (by omega); omega⟩
  have HX := Lib.hid hx; have HY := Lib.hid hy; have HZ := Lib.hid hz; clear hx hy hz
  go_enter Try.func5, Try.ntmps5
  go_wp2_with fail
  refine (nestsLive_any _).mono ?_; rintro e w1 ⟨rfl, hb⟩
  have F := (Fr.start w).keep hb
  clear hb
  go_wp2_with fail
  refine (within_any _ _ _ (by omega) (by omega)).mono ?_; rintro e w' ⟨rfl, rfl⟩
  rw [HX.out]
  go_wp2_with fail
  refine (nestCount_i _ n _ rfl (by omega)).mono ?_; rintro e w2 ⟨rfl, hb⟩
  rw [HM.out]
  replace F := F.keep hb
  clear hb
  go_wp2_with fail
  refine (within_any _ _ _ (by omega) (by omega)).mono ?_; rintro e w' ⟨rfl, rfl⟩
  rw [HY.out]
  go_wp2_with fail
  refine (within_any _ _ _ (by omega) (by omega)).mono ?_; rintro e w' ⟨rfl, rfl⟩
  rw [HZ.out]
  go_wp2_with fail
  refine (nestAtS _ _ n i _ rfl rfl (by omega) (by rw [HM.out]; exact hi)).mono ?_; rintro e w3 ⟨S, rfl, HS, HSZ, hf⟩
  replace F := F.keep hf.bel
  clear hf
  go_wp2_with fail
  refine (nestAtS _ _ n k _ rfl rfl (by omega) (by rw [HM.out]; exact hk)).mono ?_; rintro e w4 ⟨T, rfl, HT, HTZ, hf⟩
  replace F := F.keep hf.bel
  clear hf
  go_wp2_with fail
  refine (nestOfS S n i _ HS.out HSZ.out (by omega) (by rw [HM.out]; exact hi)).mono ?_; rintro e w5 ⟨rfl, hf⟩
  replace F := F.keep hf.bel
  clear hf
  go_wp2_with fail
  refine (nestOfS T n k _ HT.out HTZ.out (by omega) (by rw [HM.out]; exact hk)).mono ?_; rintro e w6 ⟨rfl, hf⟩
  replace F := F.keep hf.bel
  clear hf
  go_wp2_with fail
  refine (good4 _ _).mono ?_; rintro e w' ⟨rfl, rfl⟩
  replace F := F.alloc (.cells #[.int .i64 0, .int .i64 0, .int .i64 0, .int .i64 0] 24)
  have hcmp : Op.bytesLess S.toList T.toList = decide (i < k) := by
    rw [ByteArray.toList_eq, ByteArray.toList_eq, HS.out, HT.out]
    exact at_cmp _ _ _ _ (by rw [← HCN.out, HM.out]; exact hi) (by rw [← HCN.out, HM.out]; exact hk)
  have q1 : ((i : Int) == (i : Int)) = true := by simp
  have q2 : ((k : Int) == (k : Int)) = true := by simp
  have hsz := HSZ.out
  have q3 : ((((2 * n : Nat)) : Int) == 2 * (n : Int)) = true := by simp
  have HSZ' := Lib.hid hsz
  clear hsz
  by_cases hik : i < k
  case' pos =>
    rw [decide_eq_true hik] at hcmp
  case' neg =>
    rw [decide_eq_false hik] at hcmp
  all_goals
    go_wp2_with fail
    refine (nestChkS S n i _ HS.out HSZ'.out (by omega) (by rw [HM.out]; exact hi)).mono ?_; rintro e w7 ⟨rfl, hf⟩
    replace F := F.keep hf.bel
    have hsz := HSZ'.out
    clear hf hcmp
    go_wp2_with fail
    go_ret
    exact ⟨rfl, F.bel⟩
end Go.Proofs.Ytdcekplmmfenlaa
