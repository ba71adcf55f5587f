/- The walk of the law NestsJoin. -/
import Derived.Test.YtdcekplmmfenlaaNest4
import Derived.Test.YtdcekplmmfenlaaShelf
namespace Go.Proofs.Ytdcekplmmfenlaa
open Go.RowKit

theorem chk_shift (m : List UInt8) (d : Nat) : ∀ (l : List UInt8) (h : Nat), chkL l h = 0 → chkL (l ++ m) (h + d) = chkL m d
  | [], h, e => by
    have : h = 0 := by
      unfold chkL at e
      split at e
      · cases e
      · omega
    subst this; simp
  | c :: r, h, e => by
    rcases chkL_ok c r h e with ⟨rfl, e2⟩ | ⟨rfl, g, rfl, e2⟩
    · rw [List.cons_append, chkL_open, show h + d + 1 = h + 1 + d from by omega]; exact chk_shift m d r (h + 1) e2
    · rw [List.cons_append, show g + 1 + d = (g + d) + 1 from by omega, chkL_close]; exact chk_shift m d r g e2
theorem chk_low : ∀ (q : List UInt8) (g h : Nat), chkL q g = 0 → h < g → chkL q h = 3
  | [], g, h, e, hl => by
    unfold chkL at e
    split at e
    · cases e
    · omega
  | c :: r, g, h, e, hl => by
    rcases chkL_ok c r g e with ⟨rfl, e2⟩ | ⟨rfl, g', rfl, e2⟩
    · rw [chkL_open]; exact chk_low r (g + 1) (h + 1) e2 (by omega)
    · cases h with
      | zero => exact chkL_low r
      | succ h => rw [chkL_close]; exact chk_low r g' h e2 (by omega)
theorem chk_cut (q : List UInt8) : ∀ (p : List UInt8) (h : Nat), chkL (p ++ q) h = 0 → ∃ g : Nat, g + p.count 41 = h + p.count 40 ∧ chkL q g = 0
  | [], h, e => ⟨h, by simp, e⟩
  | c :: r, h, e => by
    rcases chkL_ok c (r ++ q) h e with ⟨rfl, e2⟩ | ⟨rfl, g', rfl, e2⟩
    · obtain ⟨g, h1, h2⟩ := chk_cut q r (h + 1) e2
      refine ⟨g, ?_, h2⟩
      rw [List.count_cons_self, List.count_cons_of_ne (by decide)]; omega
    · obtain ⟨g, h1, h2⟩ := chk_cut q r g' e2
      refine ⟨g, ?_, h2⟩
      rw [List.count_cons_self, List.count_cons_of_ne (by decide)]; omega
theorem chkS_ok (l : List UInt8) (h : chkS l = 0) : l.length ≤ 30 ∧ chkL l 0 = 0 := by
  unfold chkS at h
  split at h
  · cases h
  · exact ⟨by omega, h⟩
theorem chkS_of (l : List UInt8) (h : l.length ≤ 30) : chkS l = chkL l 0 := by unfold chkS; rw [if_neg (by omega)]
theorem cat_data (a b : ByteArray) : (a ++ b).data.toList = a.data.toList ++ b.data.toList := by rw [ByteArray.data_append]; simp

theorem joinSaid (s t : ByteArray) (k : Nat) (hs : chkS s.data.toList = 0) (ht : chkS t.data.toList = 0) (hl : s.size + t.size ≤ 28) (hk : k ≤ s.size) :
    chkS (s ++ t).data.toList = 0 ∧ chkS (⟨#[40]⟩ ++ s ++ ⟨#[41]⟩ ++ t).data.toList = 0 ∧ ∃ g c : Nat, g + c = (s.extract 0 k).data.toList.count 40 ∧ (s.extract 0 k).data.toList.count 41 = c ∧ c ≤ 100 ∧ g ≤ 100 ∧
      (g = 0 ∧ chkS (s.extract k s.size).data.toList = 0 ∨ 0 < g ∧ chkS (s.extract k s.size).data.toList = 3) := by
  have l1 : s.data.toList.length = s.size := by rw [Array.length_toList]; rfl
  have l2 : t.data.toList.length = t.size := by rw [Array.length_toList]; rfl
  have h1 := (chkS_ok _ hs).2
  have h2 := (chkS_ok _ ht).2
  refine ⟨?_, ?_, ?_⟩
  · rw [cat_data, chkS_of _ (by rw [List.length_append]; omega)]
    have := chk_shift t.data.toList 0 s.data.toList 0 h1
    rw [Nat.add_zero] at this
    rw [this, h2]
  · rw [cat_data, cat_data, cat_data]
    rw [chkS_of _ (by simp only [List.length_append, List.length_cons, List.length_nil]; omega)]
    show chkL (([40] ++ s.data.toList ++ [41]) ++ t.data.toList) 0 = 0
    rw [List.append_assoc, List.append_assoc, List.singleton_append, chkL_open]
    have := chk_shift ([41] ++ t.data.toList) 1 s.data.toList 0 h1
    rw [show 0 + 1 = 1 from rfl] at this ⊢
    rw [this, List.singleton_append, show (1 : Nat) = 0 + 1 from rfl, chkL_close, h2]
  · rw [Lib.extract_data, List.drop_zero, Nat.sub_zero, Lib.extract_to_end]
    rw [← List.take_append_drop k s.data.toList] at h1
    obtain ⟨g, e1, e2⟩ := chk_cut _ _ 0 h1
    have b1 := List.count_le_length (a := (40 : UInt8)) (l := s.data.toList.take k)
    have b2 := List.count_le_length (a := (41 : UInt8)) (l := s.data.toList.take k)
    have b3 : (s.data.toList.take k).length ≤ 28 := by rw [List.length_take]; omega
    have b4 : (s.data.toList.drop k).length ≤ 30 := by rw [List.length_drop]; omega
    refine ⟨g, _, by omega, rfl, by omega, by omega, ?_⟩
    rw [chkS_of _ b4]
    rcases Nat.eq_zero_or_pos g with h | h
    · subst h; exact .inl ⟨rfl, e2⟩
    · exact .inr ⟨h, chk_low _ g 0 e2 h⟩

set_option maxRecDepth 100000 in
set_option maxHeartbeats 600000 in
theorem nestsJoin_any (s t : ByteArray) (y : Int) (w : World) (hs : s.size ≤ maxLen) (ht : t.size ≤ maxLen) :
    Calls Try.prog 7 #[.string s, .string t, .int .i64 y] w fun e w' => e = .returned (.bool true) ∧ Below w.heap.size w w' := by
  have B1 := Lib.hid hs; have B2 := Lib.hid ht
  clear hs ht
  go_enter Try.func7, Try.ntmps7
  go_wp2_with fail
  refine (nestsLive_any _).mono ?_; rintro e w1 ⟨rfl, hb⟩
  have F := (Fr.start w).keep hb
  clear hb
  go_wp2_with fail
  refine (nestChk s _ B1.out).mono ?_; rintro e w2 ⟨rfl, hf⟩
  replace F := F.keep hf.bel
  clear hf
  go_wp2_with fail
  refine (nestChk t _ B2.out).mono ?_; rintro e w3 ⟨rfl, hf⟩
  replace F := F.keep hf.bel
  clear hf
  by_cases h1 : chkS s.data.toList = 0
  · rw [h1]
    by_cases h2 : chkS t.data.toList = 0
    · rw [h2]
      have b1 : s.size ≤ 30 := by have := (chkS_ok _ h1).1; rw [Array.length_toList] at this; exact this
      have b2 : t.size ≤ 30 := by have := (chkS_ok _ h2).1; rw [Array.length_toList] at this; exact this
      by_cases h3 : s.size + t.size ≤ 28
      · obtain ⟨n, hn⟩ : ∃ n, s.size = n := ⟨_, rfl⟩
        obtain ⟨m, hm⟩ : ∃ m, t.size = m := ⟨_, rfl⟩
        obtain ⟨k, hk, hy⟩ : ∃ m : Nat, m < n + 1 ∧ y % ((n : Int) + 1) = m := ⟨(y % ((n : Int) + 1)).toNat, by have := Int.emod_nonneg y (b := (n : Int) + 1) (by omega); have := Int.emod_lt_of_pos y (b := (n : Int) + 1) (by omega); omega, by have := Int.emod_nonneg y (b := (n : Int) + 1) (by omega); omega⟩
        have HY := Lib.hid hy
        obtain ⟨j1, j2, g, c, j3, j4, j5, j6, j7⟩ := joinSaid s t k h1 h2 h3 (by omega)
        rw [hn] at j7
        have J1 := Lib.hid j1; have J2 := Lib.hid j2; have J3 := Lib.hid j3; have J4 := Lib.hid j4; have J7 := Lib.hid j7
        rw [hn, hm] at h3
        rw [hn] at b1
        rw [hm] at b2
        clear hy j1 j2 j3 j4 j7 h1 h2
        go_wp2_with fail
        refine (within_any _ _ _ (by omega) (by omega)).mono ?_; rintro e w' ⟨rfl, rfl⟩
        rw [HY.out]
        go_wp2_with fail
        have sz1 : (s.extract k n).size ≤ maxLen := by unfold maxLen; simp [ByteArray.size_extract]; omega
        have HZ1 := Lib.hid sz1
        clear sz1
        refine (nestChk (s.extract k n) _ HZ1.out).mono ?_; rintro e w5 ⟨rfl, hf⟩
        replace F := F.keep hf.bel
        clear hf
        have hkn : (k : Int) ≤ (n : Int) := by omega
        have h0k : (0 : Int) ≤ (k : Int) := by omega
        have hcut : ∃ v : Int, chkS (s.extract k n).data.toList = v ∧ (g = 0 ∧ v = 0 ∨ 0 < g ∧ v = 3) := ⟨_, rfl, J7.out⟩
        obtain ⟨v, hv, hvg⟩ := hcut
        rw [hv]
        clear hv
        go_wp2_with fail
        have e3 : Lib.countByte (s.data.toList.take k) 40 = g + c := by
          have := J3.out
          rw [Lib.extract_data, List.drop_zero, Nat.sub_zero] at this
          exact this.symm
        have e4 : Lib.countByte (s.data.toList.take k) 41 = c := by
          have := J4.out
          rw [Lib.extract_data, List.drop_zero, Nat.sub_zero] at this
          exact this
        go_quiet ((go_at_call 24; exact Calls.quiet_of_same (Try.strings_Count_one _ _ _)))
        have z1 : (s ++ t).size ≤ maxLen := by unfold maxLen; simp [ByteArray.size_append]; omega
        have z2 : (⟨#[40]⟩ ++ s ++ ⟨#[41]⟩ ++ t : ByteArray).size ≤ maxLen := by
          have e1 : (⟨#[40]⟩ : ByteArray).size = 1 := rfl
          have e2 : (⟨#[41]⟩ : ByteArray).size = 1 := rfl
          unfold maxLen; rw [ByteArray.size_append, ByteArray.size_append, ByteArray.size_append, e1, e2]; omega
        have Z1 := Lib.hid z1; have Z2 := Lib.hid z2
        clear z1 z2
        clear e3 e4
        rcases hvg with ⟨rfl, rfl⟩ | ⟨hg, rfl⟩
        · have q1 : ((((0 : Nat)) : Int) == 0) = true := by rw [beq_iff_eq]; rfl
          go_wp2_with fail
          refine (nestChk (s ++ t) _ Z1.out).mono ?_; rintro e w6 ⟨rfl, hf⟩
          rw [J1.out]
          have F7 := (F.drewN _).keep hf.bel
          clear hf
          go_wp2_with fail
          refine (nestChk _ _ Z2.out).mono ?_; rintro e w7 ⟨rfl, hf⟩
          rw [J2.out]
          have F8 := F7.keep hf.bel
          clear hf
          go_wp2_with fail
          go_ret
          exact ⟨rfl, F8.bel⟩
        · have q1 : ((g : Int) == 0) = false := by rw [beq_eq_false_iff_ne]; omega
          go_wp2_with fail
          refine (nestChk (s ++ t) _ Z1.out).mono ?_; rintro e w6 ⟨rfl, hf⟩
          rw [J1.out]
          have F7 := (F.drewN _).keep hf.bel
          clear hf
          go_wp2_with fail
          refine (nestChk _ _ Z2.out).mono ?_; rintro e w7 ⟨rfl, hf⟩
          rw [J2.out]
          have F8 := F7.keep hf.bel
          clear hf
          go_wp2_with fail
          go_ret
          exact ⟨rfl, F8.bel⟩
      · have hd : decide ((28 : Int) < (s.size : Int) + (t.size : Int)) = true := decide_eq_true (by omega)
        go_wp2_with fail
        go_ret
        exact ⟨rfl, F.bel⟩
    · have hd : (chkS t.data.toList != 0) = true := by rw [bne_iff_ne]; exact h2
      generalize chkS t.data.toList = v at *
      clear h1 h2
      go_wp2_with fail
      go_ret
      exact ⟨rfl, F.bel⟩
  · have hd : (chkS s.data.toList != 0) = true := by rw [bne_iff_ne]; exact h1
    generalize chkS s.data.toList = v at *
    generalize chkS t.data.toList = u at *
    clear h1
    go_wp2_with fail
    go_ret
    exact ⟨rfl, F.bel⟩
end Go.Proofs.Ytdcekplmmfenlaa
