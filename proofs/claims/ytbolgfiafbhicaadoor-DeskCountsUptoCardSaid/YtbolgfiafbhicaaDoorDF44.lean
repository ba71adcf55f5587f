/- Several of my texts in one: Dsk3. -/
import Derived.Test.YtbolgfiafbhicaaDoorDF40
import Derived.Test.YtbolgfiafbhicaaDoorDF43
import Derived.Deep.QuietTactic
/- What the desk asks, at any numbers: parts.Check, parts.Turned, tableau.Count, rank.Of, rank.At, nests.At. -/
namespace Go.Proofs.YtbolgfiafbhicaaDoor
open Go.RowKit

def pvL (M : Int) (l : List Int) (k : Nat) : Int := if k = 0 then M else nth l (k - 1)
theorem ck_step (M S : Int) (l : List Int) (k : Nat) (h : k < l.length) : ckE M (pvL M l k) S (l.drop k) =
    if nth l k < 1 ∨ M < nth l k then 1 else if pvL M l k < nth l k then 3 else if M < S + nth l k then 2 else ckE M (pvL M l (k + 1)) (S + nth l k) (l.drop (k + 1)) := by
  rw [List.drop_eq_getElem_cons h, ckE]
  have e : l[k] = nth l k := by simp [nth, h]
  rw [e]
  unfold pvL
  rw [if_neg (show ¬ k + 1 = 0 by omega), Nat.add_sub_cancel]
theorem foldD (l : List Int) : ∀ a : Int, l.foldl (· + ·) a = a + l.foldl (· + ·) 0 := by
  induction l with
  | nil => intro a; simp
  | cons x r ih => intro a; rw [List.foldl_cons, List.foldl_cons, ih (a + x), ih (0 + x)]; omega
theorem sumI_consD (x : Int) (l : List Int) : sumI (x :: l) = x + sumI l := by unfold sumI; rw [List.foldl_cons, foldD]; omega
theorem ck_ok (M : Int) : ∀ (l : List Int) (pv S : Int), ckE M pv S l = 0 → ∀ k, k < l.length → 1 ≤ nth l k ∧ nth l k ≤ M ∧ (k = 0 → nth l 0 ≤ pv) ∧ (0 < k → nth l k ≤ nth l (k - 1)) ∧ S + sumI (l.take k) + nth l k ≤ M ∧ (k : Int) ≤ sumI (l.take k)
  | [], _, _, _, k, hk => by simp at hk
  | x :: r, pv, S, h, k, hk => by
    rw [ckE] at h
    split at h
    · cases h
    · split at h
      · cases h
      · split at h
        · cases h
        · rename_i h1 h2 h3
          cases k with
          | zero => simp [nth, sumI]; omega
          | succ k =>
            have ih := ck_ok M r x (S + x) h k (by simpa using hk)
            obtain ⟨i1, i2, i3, i4, i5, i6⟩ := ih
            have e1 : nth (x :: r) (k + 1) = nth r k := by simp [nth]
            have e2 : sumI ((x :: r).take (k + 1)) = x + sumI (r.take k) := by rw [List.take_succ_cons, sumI_consD]
            rw [e1, e2]
            refine ⟨i1, i2, fun e => by omega, fun _ => ?_, by omega, by omega⟩
            rw [Nat.add_sub_cancel]
            rcases Nat.eq_zero_or_pos k with h0 | h0
            · subst h0
              have : nth (x :: r) 0 = x := by simp [nth]
              rw [this]; exact i3 rfl
            · have : nth (x :: r) k = nth r (k - 1) := by
                obtain ⟨j, rfl⟩ : ∃ j, k = j + 1 := ⟨k - 1, by omega⟩
                simp [nth]
              rw [this]; exact i4 h0
theorem ck_part {l : List Int} (h : ckE 40 40 0 l = 0) : PartOk l := fun k hk => by
  obtain ⟨h1, h2, -, h4, h5, h6⟩ := ck_ok 40 l 40 0 h k hk
  exact ⟨h1, h2, h4, by omega, h6⟩
theorem psum_sum (l : List Int) : ∀ i, i ≤ l.length → psumL l i = sumI (l.take i)
  | 0, _ => by rw [psumL]; rfl
  | i + 1, h => by rw [psumL, psum_sum l i (by omega), take_nth l i (by omega), sumI_snoc]
theorem ck_shp {l : List Int} (h : ckE 12 12 0 l = 0) : Shp l := by
  have hk := ck_ok 12 l 12 0 h
  refine ⟨fun i hi => (hk i hi).1, fun i hi => ?_, fun i hi => ?_⟩
  · have := (hk (i + 1) hi).2.2.2.1 (by omega)
    simpa using this
  · rw [psum_sum l i hi]
    rcases Nat.eq_zero_or_pos i with h0 | h0
    · subst h0; simp [sumI]
    · have := (hk (i - 1) (by omega)).2.2.2.2.1
      have e : l.take i = l.take (i - 1) ++ [nth l (i - 1)] := by
        rw [← take_nth l (i - 1) (by omega)]; congr 1; omega
      rw [e, sumI_snoc]; omega
set_option maxRecDepth 100000 in
set_option maxHeartbeats 8000000 in
theorem partChkE (l : List Int) (n : Nat) (a : Option Addr) (cap : Nat) (w : World) (h : Sa w a (ints l)) (hn : l.length = n) (hm : n ≤ maxLen) :
    Calls Tryd.prog 65 #[.slice a n cap] w fun e w' => e = .returned (.int .i64 (ckE 40 40 0 l)) ∧ w = w' := by
  have HN := Lib.hid hn; have HS := Lib.hid h
  obtain ⟨E, hE⟩ : ∃ E, ckE 40 40 0 l = E := ⟨_, rfl⟩
  have HE : Hid (ckE 40 (pvL 40 l 0) 0 (l.drop 0) = E) := Lib.hid hE
  rw [hE]
  unfold maxLen at hm
  clear hn h hE
  go_enter Tryd.func65, Tryd.ntmps65
  go_wp2_with fail
  go_loop [3, 8] (fun s i => ∃ (k : Nat) (S : Int), k ≤ n ∧ 0 ≤ S ∧ S ≤ 40 ∧ i = .int .i64 k ∧ s = .int .i64 S ∧ Hid (ckE 40 (pvL 40 l k) S (l.drop k) = E)) (fun _ i => n - (intOf i).toNat)
  case atStart => exact ⟨0, 0, by omega, by omega, by omega, rfl, rfl, HE⟩
  case round =>
    clear HE
    obtain ⟨k, S, hk, hS, hS40, rfl, rfl, HK⟩ := hrel
    by_cases hlt : k < n
    · obtain ⟨b, off, rfl, hb, hc⟩ := HS.out.int k (by rw [HN.out]; exact hlt)
      have hst := ck_step 40 S l k (by rw [HN.out]; exact hlt)
      rw [HK.out] at hst
      have hprev : 0 < k → ∃ y, w.cell? ⟨b, off + (k - 1), none⟩ = some (.int .i64 y) ∧ pvL 40 l k = y := by
        intro h0
        obtain ⟨b', off', e, _, hc'⟩ := HS.out.int (k - 1) (by rw [HN.out]; omega)
        cases e
        exact ⟨_, hc', by unfold pvL; rw [if_neg (by omega)]⟩
      obtain ⟨x, hx⟩ : ∃ x, nth l k = x := ⟨_, rfl⟩
      rw [hx] at hc hst
      clear hx
      by_cases h1 : x < 1
      · rw [if_pos (.inl h1)] at hst
        subst hst
        have d1 : decide (x < 1) = true := decide_eq_true h1
        clear hprev HK
        go_wp2_with fail
        go_ret
        exact ⟨rfl, rfl⟩
      have d1 : decide (x < 1) = false := decide_eq_false h1
      by_cases h2 : 40 < x
      · rw [if_pos (.inr h2)] at hst
        subst hst
        have d2 : decide (40 < x) = true := decide_eq_true h2
        clear hprev HK
        go_wp2_with fail
        go_ret
        exact ⟨rfl, rfl⟩
      have d2 : decide (40 < x) = false := decide_eq_false h2
      rw [if_neg (by omega)] at hst
      rcases Nat.eq_zero_or_pos k with h0 | h0
      · subst h0
        rw [Nat.add_zero] at hc
        rw [if_neg (show ¬ pvL 40 l 0 < x by unfold pvL; rw [if_pos rfl]; omega)] at hst
        clear hprev
        by_cases h3 : 40 < S + x
        · rw [if_pos h3] at hst
          subst hst
          have d3 : decide (40 < S + x) = true := decide_eq_true h3
          clear HK
          go_wp2_with fail
          go_ret
          exact ⟨rfl, rfl⟩
        rw [if_neg h3] at hst
        have HST := Lib.hid hst.symm
        have d3 : decide (40 < S + x) = false := decide_eq_false h3
        have b1 : 0 ≤ S + x := by omega
        have b2 : S + x ≤ 40 := by omega
        clear h1 h2 h3 hst
        go_wp2_with fail
        exact ⟨⟨1, S + x, by omega, b1, b2, rfl, rfl, HST⟩, by simp only [intOf]; omega⟩
      · obtain ⟨y, hc', hy⟩ := hprev h0
        rw [hy] at hst
        clear hprev hy
        by_cases h4 : y < x
        · rw [if_pos h4] at hst
          subst hst
          have d4 : decide (y < x) = true := decide_eq_true h4
          clear h1 h2 HK
          go_wp2_with fail
          go_ret
          exact ⟨rfl, rfl⟩
        rw [if_neg h4] at hst
        have d4 : decide (y < x) = false := decide_eq_false h4
        by_cases h3 : 40 < S + x
        · rw [if_pos h3] at hst
          subst hst
          have d3 : decide (40 < S + x) = true := decide_eq_true h3
          clear HK
          go_wp2_with fail
          go_ret
          exact ⟨rfl, rfl⟩
        rw [if_neg h3] at hst
        have HST := Lib.hid hst.symm
        have d3 : decide (40 < S + x) = false := decide_eq_false h3
        have b1 : 0 ≤ S + x := by omega
        have b2 : S + x ≤ 40 := by omega
        clear h1 h2 h3 h4 hst
        go_wp2_with fail
        exact ⟨⟨k + 1, S + x, by omega, b1, b2, by simp, rfl, HST⟩, by simp only [intOf]; omega⟩
    · obtain rfl : k = n := by omega
      have HO : Hid (E = 0) := Lib.hid (by
        have := HK.out
        rw [List.drop_of_length_le (by rw [HN.out]; exact Nat.le_refl _)] at this
        exact this.symm)
      go_wp2_with fail
      go_ret
      exact ⟨by rw [HO.out]; rfl, rfl⟩
set_option maxRecDepth 100000 in
set_option maxHeartbeats 8000000 in
theorem tabCountE (l : List Int) (n : Nat) (a : Option Addr) (cap : Nat) (w : World) (h : Sa w a (ints l)) (hn : l.length = n) (hm : n ≤ maxLen) (hne : ckE 12 12 0 l ≠ 0) :
    Calls Tryd.prog 37 #[.slice a n cap] w fun e w' => e = .returned (.tuple #[.int .i64 0, .int .i64 (ckE 12 12 0 l)]) ∧ w = w' := by
  have HN := Lib.hid hn; have HS := Lib.hid h
  obtain ⟨E, hE⟩ : ∃ E, ckE 12 12 0 l = E := ⟨_, rfl⟩
  have HE : Hid (ckE 12 (pvL 12 l 0) 0 (l.drop 0) = E) := Lib.hid hE
  rw [hE] at hne ⊢
  have HNE := Lib.hid hne
  unfold maxLen at hm
  clear hn h hE hne
  go_enter Tryd.func37, Tryd.ntmps37
  go_wp2_with fail
  go_loop [4, 17] (fun s i => ∃ (k : Nat) (S : Int), k ≤ n ∧ 0 ≤ S ∧ S ≤ 12 ∧ i = .int .i64 k ∧ s = .int .i64 S ∧ Hid (ckE 12 (pvL 12 l k) S (l.drop k) = E)) (fun _ i => n - (intOf i).toNat)
  case atStart => exact ⟨0, 0, by omega, by omega, by omega, rfl, rfl, HE⟩
  case round =>
    clear HE
    obtain ⟨k, S, hk, hS, hS40, rfl, rfl, HK⟩ := hrel
    by_cases hlt : k < n
    · obtain ⟨b, off, rfl, hb, hc⟩ := HS.out.int k (by rw [HN.out]; exact hlt)
      have hst := ck_step 12 S l k (by rw [HN.out]; exact hlt)
      rw [HK.out] at hst
      have hprev : 0 < k → ∃ y, w.cell? ⟨b, off + (k - 1), none⟩ = some (.int .i64 y) ∧ pvL 12 l k = y := by
        intro h0
        obtain ⟨b', off', e, _, hc'⟩ := HS.out.int (k - 1) (by rw [HN.out]; omega)
        cases e
        exact ⟨_, hc', by unfold pvL; rw [if_neg (by omega)]⟩
      obtain ⟨x, hx⟩ : ∃ x, nth l k = x := ⟨_, rfl⟩
      rw [hx] at hc hst
      clear hx
      by_cases h1 : x < 1
      · rw [if_pos (.inl h1)] at hst
        subst hst
        have d1 : decide (x < 1) = true := decide_eq_true h1
        clear hprev HK HNE
        go_wp2_with fail
        go_ret2
        exact ⟨rfl, rfl⟩
      have d1 : decide (x < 1) = false := decide_eq_false h1
      by_cases h2 : 12 < x
      · rw [if_pos (.inr h2)] at hst
        subst hst
        have d2 : decide (12 < x) = true := decide_eq_true h2
        clear hprev HK HNE
        go_wp2_with fail
        go_ret2
        exact ⟨rfl, rfl⟩
      have d2 : decide (12 < x) = false := decide_eq_false h2
      rw [if_neg (by omega)] at hst
      rcases Nat.eq_zero_or_pos k with h0 | h0
      · subst h0
        rw [Nat.add_zero] at hc
        rw [if_neg (show ¬ pvL 12 l 0 < x by unfold pvL; rw [if_pos rfl]; omega)] at hst
        clear hprev
        by_cases h3 : 12 < S + x
        · rw [if_pos h3] at hst
          subst hst
          have d3 : decide (12 < S + x) = true := decide_eq_true h3
          clear HK HNE
          go_wp2_with fail
          go_ret2
          exact ⟨rfl, rfl⟩
        rw [if_neg h3] at hst
        have HST := Lib.hid hst.symm
        have d3 : decide (12 < S + x) = false := decide_eq_false h3
        have b1 : 0 ≤ S + x := by omega
        have b2 : S + x ≤ 12 := by omega
        clear h1 h2 h3 hst
        go_wp2_with fail
        exact ⟨⟨1, S + x, by omega, b1, b2, rfl, rfl, HST⟩, by simp only [intOf]; omega⟩
      · obtain ⟨y, hc', hy⟩ := hprev h0
        rw [hy] at hst
        clear hprev hy
        have g4 : decide ((0 : Int) < (k : Int)) = true := decide_eq_true (by omega)
        by_cases h4 : y < x
        · rw [if_pos h4] at hst
          subst hst
          have d4 : decide (y < x) = true := decide_eq_true h4
          clear h1 h2 HK HNE
          go_wp2_with fail
          go_ret2
          exact ⟨rfl, rfl⟩
        rw [if_neg h4] at hst
        have d4 : decide (y < x) = false := decide_eq_false h4
        by_cases h3 : 12 < S + x
        · rw [if_pos h3] at hst
          subst hst
          have d3 : decide (12 < S + x) = true := decide_eq_true h3
          clear HK HNE
          go_wp2_with fail
          go_ret2
          exact ⟨rfl, rfl⟩
        rw [if_neg h3] at hst
        have HST := Lib.hid hst.symm
        have d3 : decide (12 < S + x) = false := decide_eq_false h3
        have b1 : 0 ≤ S + x := by omega
        have b2 : S + x ≤ 12 := by omega
        clear h1 h2 h3 h4 hst
        go_wp2_with fail
        exact ⟨⟨k + 1, S + x, by omega, b1, b2, by simp, rfl, HST⟩, by simp only [intOf]; omega⟩
    · exfalso
      refine HNE.out ?_
      have := HK.out
      rw [List.drop_of_length_le (by rw [HN.out]; omega)] at this
      exact this.symm
theorem turnNo (l : List Int) (n : Nat) (a : Option Addr) (cap : Nat) (w : World) (h : Sa w a (ints l)) (hn : l.length = n) (hm : n ≤ maxLen) (hne : ckE 40 40 0 l ≠ 0) :
    Calls Tryd.prog 36 #[.slice a n cap] w fun e w' => e = .returned (.tuple #[.slice none 0 0, .int .i64 (ckE 40 40 0 l)]) ∧ w = w' := by
  have HC := Lib.hid (partChkE l n a cap w h hn hm)
  obtain ⟨E, hE⟩ : ∃ E, ckE 40 40 0 l = E := ⟨_, rfl⟩
  rw [hE] at HC hne ⊢
  have g : (E == 0) = false := beq_eq_false_iff_ne.2 hne
  have g' : (E != 0) = true := bne_iff_ne.2 hne
  clear h hn hm hE hne
  go_enter Tryd.func36, Tryd.ntmps36
  go_wp2_with fail
  refine HC.out.mono ?_; rintro e w' ⟨rfl, rfl⟩
  go_wp2_with fail
  go_ret2
  exact ⟨rfl, rfl⟩
theorem codeNo (p : List Int) (n : Nat) (a : Option Addr) (cap : Nat) (w : World) (h : Sa w a (ints p)) (hn : p.length = n) (hm : n ≤ maxLen) (hne : chkP p ≠ 0) :
    Calls Tryd.prog 61 #[.slice a n cap] w fun e w' => e = .returned (.tuple #[.slice none 0 0, .int .i64 (chkP p)]) ∧ Fr w w' [] := by
  have HC := Lib.hid (permChkA p n a cap w h hn hm)
  obtain ⟨E, hE⟩ : ∃ E, chkP p = E := ⟨_, rfl⟩
  rw [hE] at HC hne ⊢
  have g : (E == 0) = false := beq_eq_false_iff_ne.2 hne
  have g' : (E != 0) = true := bne_iff_ne.2 hne
  clear h hn hm hE hne
  go_enter Tryd.func61, Tryd.ntmps61
  go_wp2_with fail
  refine HC.out.mono ?_; rintro e w' ⟨rfl, hf⟩
  have HF := Lib.hid hf
  clear hf
  go_wp2_with fail
  go_ret2
  exact ⟨rfl, HF.out⟩
theorem rankOfNo (p : List Int) (n : Nat) (a : Option Addr) (cap : Nat) (w : World) (h : Sa w a (ints p)) (hn : p.length = n) (hm : n ≤ maxLen) (hne : chkP p ≠ 0) :
    Calls Tryd.prog 32 #[.slice a n cap] w fun e w' => e = .returned (.tuple #[.int .i64 0, .int .i64 (chkP p)]) ∧ Fr w w' [] := by
  have HC := Lib.hid (codeNo p n a cap w h hn hm hne)
  obtain ⟨E, hE⟩ : ∃ E, chkP p = E := ⟨_, rfl⟩
  rw [hE] at HC hne ⊢
  have g : (E == 0) = false := beq_eq_false_iff_ne.2 hne
  have g' : (E != 0) = true := bne_iff_ne.2 hne
  clear h hn hm hE hne
  go_enter Tryd.func32, Tryd.ntmps32
  go_wp2_with fail
  refine HC.out.mono ?_; rintro e w' ⟨rfl, hf⟩
  have HF := Lib.hid hf
  clear hf
  go_wp2_with fail
  go_ret2
  exact ⟨rfl, HF.out⟩
theorem rankCountNo (n : Int) (w : World) (h : 10 < n) : Calls Tryd.prog 62 #[.int .i64 n] w fun e w' => e = .returned (.tuple #[.int .i64 0, .int .i64 1]) ∧ w = w' := by
  have d1 : decide (n < 0) = false := decide_eq_false (by omega)
  have d2 : decide (10 < n) = true := decide_eq_true h
  go_enter Tryd.func62, Tryd.ntmps62
  go_wp2_with fail
  go_ret2
  exact ⟨rfl, rfl⟩
theorem rankAtNo (n k : Nat) (w : World) (h : ¬ (n ≤ 10 ∧ k < facN n)) (hk : k ≤ 999999) :
    Calls Tryd.prog 35 #[.int .i64 n, .int .i64 k] w fun e w' => e = .returned (.tuple #[.slice none 0 0, .int .i64 1]) ∧ w = w' := by
  by_cases h10 : n ≤ 10
  · have f10 := facN_10 n h10
    have g1 : decide ((k : Int) < 0) = false := decide_eq_false (by omega)
    have g2 : decide (facN n ≤ k) = true := decide_eq_true (by omega)
    have HC := Lib.hid (rankCount n w h10)
    clear h
    go_enter Tryd.func35, Tryd.ntmps35
    go_wp2_with fail
    refine HC.out.mono ?_; rintro e w' ⟨rfl, rfl⟩
    go_wp2_with fail
    go_ret2
    exact ⟨rfl, rfl⟩
  · have HC := Lib.hid (rankCountNo n w (by omega))
    clear h h10
    go_enter Tryd.func35, Tryd.ntmps35
    go_wp2_with fail
    refine HC.out.mono ?_; rintro e w' ⟨rfl, rfl⟩
    go_wp2_with fail
    go_ret2
    exact ⟨rfl, rfl⟩
theorem nestCountNo (n : Int) (w : World) (h : 15 < n) : Calls Tryd.prog 66 #[.int .i64 n] w fun e w' => e = .returned (.tuple #[.int .i64 0, .int .i64 1]) ∧ w = w' := by
  have d1 : decide (n < 0) = false := decide_eq_false (by omega)
  have d2 : decide (15 < n) = true := decide_eq_true h
  go_enter Tryd.func66, Tryd.ntmps66
  go_wp2_with fail
  go_ret2
  exact ⟨rfl, rfl⟩
theorem nestAtNo (n k : Nat) (w : World) (h : ¬ (n ≤ 15 ∧ k < catN n)) (hk : k ≤ 999999) :
    Calls Tryd.prog 38 #[.int .i64 n, .int .i64 k] w fun e w' => e = .returned (.tuple #[.string ⟨#[]⟩, .int .i64 1]) ∧ Below w.heap.size w w' := by
  by_cases h10 : n ≤ 15
  · have g1 : decide ((k : Int) < 0) = false := decide_eq_false (by omega)
    have g2 : decide (catN n ≤ k) = true := decide_eq_true (by omega)
    have HC := Lib.hid (nestCount_i n n w rfl h10)
    clear h
    go_enter Tryd.func38, Tryd.ntmps38
    go_wp2_with fail
    refine HC.out.mono ?_; rintro e w' ⟨rfl, hb⟩
    have HB := Lib.hid hb
    clear hb HC
    go_wp2_with fail
    go_ret2
    exact ⟨rfl, HB.out⟩
  · have HC := Lib.hid (nestCountNo n w (by omega))
    have HB := Lib.hid (Below.refl w.heap.size w)
    clear h h10
    go_enter Tryd.func38, Tryd.ntmps38
    go_wp2_with fail
    refine HC.out.mono ?_; rintro e w' ⟨rfl, rfl⟩
    go_wp2_with fail
    go_ret2
    exact ⟨rfl, HB.out⟩
end Go.Proofs.YtbolgfiafbhicaaDoor
