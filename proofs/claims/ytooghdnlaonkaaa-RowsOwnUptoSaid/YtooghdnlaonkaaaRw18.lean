/- Several of my texts in one: SrtF. -/
import Derived.Test.YtooghdnlaonkaaaRw09
import Derived.RegionTactic
import Derived.Deep.QuietTactic
/- slices.SortFunc of at most 12 numbers, the greatest ahead (the comparison of perm.Cycles). -/
namespace Go.Proofs.Ytooghdnlaonkaaa
open Go.RowKit

theorem cyc1 (x y : Int) (w : World) (hx : 0 ≤ x ∧ x ≤ 1000) (hy : 0 ≤ y ∧ y ≤ 1000) : Calls Try.prog 99 #[.int .i64 x, .int .i64 y] w fun e w' => e = .returned (.int .i64 (y - x)) ∧ w = w' := by
  obtain ⟨h1, h2⟩ := hx
  obtain ⟨h3, h4⟩ := hy
  go_enter Try.func99, Try.ntmps99
  go_wp2_with fail
  go_ret
  exact ⟨rfl, rfl⟩
def swL (l : List Int) (i k : Nat) : List Int := (l.set i (nth l k)).set k (nth l i)
theorem swL_len (l : List Int) (i k : Nat) : (swL l i k).length = l.length := by simp [swL]
theorem swL_perm (l : List Int) (i k : Nat) (hi : i < l.length) (hk : k < l.length) : l.Perm (swL l i k) := by
  have := List.set_set_perm hi hk
  unfold swL nth
  rw [List.getD_eq_getElem?_getD, List.getD_eq_getElem?_getD, List.getElem?_eq_getElem hi, List.getElem?_eq_getElem hk]
  exact this.symm
def insJd : Nat → List Int → List Int
  | 0, l => l
  | j + 1, l => if nth l j < nth l (j + 1) then insJd j (swL l (j + 1) j) else l
def insSd (l : List Int) : Nat → List Int
  | 0 => l
  | i + 1 => insJd i (insSd l i)
theorem insJd_perm : ∀ (j : Nat) (l : List Int), j < l.length → l.Perm (insJd j l)
  | 0, _, _ => .refl _
  | j + 1, l, h => by
    rw [insJd]; split
    · exact (swL_perm l (j + 1) j h (by omega)).trans (insJd_perm j _ (by rw [swL_len]; omega))
    · exact .refl _
theorem insSd_perm (l : List Int) : ∀ i, i ≤ l.length → l.Perm (insSd l i)
  | 0, _ => .refl _
  | i + 1, h => by
    have ih := insSd_perm l i (by omega)
    exact ih.trans (insJd_perm i _ (by rw [← ih.length_eq]; omega))

set_option maxRecDepth 100000 in
set_option maxHeartbeats 4000000 in
theorem insSortF {w0 : World} {L : List Ent} (l : List Int) (n cap g : Nat) (w : World) (hF : Fr w0 w (⟨3, .slice (some ⟨g, 0, .none⟩) n cap, ints l⟩ :: L)) (h12 : n ≤ 12) (h1 : 1 ≤ n) (hb : ∀ v ∈ l, 0 ≤ v ∧ v ≤ 1000) :
    Calls Try.prog 163 #[.slice (some ⟨g, 0, .none⟩) n cap, .int .i64 0, .int .i64 n, .func (.func 99) #[] #[]] w fun e w' => e = .returned (.tuple #[]) ∧ Fr w0 w' (⟨3, .slice (some ⟨g, 0, .none⟩) n cap, ints (insSd l n)⟩ :: L) := by
  have HL : Hid (∀ i, i ≤ n → (insSd l i).length = n) := Lib.hid (fun i hi => by
    have := hF.len; rw [ints_len] at this
    rw [← (insSd_perm l i (by omega)).length_eq]; omega)
  have HF := Lib.hid hF; have HBD := Lib.hid hb
  clear hb
  have H1 : Hid (insSd l 1 = l) := Lib.hid rfl
  clear hF
  go_enter Try.func163, Try.ntmps163
  go_wp2_with fail
  go_loopw [8] (fun i wr => ∃ k : Nat, i = .int .i64 k ∧ 1 ≤ k ∧ k ≤ n ∧ Fr w0 wr (⟨3, .slice (some ⟨g, 0, .none⟩) n cap, ints (insSd l k)⟩ :: L)) (fun i _ => n - (intOf i).toNat)
  case atStart => exact ⟨1, rfl, by omega, h1, by rw [H1.out]; exact HF.out⟩
  case round =>
    obtain ⟨k, rfl, k1, kn, hfr⟩ := hrel
    by_cases hlt : k < n
    · have HST : Hid (insSd l (k + 1) = insJd k (insSd l k)) := Lib.hid rfl
      have HLK : Hid ((insSd l k).length = n) := Lib.hid (HL.out k kn)
      obtain ⟨S, hS⟩ : ∃ S, insSd l k = S := ⟨_, rfl⟩
      have HPS : Hid (l.Perm S) := Lib.hid (by rw [← hS]; exact insSd_perm l k (by have := HL.out 0 (by omega); rw [insSd] at this; omega))
      rw [hS] at hfr HST HLK
      clear hS
      go_wp2_with fail
      go_loopw [9] (fun i wr => ∃ (j : Nat) (q : List Int), i = .int .i64 j ∧ j ≤ k ∧ Hid (q.length = n ∧ insJd k S = insJd j q) ∧ Hid (l.Perm q) ∧ Fr w0 wr (⟨3, .slice (some ⟨g, 0, .none⟩) n cap, ints q⟩ :: L)) (fun i _ => (intOf i).toNat)
      case atStart => exact ⟨k, S, rfl, by omega, Lib.hid ⟨HLK.out, rfl⟩, HPS, hfr⟩
      case round =>
        obtain ⟨j, q, rfl, hj, HQ, HPM, hfr⟩ := hrel
        cases j with
        | zero =>
          have HE : Hid (insSd l (k + 1) = q) := Lib.hid (by rw [HST.out, HQ.out.2, insJd])
          go_wp2_with fail
          go_quiet (fail)
          go_wp2_with fail
          exact ⟨⟨k + 1, by simp, by omega, by omega, by rw [HE.out]; exact hfr.drewN _⟩, by simp only [intOf]; omega⟩
        | succ j =>
          obtain ⟨_, e, _, c1, f1⟩ := hfr.openI (j + 1) (by rw [HQ.out.1]; omega)
          cases e
          obtain ⟨_, e, _, c2, f2⟩ := hfr.openI j (by rw [HQ.out.1]; omega)
          cases e
          have hst : insJd (j + 1) q = if nth q j < nth q (j + 1) then insJd j (swL q (j + 1) j) else q := rfl
          have hsw : (q.set (j + 1) (nth q j)).set j (nth q (j + 1)) = swL q (j + 1) j := rfl
          obtain ⟨x, hx⟩ : ∃ x, nth q (j + 1) = x := ⟨_, rfl⟩
          obtain ⟨y, hy⟩ : ∃ y, nth q j = y := ⟨_, rfl⟩
          rw [hx] at c1 hst hsw
          rw [hy] at c2 hst hsw
          have d1 : (0 : Int) ≤ (j : Int) := by omega
          have d2 : (j : Int) < (n : Int) := by omega
          have d3 : (0 : Int) ≤ (j : Int) + 1 := by omega
          have d4 : (j : Int) + 1 < (n : Int) := by omega
          have e1 : (j : Int) + 1 - 1 = (j : Int) := by omega
          have d5 : decide ((0 : Int) < (j : Int) + 1) = true := decide_eq_true (by omega)
          have bx := HBD.out x (HPM.out.mem_iff.2 (by rw [← hx]; exact nth_mem q (j + 1) (by rw [HQ.out.1]; omega)))
          have by1 := HBD.out y (HPM.out.mem_iff.2 (by rw [← hy]; exact nth_mem q j (by rw [HQ.out.1]; omega)))
          obtain ⟨bx1, bx2⟩ := bx
          obtain ⟨by1, by2⟩ := by1
          obtain ⟨b, hb⟩ : ∃ b, decide (y - x < 0) = b := ⟨_, rfl⟩
          have HB := Lib.hid hb
          by_cases hxy : y < x
          · rw [if_pos hxy] at hst
            obtain rfl : b = true := by rw [← hb, decide_eq_true (by omega)]
            have HQ2 : Hid ((swL q (j + 1) j).length = n ∧ insJd k S = insJd j (swL q (j + 1) j)) := Lib.hid ⟨by rw [swL_len, HQ.out.1], by rw [HQ.out.2, hst]⟩
            have HPM2 : Hid (l.Perm (swL q (j + 1) j)) := Lib.hid (HPM.out.trans (swL_perm q (j + 1) j (by rw [HQ.out.1]; omega) (by rw [HQ.out.1]; omega)))
            have HSW := Lib.hid hsw; have HX := Lib.hid hx; have HY := Lib.hid hy
            clear hst hsw hx hy hxy
            go_wp2_with fail
            go_quiet ((go_at_call 99; exact quiet_eq (cyc1 _ _ _ (by omega) (by omega))))
            go_wp2_with fail
            obtain ⟨_, e, _, c5, f5⟩ := (hfr.drewN nq).openI (j + 1) (by rw [HQ.out.1]; omega)
            cases e
            obtain ⟨_, e, _, c6, f6⟩ := (hfr.drewN nq).openI j (by rw [HQ.out.1]; omega)
            cases e
            rw [HX.out] at c5
            rw [HY.out] at c6
            have F5 := (hfr.drewN nq).setInt (j + 1) y
            obtain ⟨_, e, _, c3, f3⟩ := F5.openI j (by rw [List.length_set, HQ.out.1]; omega)
            cases e
            obtain ⟨v, hv⟩ : ∃ v, nth (q.set (j + 1) y) j = v := ⟨_, rfl⟩
            rw [hv] at c3
            have F6 := (F5.setInt j x).drew
            rw [HSW.out] at F6
            have HF6 := Lib.hid F6
            clear F5 F6 hv
            go_region
            go_wp2_with fail
            exact ⟨⟨j, _, rfl, by omega, HQ2, HPM2, HF6.out⟩, by simp only [intOf]; omega⟩
          · rw [if_neg hxy] at hst
            obtain rfl : b = false := by rw [← hb, decide_eq_false (by omega)]
            have HE : Hid (insSd l (k + 1) = q) := Lib.hid (by rw [HST.out, HQ.out.2, hst])
            clear hst hsw hx hy hxy
            go_wp2_with fail
            go_quiet ((go_at_call 99; exact quiet_eq (cyc1 _ _ _ (by omega) (by omega))))
            go_wp2_with fail
            exact ⟨⟨k + 1, by simp, by omega, by omega, by rw [HE.out]; exact hfr.drewN _⟩, by simp only [intOf]; omega⟩
    · obtain rfl : k = n := by omega
      go_wp2_with fail
      go_end0
      exact ⟨rfl, hfr⟩

set_option maxRecDepth 100000 in
set_option maxHeartbeats 1000000 in
theorem pdqSmallF {w0 : World} {L : List Ent} (l : List Int) (n cap g : Nat) (x : Int) (w : World) (hF : Fr w0 w (⟨3, .slice (some ⟨g, 0, .none⟩) n cap, ints l⟩ :: L)) (h12 : n ≤ 12) (h1 : 1 ≤ n) (hb : ∀ v ∈ l, 0 ≤ v ∧ v ≤ 1000) :
    Calls Try.prog 139 #[.slice (some ⟨g, 0, .none⟩) n cap, .int .i64 0, .int .i64 n, .int .i64 x, .func (.func 99) #[] #[]] w fun e w' => e = .returned (.tuple #[]) ∧ Fr w0 w' (⟨3, .slice (some ⟨g, 0, .none⟩) n cap, ints (insSd l n)⟩ :: L) := by
  have HF := Lib.hid hF; have HBD := Lib.hid hb
  clear hb
  clear hF
  have d1 : decide ((n : Int) ≤ 12) = true := decide_eq_true (by omega)
  go_enter Try.func139, Try.ntmps139
  go_wp2_with fail
  go_loop [1, 2, 3] (fun a b l => a = .int .i64 0 ∧ b = .int .i64 n) (fun _ _ _ => 0)
  case atStart => exact ⟨rfl, rfl⟩
  case round =>
    obtain ⟨rfl, rfl⟩ := hrel
    go_wp2_with fail
    refine (insSortF l n cap g _ HF.out h12 h1 HBD.out).mono ?_; rintro e w' ⟨rfl, hf⟩
    have HF2 := Lib.hid hf
    clear hf
    go_wp2_with fail
    refine bodyPost_ret (results_none rfl _ _ _) rfl ?_
    exact ⟨rfl, HF2.out⟩

set_option maxRecDepth 100000 in
theorem len64_12F (n : Nat) (h : n ≤ 12) (w : World) : Calls Try.prog 157 #[.int .u64 n] w fun e w' => (∃ L, e = .returned (.int .i64 L)) ∧ w = w' := by
  have : n = 0 ∨ n = 1 ∨ n = 2 ∨ n = 3 ∨ n = 4 ∨ n = 5 ∨ n = 6 ∨ n = 7 ∨ n = 8 ∨ n = 9 ∨ n = 10 ∨ n = 11 ∨ n = 12 := by omega
  rcases this with rfl | rfl | rfl | rfl | rfl | rfl | rfl | rfl | rfl | rfl | rfl | rfl | rfl
  all_goals
    go_enter Try.func157, Try.ntmps157
    go_wp2_with fail
    go_ret
    exact ⟨⟨_, rfl⟩, rfl⟩
set_option maxRecDepth 100000 in
theorem len_12F (n : Nat) (h : n ≤ 12) (w : World) : Calls Try.prog 126 #[.int .u64 n] w fun e w' => (∃ L, e = .returned (.int .i64 L)) ∧ w = w' := by
  go_enter Try.func126, Try.ntmps126
  go_wp2_with fail
  refine (len64_12F n h _).mono ?_; rintro e w' ⟨⟨L, rfl⟩, rfl⟩
  go_wp2_with fail
  go_ret
  exact ⟨⟨_, rfl⟩, rfl⟩
set_option maxRecDepth 100000 in
theorem slSortF {w0 : World} {L : List Ent} (l : List Int) (n cap g : Nat) (w : World) (hF : Fr w0 w (⟨3, .slice (some ⟨g, 0, .none⟩) n cap, ints l⟩ :: L)) (h12 : n ≤ 12) (h1 : 1 ≤ n) (hb : ∀ v ∈ l, 0 ≤ v ∧ v ≤ 1000) :
    Calls Try.prog 98 #[.slice (some ⟨g, 0, .none⟩) n cap, .func (.func 99) #[] #[]] w fun e w' => e = .returned (.tuple #[]) ∧ Fr w0 w' (⟨3, .slice (some ⟨g, 0, .none⟩) n cap, ints (insSd l n)⟩ :: L) := by
  have HF := Lib.hid hF; have HBD := Lib.hid hb
  clear hb
  clear hF
  go_enter Try.func98, Try.ntmps98
  go_wp2_with fail
  refine (len_12F n h12 _).mono ?_; rintro e w' ⟨⟨x, rfl⟩, rfl⟩
  go_wp2_with fail
  refine (pdqSmallF l n cap g x _ HF.out h12 h1 HBD.out).mono ?_; rintro e w' ⟨rfl, hf⟩
  have HF2 := Lib.hid hf
  clear hf
  go_wp2_with fail
  go_end0
  exact ⟨rfl, HF2.out⟩


/-! what it gives: the greatest ahead -/
theorem swL_nth (l : List Int) (i k p : Nat) (hi : i < l.length) (hk : k < l.length) : nth (swL l i k) p = if p = k then nth l i else if p = i then nth l k else nth l p := by
  unfold swL
  rw [nth_set _ _ _ _ (by simpa using hk), nth_set _ _ _ _ hi]
theorem insJd_len (j : Nat) (l : List Int) (h : j < l.length) : (insJd j l).length = l.length := (insJd_perm j l h).length_eq.symm
theorem insJd_desc : ∀ (j K : Nat) (q : List Int), j ≤ K → K < q.length → (∀ a b, a < b → b ≤ K → a ≠ j → b ≠ j → nth q b ≤ nth q a) → (∀ b, j < b → b ≤ K → nth q b ≤ nth q j) →
    ∀ a b, a < b → b ≤ K → nth (insJd j q) b ≤ nth (insJd j q) a
  | 0, K, q, _, _, h1, h2 => fun a b hab hb => by
    rw [insJd]
    by_cases e : a = 0
    · subst e; exact h2 b hab hb
    · exact h1 a b hab hb e (by omega)
  | j + 1, K, q, hjK, hK, h1, h2 => fun a b hab hb => by
    rw [insJd]
    have n := fun p => swL_nth q (j + 1) j p (by omega) (by omega)
    by_cases hc : nth q j < nth q (j + 1)
    · rw [if_pos hc]
      refine insJd_desc j K (swL q (j + 1) j) (by omega) (by rw [swL_len]; exact hK) (fun a b hab hb ha' hb' => ?_) (fun b hjb hb => ?_) a b hab hb
      · rw [n, n, if_neg hb', if_neg ha']
        by_cases e1 : b = j + 1
        · rw [if_pos e1, if_neg (by omega)]; exact h1 a j (by omega) (by omega) (by omega) (by omega)
        · rw [if_neg e1]
          by_cases e2 : a = j + 1
          · rw [if_pos e2]; exact h1 j b (by omega) hb (by omega) e1
          · rw [if_neg e2]; exact h1 a b hab hb e2 e1
      · rw [n, n, if_pos rfl, if_neg (by omega)]
        by_cases e1 : b = j + 1
        · rw [if_pos e1]; omega
        · rw [if_neg e1]; exact h2 b (by omega) hb
    · rw [if_neg hc]
      by_cases e1 : b = j + 1
      · subst e1
        by_cases e2 : a = j
        · subst e2; omega
        · have := h1 a j (by omega) (by omega) (by omega) (by omega); omega
      · by_cases e2 : a = j + 1
        · subst e2; exact h2 b hab hb
        · exact h1 a b hab hb e2 e1
theorem insSd_desc (l : List Int) : ∀ i, i ≤ l.length → ∀ a b, a < b → b < i → nth (insSd l i) b ≤ nth (insSd l i) a
  | 0, _ => fun a b _ hb => by omega
  | i + 1, h => fun a b hab hb => by
    have ih := insSd_desc l i (by omega)
    have hl := (insSd_perm l i (by omega)).length_eq
    rw [insSd]
    refine insJd_desc i i (insSd l i) (Nat.le_refl _) (by omega) (fun a b hab hb ha' hb' => ih a b hab (by omega)) (fun b h1 h2 => by omega) a b hab (by omega)
theorem insSd_pw (l : List Int) : (insSd l l.length).Pairwise (fun a b => b ≤ a) := by
  have hl := (insSd_perm l l.length (Nat.le_refl _)).length_eq
  refine List.pairwise_iff_getElem.2 fun i j hi hj hij => ?_
  have := insSd_desc l l.length (Nat.le_refl _) i j hij (by omega)
  simpa [nth, hi, hj] using this
theorem insSd_eq {l m : List Int} (h : l.Perm m) : insSd l l.length = insSd m m.length :=
  List.Perm.eq_of_pairwise (le := fun a b => b ≤ a) (fun a b _ _ h1 h2 => by omega) (insSd_pw l) (insSd_pw m) (((insSd_perm l l.length (Nat.le_refl _)).symm.trans h).trans (insSd_perm m m.length (Nat.le_refl _)))
end Go.Proofs.Ytooghdnlaonkaaa
