/- The walk of the law LinesHeaps. -/
import Derived.Test.YtefblcchmkmfpaaLinH
import Derived.Test.YtefblcchmkmfpaaWLin1
import Derived.Deep.RegionHeld3
namespace Go.Proofs.Ytefblcchmkmfpaa
open Go.RowKit

/-- the greatest heap of the first ones -/
def mxK (l : List Int) : Nat → Int
  | 0 => -1
  | i + 1 => max (mxK l i) ((dL mUp l i - 1 : Nat) : Int)
theorem mxK_ge (l : List Int) : ∀ n i, i < n → ((dL mUp l i - 1 : Nat) : Int) ≤ mxK l n
  | 0, i, h => by omega
  | n + 1, i, h => by
    rw [mxK]
    by_cases c : i = n
    · subst c; exact Int.le_max_right _ _
    · exact Int.le_trans (mxK_ge l n i (by omega)) (Int.le_max_left _ _)
theorem mxK_is (l : List Int) : ∀ n, (n = 0 ∧ mxK l n = -1) ∨ ∃ i, i < n ∧ mxK l n = ((dL mUp l i - 1 : Nat) : Int)
  | 0 => .inl ⟨rfl, rfl⟩
  | n + 1 => by
    rw [mxK]
    right
    rcases mxK_is l n with ⟨h1, h2⟩ | ⟨i, hi, e⟩
    · subst h1; rw [h2]; exact ⟨0, by omega, by omega⟩
    · rcases Int.le_total (mxK l n) ((dL mUp l n - 1 : Nat) : Int) with c | c
      · exact ⟨n, by omega, by omega⟩
      · exact ⟨i, by omega, by omega⟩
theorem mxK_best (l : List Int) (n : Nat) : mxK l n + 1 = ((bestK mUp l n).length : Nat) := by
  rcases best_is mUp l n with ⟨h1, h2⟩ | ⟨i, hi, e⟩
  · rw [h2]; subst h1; rfl
  · have h1 := mxK_ge l n i hi
    have h2 := (dL_bd mUp l i).1
    rcases mxK_is l n with ⟨h3, h4⟩ | ⟨j, hj, e2⟩
    · omega
    · have h3 := best_ge mUp l n j hj
      have h4 := (dL_bd mUp l j).1
      omega
/-- has one been met that stands right ahead? -/
def ahK (l : List Int) (i : Nat) : Nat → Bool
  | 0 => decide (dL mUp l i = 1)
  | j + 1 => ahK l i j || (decide (dL mUp l j + 1 = dL mUp l i) && decide (nth l j < nth l i))
theorem ahK_mono (l : List Int) (i : Nat) : ∀ j k, j ≤ k → ahK l i j = true → ahK l i k = true
  | j, 0, h, e => by rw [show j = 0 by omega] at e; exact e
  | j, k + 1, h, e => by
    by_cases c : j = k + 1
    · rw [← c]; exact e
    · rw [ahK, ahK_mono l i j k (by omega) e]; rfl
theorem ahK_all (l : List Int) (i : Nat) : ahK l i i = true := by
  rcases dL_from mUp l i with e | ⟨j, hj, hm, e⟩
  · exact ahK_mono l i 0 i (by omega) (decide_eq_true e)
  · refine ahK_mono l i (j + 1) i hj ?_
    have hm' : nth l j < nth l i := of_decide_eq_true hm
    rw [ahK]
    simp [hm', e.symm]
theorem heap_no (l : List Int) (j i : Nat) (h : j < i) (e : dL mUp l j = dL mUp l i) : ¬ nth l j < nth l i := fun c => by
  have := dL_lt mUp l j i h (decide_eq_true c); omega
theorem run_max2 (ts : Array TypeId) (t : TypeId) (x y : Int) (w : World) : Sem.run Try.prog (Builtin.max_ ts t #[.int .i64 x, .int .i64 y]) w = .ok (.int .i64 (max x y)) w := by
  simp only [Builtin.max_, List.foldlM_cons, List.foldlM_nil, Builtin.max2, pure_bind]
  rw [show (if x < y then y else x) = max x y from by split <;> omega]
  rfl

set_option maxRecDepth 100000 in
set_option maxHeartbeats 8000000 in
theorem linesHeaps_any (l : List Int) (n : Nat) (a : Option Addr) (cap : Nat) (w : World) (h : Sa w a (ints l)) (hn : l.length = n) (hc : n ≤ cap) :
    Calls Try.prog 8 #[.slice a n cap] w fun e w' => e = .returned (.bool true) ∧ Below w.heap.size w w' := by
  have HS := Lib.hid h; have HN := Lib.hid hn
  clear h hn
  by_cases h30 : n ≤ 30
  · obtain ⟨U, hU⟩ : ∃ U, (bestK mUp l n).length = U := ⟨_, rfl⟩
    have u1 : U ≤ n := by rw [← hU]; exact best_le mUp l n
    have hmx : mxK l n + 1 = (U : Int) := by rw [← hU]; exact mxK_best l n
    have HU := Lib.hid hU; have HMX := Lib.hid hmx
    clear hU hmx
    go_enter Try.func8, Try.ntmps8
    go_wp2_with fail
    refine (linesLive_any _).mono ?_; rintro e w1 ⟨rfl, hb⟩
    have HF1 := Lib.hid ((Fr.start w).keep hb)
    clear hb
    go_wp2_with fail
    refine (lin_up l n _ _ _ (HF1.out.old HS.out) HN.out h30 hc).mono ?_; rintro e w2 ⟨ad1, cp1, rfl, hc1, hf⟩
    have HF2 := Lib.hid (HF1.out.call hf)
    clear hf hc1
    go_wp2_with fail
    refine (lin_split l n _ _ _ (HF2.out.old HS.out) HN.out h30).mono ?_; rintro e w3 ⟨ad2, cp2, rfl, hc2, hf⟩
    have HF3 := Lib.hid ((HF2.out.call hf).sub (M := [⟨3, .slice ad2 n cp2, ints (oK l n)⟩]) (List.singleton_sublist.2 List.mem_cons_self))
    clear hf hc2
    rw [HU.out]
    have HD := Lib.hid (oK_at l n)
    have hmax : ∀ (x y : Int) W, Sem.run Try.prog (Builtin.max_ #[3, 3] 3 #[.int .i64 x, .int .i64 y]) W = .ok (.int .i64 (max x y)) W := fun x y W => run_max2 _ _ x y W
    have HDB : Hid (∀ i, 1 ≤ dL mUp l i ∧ dL mUp l i ≤ i + 1) := Lib.hid (dL_bd mUp l)
    go_wp2_with fail
    go_loopw [7, 51] (fun m i wr => ∃ j : Nat, j ≤ n ∧ i = .int .i64 j ∧ m = .int .i64 (mxK l j) ∧ -1 ≤ mxK l j ∧ mxK l j ≤ 30 ∧ Hid (Fr w wr [⟨3, .slice ad2 n cp2, ints (oK l n)⟩])) (fun _ i _ => n - (intOf i).toNat)
    case atStart => exact ⟨0, by omega, rfl, rfl, by rw [mxK]; omega, by rw [mxK]; omega, HF3⟩
    case round =>
      obtain ⟨j, hj, rfl, rfl, mb1, mb2, HF⟩ := hrel
      by_cases hlt : j < n
      · obtain ⟨g, rfl, hg, cs, fs⟩ := HF.out.openI j (by rw [oK_len]; exact hlt)
        rw [HD.out j hlt] at cs
        have hbd := HDB.out j
        have hmn : mxK l (j + 1) = max (mxK l j) ((dL mUp l j - 1 : Nat) : Int) := rfl
        have HALL := Lib.hid (ahK_all l j)
        have HA0 : Hid (ahK l j 0 = decide (dL mUp l j = 1)) := Lib.hid rfl
        obtain ⟨d, hd⟩ : ∃ d, dL mUp l j = d := ⟨_, rfl⟩
        rw [hd] at cs hbd hmn HA0
        have HDD := Lib.hid hd
        obtain ⟨m, hm⟩ : ∃ m, mxK l j = m := ⟨_, rfl⟩
        rw [hm] at hmn mb1 mb2 ⊢
        have HMN := Lib.hid hmn
        have mb3 : -1 ≤ mxK l (j + 1) := by rw [hmn]; omega
        have mb4 : mxK l (j + 1) ≤ 30 := by rw [hmn]; omega
        obtain ⟨k, hk⟩ : ∃ k, d - 1 = k := ⟨_, rfl⟩
        rw [hk] at cs HMN
        obtain ⟨M, hM⟩ : ∃ M, max m (k : Int) = M := ⟨_, rfl⟩
        have HMM := Lib.hid hM
        have k0 : decide ((k : Int) = 0) = ahK l j 0 := by rw [HA0.out]; congr 1; simp only [eq_iff_iff]; omega
        have e1 : (0 : Int) ≤ (j : Int) := by omega
        have e2 : (j : Int) < (n : Int) := by omega
        clear hmn hd hm hg fs
        go_wp2_with fail
        go_loopw [10, 62] (fun s10 s62 wr => ∃ t : Nat, t ≤ j ∧ s10 = .bool (ahK l j t) ∧ s62 = .int .i64 t ∧ Hid (Fr w wr [⟨3, .slice (some ⟨g, 0, .none⟩) n cp2, ints (oK l n)⟩])) (fun _ s _ => j - (intOf s).toNat)
        case atStart => exact ⟨0, by omega, by first | exact congrArg Value.bool k0 | (rw [← k0]), rfl, HF⟩
        case round =>
          obtain ⟨t, ht, rfl, rfl, HF5⟩ := hrel
          by_cases hlt2 : t < j
          · obtain ⟨b0, off, rfl, hb0, cx⟩ := (HF5.out.old HS.out).int t (by rw [HN.out]; omega)
            obtain ⟨_, _, e, _, cy⟩ := (HF5.out.old HS.out).int j (by rw [HN.out]; omega)
            cases e
            obtain ⟨_, e, _, ct, _⟩ := HF5.out.openI t (by rw [oK_len]; omega)
            cases e
            rw [HD.out t (by omega)] at ct
            have hno := fun e => heap_no l t j hlt2 e
            have hst : ahK l j (t + 1) = (ahK l j t || (decide (dL mUp l t + 1 = dL mUp l j) && decide (nth l t < nth l j))) := rfl
            have hbt := HDB.out t
            rw [HDD.out] at hno hst
            obtain ⟨dt, hdt⟩ : ∃ dt, dL mUp l t = dt := ⟨_, rfl⟩
            rw [hdt] at hno hst hbt ct
            obtain ⟨q, hq⟩ : ∃ q, dt - 1 = q := ⟨_, rfl⟩
            rw [hq] at ct
            obtain ⟨x, hx⟩ : ∃ x, nth l t = x := ⟨_, rfl⟩
            obtain ⟨y, hy⟩ : ∃ y, nth l j = y := ⟨_, rfl⟩
            rw [hx] at cx hno hst
            rw [hy] at cy hno hst
            obtain ⟨A, hA⟩ : ∃ A, ahK l j t = A := ⟨_, rfl⟩
            rw [hA] at hst ⊢
            have HST := Lib.hid hst
            have d1 : (0 : Int) ≤ (t : Int) := by omega
            have d2 : (t : Int) < (j : Int) := by omega
            have d3 : (t : Int) < (n : Int) := by omega
            have k3 : k ≤ 30 := by omega
            have q3 : q ≤ 30 := by omega
            have hq2 : dt = q + 1 := by omega
            have hk2 : d = k + 1 := by omega
            have HB : Hid (k = q → ¬ x < y) := Lib.hid fun e => hno (by omega)
            have HA : Hid (decide (dt + 1 = d) = decide (q + 1 = k)) := Lib.hid (by congr 1; simp only [eq_iff_iff]; omega)
            clear hno hst hdt hq hx hy hA hq2 hk2 hbt
            by_cases c1 : q = k
            · have l1 : ((q : Int) == (k : Int)) = true := beq_iff_eq.2 (by omega)
              have l3 : decide (x < y) = false := decide_eq_false (HB.out c1.symm)
              have l4 : ((q : Int) == (k : Int) - 1) = false := beq_eq_false_iff_ne.2 (by omega)
              have l5 : decide (q + 1 = k) = false := decide_eq_false (by omega)
              clear c1
              cases A with
              | true =>
                have HN1 : Hid (ahK l j (t + 1) = true) := Lib.hid (by rw [HST.out, HA.out, l5]; rfl)
                go_wp2_with fail
                go_quiet (fail)
                go_wp2_with fail
                go_quiet (fail)
                go_wp2_with fail
                exact ⟨⟨t + 1, by omega, by rw [HN1.out], by simp, Lib.hid (HF5.out.drewN _)⟩, by simp only [intOf]; omega⟩
              | false =>
                have HN1 : Hid (ahK l j (t + 1) = false) := Lib.hid (by rw [HST.out, HA.out, l5]; rfl)
                go_wp2_with fail
                go_quiet (fail)
                go_wp2_with fail
                go_quiet (fail)
                go_wp2_with fail
                exact ⟨⟨t + 1, by omega, by rw [HN1.out], by simp, Lib.hid (HF5.out.drewN _)⟩, by simp only [intOf]; omega⟩
            · have l1 : ((q : Int) == (k : Int)) = false := beq_eq_false_iff_ne.2 (by omega)
              clear c1
              cases A with
              | true =>
                have HN1 : Hid (ahK l j (t + 1) = true) := Lib.hid (by rw [HST.out]; rfl)
                go_wp2_with fail
                go_quiet (fail)
                go_wp2_with fail
                go_quiet (fail)
                go_wp2_with fail
                exact ⟨⟨t + 1, by omega, by rw [HN1.out], by simp, Lib.hid (HF5.out.drewN _)⟩, by simp only [intOf]; omega⟩
              | false =>
                by_cases c2 : q + 1 = k
                · have l4 : ((q : Int) == (k : Int) - 1) = true := beq_iff_eq.2 (by omega)
                  have l5 : decide (q + 1 = k) = true := decide_eq_true c2
                  clear c2
                  by_cases c3 : x < y
                  · have l3 : decide (x < y) = true := decide_eq_true c3
                    clear c3
                    have HN1 : Hid (ahK l j (t + 1) = true) := Lib.hid (by rw [HST.out, HA.out, l5, l3]; rfl)
                    go_wp2_with fail
                    go_quiet (fail)
                    go_wp2_with fail
                    go_quiet (fail)
                    go_wp2_with fail
                    exact ⟨⟨t + 1, by omega, by rw [HN1.out], by simp, Lib.hid (HF5.out.drewN _)⟩, by simp only [intOf]; omega⟩
                  · have l3 : decide (x < y) = false := decide_eq_false c3
                    clear c3
                    have HN1 : Hid (ahK l j (t + 1) = false) := Lib.hid (by rw [HST.out, HA.out, l5, l3]; rfl)
                    go_wp2_with fail
                    go_quiet (fail)
                    go_wp2_with fail
                    go_quiet (fail)
                    go_wp2_with fail
                    exact ⟨⟨t + 1, by omega, by rw [HN1.out], by simp, Lib.hid (HF5.out.drewN _)⟩, by simp only [intOf]; omega⟩
                · have l4 : ((q : Int) == (k : Int) - 1) = false := beq_eq_false_iff_ne.2 (by omega)
                  have l5 : decide (q + 1 = k) = false := decide_eq_false c2
                  clear c2
                  have HN1 : Hid (ahK l j (t + 1) = false) := Lib.hid (by rw [HST.out, HA.out, l5]; rfl)
                  go_wp2_with fail
                  go_quiet (fail)
                  go_wp2_with fail
                  go_quiet (fail)
                  go_wp2_with fail
                  exact ⟨⟨t + 1, by omega, by rw [HN1.out], by simp, Lib.hid (HF5.out.drewN _)⟩, by simp only [intOf]; omega⟩
          · obtain rfl : t = j := by omega
            have l1 : decide ((k : Int) < 0) = false := decide_eq_false (by omega)
            rw [HALL.out]
            have hmj : M = mxK l (t + 1) := by rw [HMN.out]; exact hM.symm
            have HMJ := Lib.hid hmj
            clear hmj
            go_wp2_with fail
            exact ⟨⟨t + 1, by omega, by simp, by rw [HMJ.out], mb3, mb4, HF5⟩, by simp only [intOf]; omega⟩
      · obtain rfl : j = n := by omega
        have hmx := HMX.out
        obtain ⟨m, hm⟩ : ∃ m, mxK l j = m := ⟨_, rfl⟩
        rw [hm] at hmx mb1 mb2 ⊢
        have l1 : (m + 1 == (U : Int)) = true := beq_iff_eq.2 hmx
        clear hmx hm
        go_wp2_with fail
        go_ret
        exact ⟨by simp, HF.out.bel⟩
  · go_enter Try.func8, Try.ntmps8
    go_wp2_with fail
    refine (linesLive_any _).mono ?_; rintro e w1 ⟨rfl, hb⟩
    have HF1 := Lib.hid ((Fr.start w).keep hb)
    clear hb
    go_wp2_with fail
    refine (lin_up_no n _ _ _ (by omega)).mono ?_; rintro e w' ⟨rfl, rfl⟩
    go_wp2_with fail
    refine (lin_split_no n _ _ _ (by omega)).mono ?_; rintro e w' ⟨rfl, rfl⟩
    go_wp2_with fail
    go_ret
    exact ⟨rfl, HF1.out.bel⟩
end Go.Proofs.Ytefblcchmkmfpaa
