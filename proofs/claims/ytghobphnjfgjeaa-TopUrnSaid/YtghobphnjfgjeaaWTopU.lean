/- The walk of the law TopUrn. -/
import Derived.Test.YtghobphnjfgjeaaWUrn3
import Derived.Test.YtghobphnjfgjeaaEvt3
import Derived.Test.YtghobphnjfgjeaaTop
namespace Go.Proofs.Ytghobphnjfgjeaa
open Go.RowKit

theorem wtL_pow : ∀ (l : List Int) (d : Nat), d < l.length → wtL l (2 ^ d) = nth l d
  | [], d, h => by simp at h
  | x :: r, 0, _ => by rw [wtL]; simp [wtL_zero, nth]
  | x :: r, d + 1, h => by
    have := wtL_pow r d (by simpa using h)
    rw [wtL, if_neg (by rw [Nat.pow_succ]; omega), show 2 ^ (d + 1) / 2 = 2 ^ d from by rw [Nat.pow_succ]; omega, this]
    have e : nth (x :: r) (d + 1) = nth r d := by simp [nth]
    rw [e]; omega
theorem isum_usum : ∀ l : List Int, isum l = usum l
  | [] => rfl
  | x :: r => by rw [isum, usum, isum_usum r]
theorem hav_zero : ∀ (ds h : List Int), hav 0 h ds = h
  | [], _ => rfl
  | k :: ds, h => by
    rw [hav, hav_zero ds]
    refine ext_nth (by rw [List.length_set]) (fun i hi => ?_)
    rw [List.length_set] at hi
    by_cases hk : k.toNat < h.length
    · rw [nth_set _ _ _ _ hk]; split
      · rename_i e; rw [e]; omega
      · rfl
    · rw [List.set_eq_of_length_le (by omega)]
theorem hav_ge (m B : Int) (h0 : 0 ≤ m) (n : Nat) : ∀ (ds h : List Int), h.length = n → Val n ds → (∀ x ∈ h, B ≤ x) → ∀ x ∈ hav m h ds, B ≤ x
  | [], h, _, _, hb => hb
  | k :: ds, h, hl, hv, hb => by
    rw [hav]
    have hk := hv.head.2.2
    refine hav_ge m B h0 n ds _ (by rw [List.length_set, hl]) hv.tail (fun x hx => ?_)
    rcases List.mem_or_eq_of_mem_set hx with h1 | rfl
    · exact hb x h1
    · have := hb _ (nth_mem h k.toNat (by omega)); omega
theorem exN_snoc (m : Int) (h ds : List Int) (t : Int) : exN m h (ds ++ [t]) = exN m h ds * nth (hav m h ds) t.toNat := by rw [exN_app, exN, exN, Int.mul_one]
theorem hav_snoc (m : Int) : ∀ (ds h : List Int) (t : Int), hav m h (ds ++ [t]) = (hav m h ds).set t.toNat (nth (hav m h ds) t.toNat + m)
  | [], _, _ => rfl
  | k :: ds, h, t => by rw [List.cons_append, hav, hav, hav_snoc m ds]
theorem red_mul (N x D S : Int) (hD : 0 < D) (hS : 0 < S) : RedIs (redP N D * redP x S) (redQ N D * redQ x S) (redP (N * x) (D * S)) (redQ (N * x) (D * S)) :=
  red_eq (Int.mul_pos (redQ_pos N D hD) (redQ_pos x S hS)) (Int.mul_pos hD hS) (eqv_mul (eqv_red N D) (eqv_red x S))
/-- the parts mapped so far -/
def mapP (f : Int → Int) (V : List Int) (n k : Nat) : List Int := (List.range n).map fun i => if i < k then f (nth V i) else nth V i
theorem mapP_len (f : Int → Int) (V : List Int) (n k : Nat) : (mapP f V n k).length = n := by simp [mapP]
theorem mapP_nth (f : Int → Int) (V : List Int) (n k i : Nat) (h : i < n) : nth (mapP f V n k) i = if i < k then f (nth V i) else nth V i := by simp [mapP, nth, h]
theorem mapP_zero (f : Int → Int) (V : List Int) (n : Nat) (hn : V.length = n) : V = mapP f V n 0 := ext_nth (by rw [mapP_len, hn]) (fun i hi => by rw [mapP_nth _ _ _ _ _ (by omega), if_neg (by omega)])
theorem mapP_set (f : Int → Int) (V : List Int) (n k : Nat) (h : k < n) : (mapP f V n k).set k (f (nth V k)) = mapP f V n (k + 1) := ext_nth (by rw [List.length_set, mapP_len, mapP_len]) (fun i hi => by
  rw [List.length_set, mapP_len] at hi
  rw [nth_set _ _ _ _ (by rw [mapP_len]; exact h), mapP_nth _ _ _ _ _ hi, mapP_nth _ _ _ _ _ hi]
  by_cases e : i = k
  · subst e; rw [if_pos rfl, if_pos (by omega)]
  · rw [if_neg e]
    by_cases h2 : i < k
    · rw [if_pos h2, if_pos (by omega)]
    · rw [if_neg h2, if_neg (by omega)])
/-- an urn of these balls -/
theorem urn_fine {W : List Int} {n : Nat} (hl : W.length = n) (n1 : 1 ≤ n) (n5 : n ≤ 5) (hb : ∀ i, i < n → 1 ≤ nth W i ∧ nth W i ≤ 9) (more : Int) (m0 : 0 ≤ more) (m1 : more ≤ 12) : urnChk W more = 0 ∧ UOk W n 12 ∧ ∀ x ∈ W, 1 ≤ x ∧ x ≤ 9 := by
  have hm : ∀ x ∈ W, 1 ≤ x ∧ x ≤ 9 := fun x hx => by
    obtain ⟨i, hi, rfl⟩ := List.getElem_of_mem hx
    have := hb i (by omega)
    have e : nth W i = W[i] := by simp [nth, hi]
    rwa [e] at this
  have hp : 0 < usum W := by
    have := usum_ge W (fun x hx => by have := hm x hx; omega) 0 (by omega)
    have := hb 0 (by omega); omega
  refine ⟨?_, ⟨hl, n1, n5, fun x hx => by have := hm x hx; omega, hp⟩, hm⟩
  unfold urnChk
  rw [if_neg (by omega), if_neg, if_neg (by omega), if_neg (by omega)]
  intro hany
  obtain ⟨x, hx, hbad⟩ := List.any_eq_true.1 hany
  have := hm x hx
  simp at hbad; omega
/-- what the n-th step makes of the ratio -/
theorem top_step {W : List Int} {n : Nat} (hu : UOk W n 12) (m : Int) (m0 : 0 ≤ m) (m1 : m ≤ 12) (ds : List Int) (d : Nat) (hv : Val n (ds ++ [(d : Int)])) (h4 : (ds ++ [(d : Int)]).length ≤ 4) :
    Rat1 (redP (exN m W ds) (exD m W ds)) (redQ (exN m W ds) (exD m W ds)) ∧ Rat1 (redP (nth (hav m W ds) d) (usum (hav m W ds))) (redQ (nth (hav m W ds) d) (usum (hav m W ds))) ∧
    RedIs (redP (exN m W ds) (exD m W ds) * redP (nth (hav m W ds) d) (usum (hav m W ds))) (redQ (exN m W ds) (exD m W ds) * redQ (nth (hav m W ds) d) (usum (hav m W ds))) (redP (exN m W (ds ++ [(d : Int)])) (exD m W (ds ++ [(d : Int)]))) (redQ (exN m W (ds ++ [(d : Int)])) (exD m W (ds ++ [(d : Int)]))) ∧
    Rat1 (redP (exN m W (ds ++ [(d : Int)])) (exD m W (ds ++ [(d : Int)]))) (redQ (exN m W (ds ++ [(d : Int)])) (exD m W (ds ++ [(d : Int)]))) := by
  have hv1 : Val n ds := fun x hx => hv x (by simp [hx])
  have hd : d < n := by have := hv (d : Int) (by simp); omega
  have hk := hav_ok m m0 m1 n ds W 12 hu hv1
  rw [List.length_append, List.length_singleton] at h4
  have e1 := exD_small m m0 m1 n W ds hu hv1 (by omega)
  have e2 := exD_small m m0 m1 n W (ds ++ [(d : Int)]) hu hv (by rw [List.length_append, List.length_singleton]; omega)
  have b1 := exN_bd m m0 m1 n ds W 12 hu hv1
  have b2 := exN_bd m m0 m1 n _ W 12 hu hv
  have b3 := hk.nth d hd
  have b4 := hk.sum (by omega)
  have b5 := hk.pos
  have b6 := usum_ge (hav m W ds) (fun x hx => (hk.bd x hx).1) d (by rw [hk.len]; exact hd)
  have rm := red_mul (exN m W ds) (nth (hav m W ds) d) (exD m W ds) (usum (hav m W ds)) e1.1 b5
  rw [show nth (hav m W ds) d = nth (hav m W ds) (d : Int).toNat from by rw [Int.toNat_natCast], ← exN_snoc, ← exD_snoc, Int.toNat_natCast] at rm
  exact ⟨red_rat _ _ (by omega) (by omega), red_rat _ _ (by omega) (by omega), rm, red_rat _ _ (by omega) (by omega)⟩
theorem chk_fine {h : List Int} {n d : Nat} (hl : h.length = n) (n1 : 1 ≤ n) (n5 : n ≤ 5) (hb : ∀ x ∈ h, 1 ≤ x ∧ x ≤ 100) (hd : d < n) : chkE h [2 ^ d] = 0 ∧ wtL h (2 ^ d) = nth h d ∧ isum h = usum h ∧ 2 ^ d < 65536 := by
  have hp : 2 ^ d < 2 ^ n := Nat.pow_lt_pow_right (by omega) hd
  have h5 : 2 ^ n ≤ 2 ^ 5 := Nat.pow_le_pow_right (by omega) n5
  refine ⟨?_, wtL_pow h d (by omega), isum_usum h, by omega⟩
  unfold chkE
  rw [if_neg (by omega), if_neg, if_neg]
  · intro hany
    obtain ⟨x, hx, hbad⟩ := List.any_eq_true.1 hany
    rw [List.mem_singleton] at hx
    subst hx
    rw [hl] at hbad
    simp at hbad; omega
  · intro hany
    obtain ⟨x, hx, hbad⟩ := List.any_eq_true.1 hany
    have := hb x hx
    simp at hbad; omega

theorem shl16 : ∀ d : Nat, d < 5 → IntKind.u16.wrap ((2 : Int) ^ d) = ((2 ^ d : Nat) : Int) := by decide
theorem aft_fine {W D : List Int} {n : Nat} (hu : UOk W n 12) (hc : urnChk W 1 = 0) (hv : Val n D) (h12 : D.length ≤ 12) (hb : ∀ x ∈ W, 1 ≤ x ∧ x ≤ 9) : aftL W 1 D = (hav 1 W D, 0) := by
  unfold aftL
  rw [if_neg (by omega), if_neg (by omega), aft_valid 1 (by omega) n D W hu.len (fun x hx => by have := hb x hx; omega) hv, if_neg]
  intro hany
  obtain ⟨x, hx, hz⟩ := List.any_eq_true.1 hany
  have hk := hv x hx
  have := hb _ (nth_mem W x.toNat (by rw [hu.len]; omega))
  simp at hz; omega

def rawE (ad : Option Addr) (n cp : Nat) (l : List Int) : Ent := ⟨3, .slice ad n cp, ints l⟩
set_option maxRecDepth 100000 in
set_option maxHeartbeats 8000000 in
theorem topUrn_any (l1 l2 : List Int) (n1 n2 : Nat) (a b : Option Addr) (ca cb : Nat) (w : World) (h : Sa w a (ints l1)) (hn : l1.length = n1) (hc : n1 ≤ ca) (hm : n1 ≤ maxLen)
    (h' : Sa w b (ints l2)) (hn' : l2.length = n2) (hc' : n2 ≤ cb) (hm' : n2 ≤ maxLen) :
    Calls Try.prog 14 #[.slice a n1 ca, .slice b n2 cb] w fun e w' => e = .returned (.bool true) ∧ Below w.heap.size w w' := by
  unfold maxLen at hm hm'
  obtain ⟨n, a1, a2, a3⟩ : ∃ m : Nat, m ≤ n1 ∧ (m : Int) ≤ 5 ∧ (m = n1 ∨ (m : Int) = 5) := ⟨min n1 5, by omega, by omega, by omega⟩
  have HMIN := Lib.hid (run_min2 #[3, 3] 3 n1 5 n a1 a2 a3)
  obtain ⟨m, b1, b2, b3⟩ : ∃ m : Nat, m ≤ n2 ∧ (m : Int) ≤ 4 ∧ (m = n2 ∨ (m : Int) = 4) := ⟨min n2 4, by omega, by omega, by omega⟩
  have HMIN' := Lib.hid (run_min2 #[3, 3] 3 n2 4 m b1 b2 b3)
  have k1 : (n : Int) ≤ (ca : Int) := by omega
  have k2 : (m : Int) ≤ (cb : Int) := by omega
  obtain ⟨V, hV⟩ : ∃ V, l1.take n = V := ⟨_, rfl⟩
  obtain ⟨U, hU⟩ : ∃ U, l2.take m = U := ⟨_, rfl⟩
  have HS : Hid (Sa w a (ints V)) := Lib.hid (by have := h.take n; rw [ints_take, hV] at this; exact this)
  have HS' : Hid (Sa w b (ints U)) := Lib.hid (by have := h'.take m; rw [ints_take, hU] at this; exact this)
  have HV : Hid (V.length = n) := Lib.hid (by rw [← hV, List.length_take]; omega)
  have HU : Hid (U.length = m) := Lib.hid (by rw [← hU, List.length_take]; omega)
  clear h h' hn hn' hV hU a3 b3
  go_enter Try.func14, Try.ntmps14
  have hmin := HMIN.out
  have hmin' := HMIN'.out
  go_wp2_with fail
  refine (slClone V n _ _ _ HS.out HV.out (by omega)).mono ?_; rintro e w1 ⟨ad1, cp1, rfl, hc1, F1⟩
  go_wp2_with fail
  refine (slClone U m _ _ _ (F1.old HS'.out) HU.out (by omega)).mono ?_; rintro e w2 ⟨ad2, cp2, rfl, hc2, hf⟩
  have F2 := F1.call hf
  clear F1 hf hmin hmin'
  go_wp2_with fail
  refine (works_any _).mono ?_; rintro e w3 ⟨rfl, hb⟩
  have F3 := F2.keep hb
  clear F2 hb
  by_cases hn0 : n = 0
  · subst hn0
    go_wp2_with fail
    refine (works_any _).mono ?_; rintro e w4 ⟨rfl, hb⟩
    have F4 := F3.keep hb
    go_wp2_with fail
    go_ret
    exact ⟨rfl, F4.bel⟩
  · have zn : ((n : Int) == 0) = false := beq_eq_false_iff_ne.2 (by omega)
    obtain ⟨G1, rfl, -⟩ := F3.swap.open (by rw [ints_len, HV.out]; omega)
    have F4 := F3
    rw [mapP_zero (fun x => 1 + x % 9) V n HV.out] at F4
    go_wp2_with fail
    clear zn
    go_loopw [46] (fun i wr => ∃ k : Nat, k ≤ n ∧ i = .int .i64 k ∧ Fr w wr [rawE ad2 m cp2 U, rawE (some ⟨G1, 0, none⟩) n cp1 (mapP (fun x => 1 + x % 9) V n k)]) (fun i _ => n - (intOf i).toNat)
    case atStart => exact ⟨0, by omega, rfl, F4⟩
    case round =>
      obtain ⟨k, hk, rfl, hfr⟩ := hrel
      clear F3 F4
      by_cases hlt : k < n
      · obtain ⟨_, e, _, c1, f1⟩ := hfr.swap.openI k (by rw [mapP_len]; exact hlt)
        cases e
        have hst := mapP_set (fun x => 1 + x % 9) V n k hlt
        rw [mapP_nth _ _ _ _ _ hlt, if_neg (by omega)] at c1
        obtain ⟨x, hx⟩ : ∃ x, nth V k = x := ⟨_, rfl⟩
        rw [hx] at c1
        simp only [hx] at hst
        have x1 := Int.emod_nonneg x (b := 9) (by omega)
        have x2 := Int.emod_lt_of_pos x (b := 9) (by omega)
        have F5 := (hfr.swap.setInt k (1 + x % 9)).swap
        rw [hst] at F5
        have HF5 := Lib.hid F5
        have d1 : (0 : Int) ≤ (k : Int) := by omega
        have d2 : (k : Int) < (n : Int) := by omega
        clear hfr F5 hst hx
        go_wp2_with fail
        refine (within_any _ _ _ (by omega) (by omega)).mono ?_; rintro e w' ⟨rfl, rfl⟩
        go_wp2_with fail
        exact ⟨⟨k + 1, by omega, by simp, HF5.out⟩, by simp only [intOf]; omega⟩
      · obtain rfl : k = n := by omega
        have hWb : ∀ i, i < k → 1 ≤ nth (mapP (fun x => 1 + x % 9) V k k) i ∧ nth (mapP (fun x => 1 + x % 9) V k k) i ≤ 9 := fun i hi => by
          rw [mapP_nth _ _ _ _ _ hi, if_pos hi]; omega
        have hWl : (mapP (fun x => 1 + x % 9) V k k).length = k := mapP_len _ _ _ _
        generalize mapP (fun x => 1 + x % 9) V k k = W at *
        obtain ⟨fc, fu, fm⟩ := urn_fine hWl (by omega) (by omega) hWb 0 (by omega) (by omega)
        obtain ⟨fc1, -, -⟩ := urn_fine hWl (by omega) (by omega) hWb 1 (by omega) (by omega)
        have WL := Lib.hid hWl; have FC := Lib.hid fc; have FC1 := Lib.hid fc1; have FU := Lib.hid fu; have FM := Lib.hid fm
        have kp : 1 ≤ k := by omega
        have k5 : k ≤ 5 := by omega
        clear hWb hWl fc fc1 fu fm
        have F5 := (hfr.rat 1 1).rat' 1 1 (wr.heap.size + 1) (by simp)
        clear hfr
        go_wp2_with fail
        refine (slClone W k _ _ _ (F5.get 3 rfl) WL.out (by omega)).mono ?_; rintro e w5 ⟨ad5, cp5, rfl, hc5, hf⟩
        have F6 := F5.call hf
        clear F5 hf
        obtain ⟨M, rfl, -⟩ := F6.open (by rw [ints_len, WL.out]; omega)
        obtain ⟨A, hA⟩ : ∃ A, wr.heap.size = A := ⟨_, rfl⟩
        rw [hA] at F6 ⊢
        obtain ⟨B, hB⟩ : ∃ B, A + 1 = B := ⟨_, rfl⟩
        rw [hB] at F6 ⊢
        have nAB : A ≠ B := by omega
        have nBA : B ≠ A := by omega
        have F7 := F6.perm (M := [rawE ad2 m cp2 U, rawE (some ⟨G1, 0, .none⟩) k cp1 W, rawE (some ⟨M, 0, .none⟩) k cp5 W, eR B 1 1, eR A 1 1]) (List.perm_append_comm (l₁ := [rawE (some ⟨M, 0, .none⟩) k cp5 W, eR B 1 1, eR A 1 1]) (l₂ := [rawE ad2 m cp2 U, rawE (some ⟨G1, 0, .none⟩) k cp1 W]))
        rw [mapP_zero (fun x => x % (k : Int)) U m HU.out] at F7
        have HDV : Hid (Val k (mapP (fun x => x % (k : Int)) U m m)) := Lib.hid (fun x hx => by
          obtain ⟨j, hj, rfl⟩ := List.getElem_of_mem hx
          have hj2 := hj
          rw [mapP_len] at hj2
          have e : nth (mapP (fun x => x % (k : Int)) U m m) j = (mapP (fun x => x % (k : Int)) U m m)[j] := by simp [nth, hj]
          rw [← e, mapP_nth _ _ _ _ _ hj2, if_pos hj2]
          exact ⟨Int.emod_nonneg _ (by omega), Int.emod_lt_of_pos _ (by omega)⟩)
        have HDL : Hid ((mapP (fun x => x % (k : Int)) U m m).length = m) := Lib.hid (mapP_len _ _ _ _)
        have HDN : Hid (∀ i, i < m → nth (mapP (fun x => x % (k : Int)) U m m) i = nth U i % (k : Int)) := Lib.hid (fun i hi => by rw [mapP_nth _ _ _ _ _ hi, if_pos hi])
        have HLAST : Hid (mapP (fun x => x % (k : Int)) U m m = mapP (fun x => x % (k : Int)) U m m) := Lib.hid rfl
        have HMP : Hid (∀ i, i < m → (mapP (fun x => x % (k : Int)) U m i).set i (nth U i % (k : Int)) = mapP (fun x => x % (k : Int)) U m (i + 1)) := Lib.hid (fun i hi => mapP_set (fun x => x % (k : Int)) U m i hi)
        have HMN : Hid (∀ i, i < m → nth (mapP (fun x => x % (k : Int)) U m i) i = nth U i) := Lib.hid (fun i hi => by rw [mapP_nth _ _ _ _ _ hi, if_neg (by omega)])
        have HMML : Hid (∀ i, (mapP (fun x => x % (k : Int)) U m i).length = m) := Lib.hid (fun i => mapP_len _ _ _ _)
        have HE : Hid (mapP (fun x => x % (k : Int)) U m 0 = mapP (fun x => x % (k : Int)) U m 0) := Lib.hid rfl
        obtain ⟨D, hD⟩ : ∃ D, mapP (fun x => x % (k : Int)) U m m = D := ⟨_, rfl⟩
        obtain ⟨P, hP⟩ : ∃ P : Nat → List Int, ∀ i, mapP (fun x => x % (k : Int)) U m i = P i := ⟨_, fun _ => rfl⟩
        have HPM : Hid (P m = D) := Lib.hid (by rw [← hP, hD])
        rw [hD] at HDV HDL HDN
        simp only [hP] at F7 HMP HMN HMML
        clear F6 hA hB hP hD HLAST HE
        have RZ : redP 1 1 = 1 ∧ redQ 1 1 = 1 := red_self (by unfold Rat1; decide)
        go_wp2_with fail
        go_loopw [65] (fun i wr => ∃ (t : Nat) (X1 Y1 X2 Y2 : Int), t ≤ m ∧ i = .int .i64 t ∧ Hid (redP (exN 0 W (D.take t)) (exD 0 W (D.take t)) = X1 ∧ redQ (exN 0 W (D.take t)) (exD 0 W (D.take t)) = Y1 ∧ redP (exN 1 W (D.take t)) (exD 1 W (D.take t)) = X2 ∧ redQ (exN 1 W (D.take t)) (exD 1 W (D.take t)) = Y2) ∧
          Fr w wr [rawE ad2 m cp2 (P t), rawE (some ⟨G1, 0, none⟩) k cp1 W, rawE (some ⟨M, 0, none⟩) k cp5 (hav 1 W (D.take t)), eR B X2 Y2, eR A X1 Y1]) (fun i _ => m - (intOf i).toNat)
        case atStart => exact ⟨0, 1, 1, 1, 1, by omega, rfl, Lib.hid (by rw [List.take_zero]; exact ⟨RZ.1, RZ.2, RZ.1, RZ.2⟩), F7⟩
        case round =>
          obtain ⟨t, X1, Y1, X2, Y2, ht, rfl, HXY, hfr⟩ := hrel
          clear F7 RZ
          by_cases htm : t < m
          · obtain ⟨G2, rfl, -⟩ := hfr.open (by rw [ints_len, HMML.out]; omega)
            obtain ⟨_, e, _, c1, f1⟩ := hfr.openI t (by rw [HMML.out]; exact htm)
            cases e
            rw [HMN.out t htm] at c1
            have hmp := HMP.out t htm
            have hdn := HDN.out t htm
            obtain ⟨y, hy⟩ : ∃ y, nth U t = y := ⟨_, rfl⟩
            rw [hy] at c1 hmp hdn
            obtain ⟨d, hd, hdk⟩ : ∃ d : Nat, y % (k : Int) = d ∧ d < k := ⟨(y % (k : Int)).toNat, by have := Int.emod_nonneg y (b := (k : Int)) (by omega); omega, by have := Int.emod_nonneg y (b := (k : Int)) (by omega); have := Int.emod_lt_of_pos y (b := (k : Int)) (by omega); omega⟩
            rw [hd] at hmp hdn
            have htk : D.take (t + 1) = D.take t ++ [(d : Int)] := by rw [take_nth D t (by rw [HDL.out]; exact htm), hdn]
            have F8 := hfr.setInt t (d : Int)
            rw [hmp] at F8
            have HF8 := Lib.hid F8
            have HPT : Hid (nth (P (t + 1)) t = (d : Int)) := Lib.hid (by rw [← hmp, nth_set _ _ _ _ (by rw [HMML.out]; exact htm), if_pos rfl])
            have HD := Lib.hid hd; have HTK := Lib.hid htk
            have d1 : (0 : Int) ≤ (t : Int) := by omega
            have d2 : (t : Int) < (m : Int) := by omega
            clear hfr F8 hmp hdn hy hd htk
            go_wp2_with fail
            refine (within_any _ _ _ (by omega) (by omega)).mono ?_; rintro e w' ⟨rfl, rfl⟩
            rw [HD.out]
            go_wp2_with fail
            have hv : Val k (D.take t ++ [(d : Int)]) := fun x hx => HDV.out x (by rw [← HTK.out] at hx; exact List.mem_of_mem_take hx)
            have h4 : (D.take t ++ [(d : Int)]).length ≤ 4 := by rw [List.length_append, List.length_take, HDL.out, List.length_singleton]; omega
            have hv1 : Val k (D.take t) := fun x hx => HDV.out x (List.mem_of_mem_take hx)
            obtain ⟨r1, r2, r3, r4⟩ := top_step FU.out 0 (by omega) (by omega) (D.take t) d hv h4
            obtain ⟨r5, r6, r7, r8⟩ := top_step FU.out 1 (by omega) (by omega) (D.take t) d hv h4
            have hk1 := hav_ok 1 (by omega) (by omega) k (D.take t) W 12 FU.out hv1
            have hl4 : (D.take t).length ≤ 4 := by rw [List.length_take, HDL.out]; omega
            have hge := hav_ge 1 1 (by omega) k (D.take t) W WL.out hv1 (fun x hx => (FM.out x hx).1)
            obtain ⟨e1, e2, e3, e4⟩ := chk_fine WL.out kp k5 (fun x hx => by have := FM.out x hx; omega) hdk
            obtain ⟨e5, e6, e7, -⟩ := chk_fine (h := hav 1 W (D.take t)) hk1.len kp k5 (fun x hx => ⟨hge x hx, by have := (hk1.bd x hx).2; omega⟩) hdk
            have hlh : (hav 1 W (D.take t)).length = k := hk1.len
            have hub : 0 ≤ nth (hav 1 W (D.take t)) d ∧ nth (hav 1 W (D.take t)) d ≤ 60 := by have := hk1.nth d hdk; omega
            have hhs : (hav 1 W (D.take t)).set d (nth (hav 1 W (D.take t)) d + 1) = hav 1 W (D.take (t + 1)) := by rw [HTK.out, hav_snoc, Int.toNat_natCast]
            rw [hav_zero] at r2 r3
            rw [← HTK.out] at r3 r4 r7 r8
            rw [HXY.out.1, HXY.out.2.1] at r1 r3
            rw [HXY.out.2.2.1, HXY.out.2.2.2] at r5 r7
            obtain ⟨p1, hp1⟩ : ∃ z, redP (nth W d) (usum W) = z := ⟨_, rfl⟩
            obtain ⟨q1, hq1⟩ : ∃ z, redQ (nth W d) (usum W) = z := ⟨_, rfl⟩
            have R1 : Hid (RedIs (wtL W (2 ^ d)) (isum W) p1 q1) := Lib.hid (by rw [e2, e3]; exact ⟨hp1, hq1⟩)
            rw [hp1, hq1] at r2 r3
            obtain ⟨H, hH⟩ : ∃ H, hav 1 W (D.take t) = H := ⟨_, rfl⟩
            rw [hH] at e5 e6 e7 hlh hub hhs r6 r7
            obtain ⟨p2, hp2⟩ : ∃ z, redP (nth H d) (usum H) = z := ⟨_, rfl⟩
            obtain ⟨q2, hq2⟩ : ∃ z, redQ (nth H d) (usum H) = z := ⟨_, rfl⟩
            have R2 : Hid (RedIs (wtL H (2 ^ d)) (isum H) p2 q2) := Lib.hid (by rw [e6, e7]; exact ⟨hp2, hq2⟩)
            rw [hp2, hq2] at r6 r7
            obtain ⟨Z1, hZ1⟩ : ∃ z, redP (exN 0 W (D.take (t + 1))) (exD 0 W (D.take (t + 1))) = z := ⟨_, rfl⟩
            obtain ⟨Z2, hZ2⟩ : ∃ z, redQ (exN 0 W (D.take (t + 1))) (exD 0 W (D.take (t + 1))) = z := ⟨_, rfl⟩
            obtain ⟨Z3, hZ3⟩ : ∃ z, redP (exN 1 W (D.take (t + 1))) (exD 1 W (D.take (t + 1))) = z := ⟨_, rfl⟩
            obtain ⟨Z4, hZ4⟩ : ∃ z, redQ (exN 1 W (D.take (t + 1))) (exD 1 W (D.take (t + 1))) = z := ⟨_, rfl⟩
            rw [hZ1, hZ2] at r3 r4
            rw [hZ3, hZ4] at r7 r8
            have HZ := Lib.hid (And.intro hZ1 (And.intro hZ2 (And.intro hZ3 hZ4)))
            obtain ⟨u, hu⟩ : ∃ u, nth H d = u := ⟨_, rfl⟩
            rw [hu] at hub hhs
            obtain ⟨u1, u2⟩ := hub
            have HH := Lib.hid hH; have HUU := Lib.hid hu; have HLH := Lib.hid hlh; have HHS := Lib.hid hhs
            have E1 := Lib.hid e1; have E5 := Lib.hid e5; have E4 := Lib.hid e4
            have T1 := Lib.hid r1; have T2 := Lib.hid r2; have T3 := Lib.hid r3; have T4 := Lib.hid r4; have T5 := Lib.hid r5; have T6 := Lib.hid r6; have T7 := Lib.hid r7; have T8 := Lib.hid r8
            have WX := Lib.hid (shl16 d (by omega))
            have F8 := HF8.out
            rw [hH] at F8
            clear hv h4 hv1 hk1 hl4 hge e1 e2 e3 e4 e5 e6 e7 hlh hhs r1 r2 r3 r4 r5 r6 r7 r8 hp1 hq1 hp2 hq2 hH hu hZ1 hZ2 hZ3 hZ4 c1 f1
            rw [WX.out]
            refine (evChance W k _ _ (2 ^ d) _ (F8.get 1 rfl) WL.out E4.out p1 q1 E1.out R1.out).mono ?_; rintro e w6 ⟨rfl, hb⟩
            have F9 := (F8.keep hb).rat p1 q1
            obtain ⟨_, e, _, c1, -⟩ := F9.tail.openI t (by rw [HMML.out]; exact htm)
            cases e
            have c1' : (w6.alloc (.cells #[.int .i64 p1, .int .i64 q1] 25)).cell? ⟨G2, t, none⟩ = some (.int .i64 (d : Int)) := c1.trans (by rw [HPT.out])
            clear F8 hb c1
            go_wp2_with fail
            rw [WX.out]
            refine (evChance H k _ _ (2 ^ d) _ (F9.get 3 rfl) HLH.out E4.out p2 q2 E5.out R2.out).mono ?_; rintro e w7 ⟨rfl, hb⟩
            have F10 := (F9.keep hb).rat p2 q2
            clear F9 hb c1'
            obtain ⟨a0, a1', a2', -⟩ := F10.ratAt 6 rfl
            obtain ⟨x0, x1', x2', -⟩ := F10.ratAt 1 rfl
            have HF10 := Lib.hid F10
            clear F10
            go_wp2_with fail
            refine (mul_fits X1 Y1 p1 q1 Z1 Z2 _ T1.out T2.out T3.out T4.out).mono ?_; rintro e w8 ⟨rfl, hb⟩
            have K11 := HF10.out.keep hb
            obtain ⟨-, -, lA8, -⟩ := K11.ratAt 6 rfl
            obtain ⟨-, -, lB8, -⟩ := K11.ratAt 5 rfl
            have nA8 : w8.heap.size ≠ A := by omega
            have nA8' : A ≠ w8.heap.size := by omega
            have nB8 : w8.heap.size ≠ B := by omega
            have nB8' : B ≠ w8.heap.size := by omega
            have F11 := K11.rat Z1 Z2
            clear K11 lA8 lB8
            clear hb a0 a1' a2' x0 x1' x2'
            obtain ⟨a0, a1', a2', -⟩ := F11.ratAt 6 rfl
            obtain ⟨x0, x1', x2', -⟩ := F11.ratAt 1 rfl
            have HF11 := Lib.hid F11
            clear F11
            go_wp2_with fail
            refine (mul_fits X2 Y2 p2 q2 Z3 Z4 _ T5.out T6.out T7.out T8.out).mono ?_; rintro e w9 ⟨rfl, hb⟩
            have K12 := HF11.out.keep hb
            obtain ⟨-, -, lA9, -⟩ := K12.ratAt 7 rfl
            obtain ⟨-, -, lB9, -⟩ := K12.ratAt 6 rfl
            have nA9 : w9.heap.size ≠ A := by omega
            have nA9' : A ≠ w9.heap.size := by omega
            have nB9 : w9.heap.size ≠ B := by omega
            have nB9' : B ≠ w9.heap.size := by omega
            have F12 := K12.rat' Z3 Z4 w9.heap.size rfl
            clear K12 lA9 lB9
            clear hb a0 a1' a2' x0 x1' x2'
            have HF12 := Lib.hid F12
            clear F12
            go_wp2_with fail
            refine (goodT 4 _ (w9.heap.size + 1) _ (by simp) #[.int .i64 0, .int .i64 0, .int .i64 0, .int .i64 0] rfl (by omega)).mono ?_; rintro e w' ⟨rfl, rfl⟩
            have F13 := HF12.out.alloc (.cells #[.int .i64 0, .int .i64 0, .int .i64 0, .int .i64 0] 26)
            obtain ⟨t0, t1, t2, -⟩ := F13.ratAt 0 rfl
            obtain ⟨s0, s1, s2, -⟩ := F13.ratAt 1 rfl
            obtain ⟨a0, a1', a2', a3', a4, a5⟩ := F13.ratAt 8 rfl
            obtain ⟨x0, x1', x2', x3, x4, x5⟩ := F13.ratAt 7 rfl
            have F14 := (F13.tail.tail.tail.tail.perm (M := [eR B X2 Y2, eR A X1 Y1, rawE (some ⟨G2, 0, .none⟩) m cp2 (P (t + 1)), rawE (some ⟨G1, 0, .none⟩) k cp1 W, rawE (some ⟨M, 0, .none⟩) k cp5 H]) (List.perm_append_comm (l₁ := [rawE (some ⟨G2, 0, .none⟩) m cp2 (P (t + 1)), rawE (some ⟨G1, 0, .none⟩) k cp1 W, rawE (some ⟨M, 0, .none⟩) k cp5 H]) (l₂ := [eR B X2 Y2, eR A X1 Y1])))
            have F15 := (((F14.swap.ratPut Z1 Z2).swap.ratPut Z3 Z4).drew).perm (M := [rawE (some ⟨M, 0, .none⟩) k cp5 H, eR B Z3 Z4, eR A Z1 Z2, rawE (some ⟨G2, 0, .none⟩) m cp2 (P (t + 1)), rawE (some ⟨G1, 0, .none⟩) k cp1 W]) (List.perm_append_comm (l₁ := [eR B Z3 Z4, eR A Z1 Z2, rawE (some ⟨G2, 0, .none⟩) m cp2 (P (t + 1)), rawE (some ⟨G1, 0, .none⟩) k cp1 W]) (l₂ := [rawE (some ⟨M, 0, .none⟩) k cp5 H]))
            have HF15 := Lib.hid F15
            clear F13 F14 F15
            go_wp2_with fail
            go_region
            obtain ⟨_, e, _, c8, f8⟩ := HF15.out.openI d (by rw [HLH.out]; exact hdk)
            cases e
            rw [HUU.out] at c8
            obtain ⟨_, _, e, _, c9⟩ := (HF15.out.get 3 rfl).int t (by rw [HMML.out]; exact htm)
            cases e
            rw [HPT.out, Nat.zero_add] at c9
            have F16 := HF15.out.setInt d (u + 1)
            rw [HHS.out] at F16
            have F17 := F16.perm (M := [rawE (some ⟨G2, 0, .none⟩) m cp2 (P (t + 1)), rawE (some ⟨G1, 0, .none⟩) k cp1 W, rawE (some ⟨M, 0, .none⟩) k cp5 (hav 1 W (D.take (t + 1))), eR B Z3 Z4, eR A Z1 Z2]) (List.perm_append_comm (l₁ := [rawE (some ⟨M, 0, .none⟩) k cp5 (hav 1 W (D.take (t + 1))), eR B Z3 Z4, eR A Z1 Z2]) (l₂ := [rawE (some ⟨G2, 0, .none⟩) m cp2 (P (t + 1)), rawE (some ⟨G1, 0, .none⟩) k cp1 W]))
            have HF17 := Lib.hid F17
            have d3 : (0 : Int) ≤ (d : Int) := by omega
            have d4 : (d : Int) < (k : Int) := by omega
            clear F16 F17 t0 t1 t2 s0 s1 s2 a0 a1' a2' a3' a4 a5 x0 x1' x2' x3 x4 x5
            go_wp2_with fail
            exact ⟨⟨t + 1, Z1, Z2, Z3, Z4, by omega, by simp, HZ, HF17.out⟩, by simp only [intOf]; omega⟩
          · obtain rfl : t = m := by omega
            have hDt : D.take t = D := List.take_of_length_le (by rw [HDL.out]; exact Nat.le_refl _)
            have hxy := HXY.out
            rw [hDt] at hxy hfr
            rw [HPM.out] at hfr
            have U1 : urnL W 0 D = (X1, Y1, 0) := by
              rw [urnL_small W k 0 D FC.out FU.out (by omega) (by omega) HDV.out (by rw [HDL.out]; omega), hxy.1, hxy.2.1]
            have U2 : urnL W 1 D = (X2, Y2, 0) := by
              rw [urnL_small W k 1 D FC1.out FU.out (by omega) (by omega) HDV.out (by rw [HDL.out]; omega), hxy.2.2.1, hxy.2.2.2]
            have HU1 := Lib.hid U1; have HU2 := Lib.hid U2
            have HAF := Lib.hid (aft_fine FU.out FC1.out HDV.out (by rw [HDL.out]; omega) FM.out)
            have HHL : Hid ((hav 1 W D).length = k) := Lib.hid (hav_ok 1 (by omega) (by omega) k D W 12 FU.out HDV.out).len
            have HF := Lib.hid hfr
            clear hfr U1 U2 hxy hDt
            go_wp2_with fail
            refine (urnChance W k _ _ 0 D t _ _ _ (HF.out.get 1 rfl) WL.out (HF.out.get 0 rfl) HDL.out).mono ?_; rintro e w6 ⟨rfl, hb⟩
            rw [HU1.out]
            have G1F := Lib.hid ((HF.out.keep hb).rat X1 Y1)
            clear hb
            go_wp2_with fail
            refine (urnChance W k _ _ 1 D t _ _ _ (G1F.out.get 2 rfl) WL.out (G1F.out.get 1 rfl) HDL.out).mono ?_; rintro e w7 ⟨rfl, hb⟩
            rw [HU2.out]
            have G2F := Lib.hid ((G1F.out.keep hb).rat X2 Y2)
            clear hb
            go_wp2_with fail
            refine (urnAfter W k _ _ 1 D t _ _ _ (G2F.out.get 3 rfl) WL.out (G2F.out.get 2 rfl) HDL.out).mono ?_; rintro e w8 ⟨ad8, k8, cp8, rfl, hl8, hf⟩
            rw [HAF.out] at hl8 hf ⊢
            have G3F := Lib.hid (G2F.out.call hf)
            clear hf
            go_wp2_with fail
            refine (goodT 3 _ w8.heap.size _ rfl #[.int .i64 0, .int .i64 0, .int .i64 0] rfl (by omega)).mono ?_; rintro e w' ⟨rfl, rfl⟩
            have G4 := G3F.out.alloc (.cells #[.int .i64 0, .int .i64 0, .int .i64 0] 26)
            obtain ⟨t0, t1, t2, -⟩ := G4.ratAt 1 rfl
            obtain ⟨s0, s1, s2, -⟩ := G4.ratAt 2 rfl
            obtain ⟨x0, x1', x2', -⟩ := G4.ratAt 6 rfl
            obtain ⟨a0, a1', a2', -⟩ := G4.ratAt 7 rfl
            have HG4 := Lib.hid G4
            clear G4
            go_wp2_with fail
            refine (slEqual (hav 1 W D) (hav 1 W D) k8 k _ _ _ _ _ (HG4.out.get 0 rfl) (HG4.out.get 5 rfl) hl8 HHL.out (by rw [← hl8, HHL.out]; omega) (by omega)).mono ?_; rintro e w9 ⟨rfl, hf⟩
            have G5 := Lib.hid (HG4.out.keep hf.bel)
            clear hf
            go_wp2_with fail
            go_ret
            exact ⟨by simp, G5.out.bel⟩
end Go.Proofs.Ytghobphnjfgjeaa
