/- The walks of the laws UrnLaplace and UrnSame. -/
import Derived.Test.YtghobphnjfgjeaaUrn3
import Derived.Test.YtghobphnjfgjeaaUrnM2
import Derived.Test.YtghobphnjfgjeaaSub1
namespace Go.Proofs.Ytghobphnjfgjeaa
open Go.RowKit

/-! UrnLaplace -/
def lapB (l : List Int) : Bool := urnL [1, 1] 1 l == (1, ((chN l.length (usum l).toNat * (l.length + 1) : Nat) : Int), 0) && decide (chN l.length (usum l).toNat ≤ 1000)
theorem lap_all : ∀ n, n < 9 → (allB n).all lapB = true := by decide +kernel
def bits (l : List Int) : List Int := (l.take 8).map (fun x => x % 2)
theorem bits_ok (l : List Int) : (bits l).length ≤ 8 ∧ ∀ x ∈ bits l, x = 0 ∨ x = 1 := by
  unfold bits
  refine ⟨by simp; omega, fun x hx => ?_⟩
  obtain ⟨y, _, rfl⟩ := List.mem_map.1 hx
  omega
theorem lap_math (l : List Int) : urnL [1, 1] 1 (bits l) = (1, ((chN (bits l).length (usum (bits l)).toNat * ((bits l).length + 1) : Nat) : Int), 0) ∧ chN (bits l).length (usum (bits l)).toNat ≤ 1000 := by
  obtain ⟨h1, h2⟩ := bits_ok l
  have h3 := List.all_eq_true.1 (lap_all (bits l).length (by omega)) _ (allB_mem _ h2)
  unfold lapB at h3
  simp only [Bool.and_eq_true, beq_iff_eq, decide_eq_true_eq] at h3
  exact h3

set_option maxRecDepth 100000 in
set_option maxHeartbeats 4000000 in
theorem urnLaplace_any (l : List Int) (n : Nat) (a : Option Addr) (cap : Nat) (w : World) (h : Sa w a (ints l)) (hn : l.length = n) (hc : n ≤ cap) (hm : n ≤ maxLen) :
    Calls Try.prog 8 #[.slice a n cap] w fun e w' => e = .returned (.bool true) ∧ Below w.heap.size w w' := by
  unfold maxLen at hm
  obtain ⟨m, m1, m2, m3⟩ : ∃ m : Nat, m ≤ n ∧ (m : Int) ≤ 8 ∧ (m = n ∨ (m : Int) = 8) := ⟨min n 8, by omega, by omega, by omega⟩
  have HMIN := Lib.hid (run_min2 #[3, 3] 3 n 8 m m1 m2 m3)
  have HN := Lib.hid hn; have HS := Lib.hid h
  have HM : Hid ((bits l).length = m) := Lib.hid (by unfold bits; simp; omega)
  have HB := Lib.hid (bits_ok l).2
  obtain ⟨l1, l2⟩ := lap_math l
  have hge : 0 ≤ usum (bits l) ∧ usum (bits l) ≤ 8 := by
    have := usum_bd (bits l) 1 (fun x hx => by have := (bits_ok l).2 x hx; omega)
    have := (bits_ok l).1; omega
  obtain ⟨ones, hones⟩ : ∃ o : Nat, usum (bits l) = o := ⟨(usum (bits l)).toNat, by omega⟩
  rw [hones, Int.toNat_natCast, HM.out] at l1 l2
  rw [hones] at hge
  have on8 : ones ≤ 8 := by omega
  have HO := Lib.hid hones; have L1 := Lib.hid l1
  obtain ⟨C, hC⟩ : ∃ C, chN m ones = C := ⟨_, rfl⟩
  rw [hC] at l2 L1
  have HC := Lib.hid hC
  have m8 : m ≤ 8 := by omega
  have q1 : C * (m + 1) ≤ 1000 * 9 := Nat.mul_le_mul l2 (by omega)
  have P : (C : Int) * ((m : Int) + 1) = ((C * (m + 1) : Nat) : Int) := by rw [Int.natCast_mul, Int.natCast_add]; rfl
  obtain ⟨Q, hQ⟩ : ∃ Q, C * (m + 1) = Q := ⟨_, rfl⟩
  rw [hQ] at q1 P L1
  have HBT : Hid (∀ k, k < m → (bits l).take (k + 1) = (bits l).take k ++ [nth l k % 2]) := Lib.hid fun k hk => by
    rw [take_nth (bits l) k (by rw [HM.out]; exact hk)]
    congr 2
    unfold bits
    rw [nth_map _ _ _ (by rw [List.length_take]; omega), nth_take _ _ _ (by omega)]
  have b1 : (m : Int) ≤ (cap : Int) := by omega
  have HP := Lib.hid P
  clear hn h m3 hones l1 hC hge hQ P
  go_enter Try.func8, Try.ntmps8
  have hmin := HMIN.out
  go_wp2_with fail
  refine (urns_any _).mono ?_; rintro e w1 ⟨rfl, hb⟩
  have F1 := (Fr.start w).keep hb
  clear hb
  go_wp2_with fail
  clear hmin
  go_loopw [3, 4, 19] (fun o c i wr => ∃ (k : Nat) (ad : Option Addr) (cp : Nat), k ≤ m ∧ i = .int .i64 k ∧ o = .slice ad k cp ∧ c = .int .i64 (usum ((bits l).take k)) ∧ Fr w wr [⟨3, .slice ad k cp, ints ((bits l).take k)⟩]) (fun _ _ i _ => m - (intOf i).toNat)
  case atStart => exact ⟨0, none, 0, by omega, rfl, rfl, rfl, F1.nilSlice _⟩
  case round =>
    obtain ⟨k, ad, cp, hk, rfl, rfl, rfl, hfr⟩ := hrel
    clear F1
    have ub := usum_bd ((bits l).take k) 1 (fun x hx => by have := HB.out x (List.mem_of_mem_take hx); omega)
    have ul : ((bits l).take k).length ≤ 8 := by rw [List.length_take]; omega
    obtain ⟨U, hU⟩ : ∃ U, usum ((bits l).take k) = U := ⟨_, rfl⟩
    rw [hU] at ub
    have HU := Lib.hid hU
    have u1 : 0 ≤ U := ub.1
    have u2 : U ≤ 8 := by omega
    rw [hU]
    clear ub ul hU
    by_cases hlt : k < m
    · obtain ⟨b, off, rfl, hb, hc⟩ := (hfr.old HS.out).int k (by rw [HN.out]; omega)
      have hs := Lib.hid (HBT.out k hlt)
      obtain ⟨x, hx⟩ : ∃ x, nth l k = x := ⟨_, rfl⟩
      rw [hx] at hc hs
      have HT : Hid (usum ((bits l).take (k + 1)) = U + x % 2) := Lib.hid (by rw [hs.out, usum_snoc, HU.out])
      have HF := Lib.hid hfr
      clear hx hfr
      have d1 : (0 : Int) ≤ (k : Int) := by omega
      have d2 : (k : Int) < (m : Int) := by omega
      have e1 := Int.emod_nonneg x (b := 2) (by omega)
      have e2 := Int.emod_lt_of_pos x (b := 2) (by omega)
      obtain ⟨y, hy⟩ : ∃ y, x % 2 = y := ⟨_, rfl⟩
      rw [hy] at e1 e2 HT hs
      have HY := Lib.hid hy
      clear hy
      go_wp2_with (first
        | (go_at_call 17; refine (within_any _ _ _ (by omega) (by omega)).mono ?_; rintro e w' ⟨rfl, rfl⟩; rw [HY.out])
        | (with_reducible refine at_slot 27 ?_; go_must (refine wpList_pushInt rfl _ _ rfl ad k cp _ y _ rfl HF.out rfl ?_ ?_); rotate_left; intro ad' cp' w2 hf2 hlt2))
      · rw [← hs.out] at hf2
        exact ⟨⟨k + 1, ad', cp', by omega, by simp, rfl, by rw [HT.out], hf2⟩, by simp only [intOf]; omega⟩
      · omega
    · obtain rfl : k = m := by omega
      have eU : U = ones := by rw [← HU.out, List.take_of_length_le (by rw [HM.out]; omega), HO.out]
      subst eU
      rw [List.take_of_length_le (by rw [HM.out]; omega)] at hfr
      have F2 := hfr.lit [1, 1] #[.int .i64 1, .int .i64 1] rfl 2 rfl (by omega) 3
      clear hfr
      go_wp2_with fail
      refine (urnChance [1, 1] 2 _ _ 1 (bits l) k _ _ _ (F2.get 0 rfl) rfl (F2.get 1 rfl) HM.out).mono ?_; rintro e w3 ⟨rfl, hb⟩
      rw [L1.out]
      have F3 := (F2.keep hb).rat 1 Q
      clear F2 hb
      go_wp2_with fail
      refine (Choose_nat k ones _ (by omega) (by omega)).mono ?_; rintro e w' ⟨rfl, rfl⟩
      rw [HC.out]
      go_wp2_with fail
      refine (good2b _ (w3.heap.size + 1) _ (by simp)).mono ?_; rintro e w' ⟨rfl, rfl⟩
      have F4 := F3.alloc (.cells #[.int .i64 0, .int .i64 0] 26)
      obtain ⟨c0, c1, c2, -⟩ := F4.ratAt 0 rfl
      have P := HP.out
      go_wp2_with fail
      go_ret
      exact ⟨rfl, F4.bel⟩

/-! UrnSame -/
theorem val1 {n K : Nat} (h : K < n) : Val n [(K : Int)] := fun x hx => by rw [List.mem_singleton] at hx; omega
theorem val2 {n K t : Nat} (h : K < n) (ht : t < n) : Val n [(t : Int), (K : Int)] := fun x hx => by
  rcases List.mem_cons.1 hx with rfl | hx
  · omega
  · rw [List.mem_singleton] at hx; omega
theorem exD2 {l : List Int} {n : Nat} {B : Int} (hu : UOk l n B) (m : Int) (t K : Nat) (ht : t < n) : exD m l [(t : Int), (K : Int)] = usum l * (usum l + m) := by
  rw [exD, exD, exD, Int.toNat_natCast, usum_more, if_pos (by rw [hu.len]; exact ht), Int.mul_one]
theorem urnL_small (l : List Int) (n : Nat) (more : Int) (ds : List Int) (hc : urnChk l more = 0) (hu : UOk l n 12) (h0 : 0 ≤ more) (h12 : more ≤ 12) (hv : Val n ds) (h4 : ds.length ≤ 4) :
    urnL l more ds = (redP (exN more l ds) (exD more l ds), redQ (exN more l ds) (exD more l ds), 0) := by
  unfold urnL
  rw [if_neg (by omega), if_neg (by omega)]
  exact chn_small more h0 h12 n l ds hu hv h4
/-- the sum over the first draw is the second draw's own chance -/
theorem same_math {l : List Int} {n : Nat} (hu : UOk l n 12) (m : Int) (h0 : 0 ≤ m) (K : Nat) (hK : K < n) :
    redP (samS m l [(K : Int)] n) (usum l * (usum l + m)) = redP (exN m l [(K : Int)]) (exD m l [(K : Int)]) ∧ redQ (samS m l [(K : Int)] n) (usum l * (usum l + m)) = redQ (exN m l [(K : Int)]) (exD m l [(K : Int)]) := by
  have hp := hu.pos
  rw [sam_total m l K (by rw [hu.len]; exact hK) n (by rw [hu.len]; exact Nat.le_refl _), if_pos hK, List.take_of_length_le (by rw [hu.len]; exact Nat.le_refl _)]
  simp only [exN, exD, Int.toNat_natCast, Int.mul_one]
  refine red_eq (Int.mul_pos hp (by omega)) hp ?_
  unfold Eqv
  generalize nth l K = x
  generalize usum l = S
  grind

set_option maxRecDepth 100000 in
set_option maxHeartbeats 4000000 in
theorem urnSame_any (l : List Int) (n : Nat) (a : Option Addr) (ca : Nat) (more k0 : Int) (w : World) (h : Sa w a (ints l)) (hn : l.length = n) (hm : n ≤ maxLen) :
    Calls Try.prog 7 #[.slice a n ca, .int .i64 more, .int .i64 k0] w fun e w' => e = .returned (.bool true) ∧ Below w.heap.size w w' := by
  have HN := Lib.hid hn; have HS := Lib.hid h
  clear h
  by_cases hc : urnChk l more ≠ 0
  · obtain ⟨er, her⟩ : ∃ er, urnChk l more = er := ⟨_, rfl⟩
    rw [her] at hc
    have HE := Lib.hid her
    have z : (er != 0) = true := bne_iff_ne.2 hc
    clear her hc hn
    go_enter Try.func7, Try.ntmps7
    go_wp2_with fail
    refine (urns_any _).mono ?_; rintro e w1 ⟨rfl, hb⟩
    have F1 := (Fr.start w).keep hb
    clear hb
    go_wp2_with fail
    refine (ratios_any _).mono ?_; rintro e w2 ⟨rfl, hb⟩
    replace F1 := F1.keep hb
    clear hb
    go_wp2_with fail
    refine (urnCheck l n _ _ more _ (F1.old HS.out) HN.out).mono ?_; rintro e w' ⟨rfl, rfl⟩
    rw [HE.out]
    go_wp2_with fail
    go_ret
    exact ⟨rfl, F1.bel⟩
  · have hc : urnChk l more = 0 := by omega
    obtain ⟨ok, mo1, mo2⟩ := urnChk_ok hc
    rw [hn] at ok
    have OK := Lib.hid ok
    have n1 := ok.n1
    have n5 := ok.n5
    have z0 : ((n : Int) == 0) = false := beq_eq_false_iff_ne.2 (by omega)
    obtain ⟨K, hK, hKn⟩ : ∃ K : Nat, k0 % (n : Int) = K ∧ K < n := ⟨(k0 % (n : Int)).toNat, by have := Int.emod_nonneg k0 (b := (n : Int)) (by omega); omega, by have := Int.emod_nonneg k0 (b := (n : Int)) (by omega); have := Int.emod_lt_of_pos k0 (b := (n : Int)) (by omega); omega⟩
    have HK := Lib.hid hK
    have D0 := exD_small more mo1 mo2 n l [((0 : Nat) : Int), (K : Int)] ok (val2 hKn (by omega)) (by simp)
    rw [exD2 ok more 0 K (by omega)] at D0
    have SB := sam_bd more mo1 mo2 n l ok [(K : Int)] (val1 hKn) (usum l * (usum l + more)) (fun t ht => exD2 ok more t K ht)
    have U1 := urnL_small l n more [(K : Int)] hc ok mo1 mo2 (val1 hKn) (by simp)
    have U2 : ∀ t : Nat, t < n → urnL l more [(t : Int), (K : Int)] = (redP (exN more l [(t : Int), (K : Int)]) (usum l * (usum l + more)), redQ (exN more l [(t : Int), (K : Int)]) (usum l * (usum l + more)), 0) := fun t ht => by
      rw [urnL_small l n more [(t : Int), (K : Int)] hc ok mo1 mo2 (val2 hKn ht) (by simp), exD2 ok more t K ht]
    have NB : ∀ t : Nat, t < n → 0 ≤ exN more l [(t : Int), (K : Int)] ∧ exN more l [(t : Int), (K : Int)] ≤ usum l * (usum l + more) := fun t ht => by
      have := exN_bd more mo1 mo2 n _ l 12 ok (val2 hKn ht)
      rw [exD2 ok more t K ht] at this
      exact this
    obtain ⟨M1, M2⟩ := same_math ok more mo1 K hKn
    have ST : ∀ t, samS more l [(K : Int)] (t + 1) = samS more l [(K : Int)] t + exN more l [(t : Int), (K : Int)] := fun _ => rfl
    have S0 : samS more l [(K : Int)] 0 = 0 := rfl
    generalize usum l * (usum l + more) = D at *
    obtain ⟨x1, hx1⟩ : ∃ z, redP (exN more l [(K : Int)]) (exD more l [(K : Int)]) = z := ⟨_, rfl⟩
    obtain ⟨x2, hx2⟩ : ∃ z, redQ (exN more l [(K : Int)]) (exD more l [(K : Int)]) = z := ⟨_, rfl⟩
    rw [hx1, hx2] at U1
    rw [hx1] at M1
    rw [hx2] at M2
    have HC := Lib.hid hc; have HU1 := Lib.hid U1; have HU2 := Lib.hid U2; have HNB := Lib.hid NB; have HM1 := Lib.hid M1; have HM2 := Lib.hid M2; have HST := Lib.hid ST; have HSB := Lib.hid SB; have HS0 := Lib.hid S0
    obtain ⟨D1, D2⟩ := D0
    have RZ := Lib.hid (red_zero D D1)
    clear hK ok U1 U2 NB M1 M2 ST SB hx1 hx2 hc hn S0
    go_enter Try.func7, Try.ntmps7
    go_wp2_with fail
    refine (urns_any _).mono ?_; rintro e w1 ⟨rfl, hb⟩
    have F1 := (Fr.start w).keep hb
    clear hb
    go_wp2_with fail
    refine (ratios_any _).mono ?_; rintro e w2 ⟨rfl, hb⟩
    replace F1 := F1.keep hb
    clear hb
    go_wp2_with fail
    refine (urnCheck l n _ _ more _ (F1.old HS.out) HN.out).mono ?_; rintro e w' ⟨rfl, rfl⟩
    rw [HC.out]
    go_wp2_with fail
    refine (within_any _ _ _ (by omega) (by omega)).mono ?_; rintro e w' ⟨rfl, rfl⟩
    rw [HK.out]
    go_wp2_with fail
    have F2 := F1.lit [(K : Int)] #[.int .i64 (K : Int)] rfl 1 rfl (by omega) 3
    refine (urnChance l n _ _ more [(K : Int)] 1 _ _ _ (F2.old HS.out) HN.out (F2.get 0 rfl) rfl).mono ?_; rintro e w3 ⟨rfl, hb⟩
    rw [HU1.out]
    have F3 := ((F2.tail.keep hb).rat x1 x2).rat' 0 1 (w3.heap.size + 1) (by simp)
    clear F1 F2 hb
    go_wp2_with fail
    obtain ⟨A, hA⟩ : ∃ A, w3.heap.size = A := ⟨_, rfl⟩
    rw [hA] at F3 ⊢
    obtain ⟨B, hB⟩ : ∃ B, A + 1 = B := ⟨_, rfl⟩
    rw [hB] at F3 ⊢
    go_loopw [45] (fun i wr => ∃ (t : Nat) (X Y : Int), t ≤ n ∧ i = .int .i64 t ∧ Hid (redP (samS more l [(K : Int)] t) D = X ∧ redQ (samS more l [(K : Int)] t) D = Y) ∧ Fr w wr [eR B X Y, eR A x1 x2]) (fun i _ => n - (intOf i).toNat)
    case atStart => exact ⟨0, 0, 1, by omega, rfl, Lib.hid (by rw [HS0.out]; exact RZ.out), F3⟩
    case round =>
      obtain ⟨t, X, Y, ht, rfl, HXY, hfr⟩ := hrel
      clear F3 hA hB
      by_cases hlt : t < n
      · have sb := HSB.out t ht
        have sb2 := HSB.out (t + 1) hlt
        have nb := HNB.out t hlt
        have tD : (t : Int) * D ≤ 5 * D := Int.mul_le_mul_of_nonneg_right (by omega) (by omega)
        have tD2 : ((t + 1 : Nat) : Int) * D ≤ 5 * D := Int.mul_le_mul_of_nonneg_right (by omega) (by omega)
        have r1 := red_rat (samS more l [(K : Int)] t) D (by omega) (by omega)
        have r2 := red_rat (exN more l [(t : Int), (K : Int)]) D (by omega) (by omega)
        have r3 := red_rat (samS more l [(K : Int)] (t + 1)) D (by omega) (by omega)
        have ra := red_add (samS more l [(K : Int)] t) (exN more l [(t : Int), (K : Int)]) D D1
        rw [← HST.out] at ra
        have u2 := HU2.out t hlt
        rw [HXY.out.1, HXY.out.2] at r1 ra
        obtain ⟨X2, hX2⟩ : ∃ z, redP (samS more l [(K : Int)] (t + 1)) D = z := ⟨_, rfl⟩
        obtain ⟨Y2, hY2⟩ : ∃ z, redQ (samS more l [(K : Int)] (t + 1)) D = z := ⟨_, rfl⟩
        obtain ⟨p, hp⟩ : ∃ z, redP (exN more l [(t : Int), (K : Int)]) D = z := ⟨_, rfl⟩
        obtain ⟨q, hq⟩ : ∃ z, redQ (exN more l [(t : Int), (K : Int)]) D = z := ⟨_, rfl⟩
        rw [hX2, hY2] at r3 ra
        rw [hp, hq] at r2 ra u2
        have R1 := Lib.hid r1; have R2 := Lib.hid r2; have R3 := Lib.hid r3; have RA := Lib.hid ra; have UU := Lib.hid u2
        have HXY2 := Lib.hid (And.intro hX2 hY2)
        have F4 := hfr.lit [(t : Int), (K : Int)] #[.int .i64 (t : Int), .int .i64 (K : Int)] rfl 2 rfl (by omega) 3
        clear sb sb2 nb tD tD2 r1 r2 r3 ra u2 hX2 hY2 hp hq hfr
        go_wp2_with fail
        refine (urnChance l n _ _ more [(t : Int), (K : Int)] 2 _ _ _ (F4.old HS.out) HN.out (F4.get 0 rfl) rfl).mono ?_; rintro e w4 ⟨rfl, hb⟩
        rw [UU.out]
        have F5 := (F4.tail.keep hb).rat p q
        clear F4 hb
        obtain ⟨c0, c1, c2, -⟩ := F5.ratAt 0 rfl
        obtain ⟨g0, g1, g2, -⟩ := F5.ratAt 1 rfl
        go_wp2_with fail
        refine (add_fits X Y p q X2 Y2 _ R1.out R2.out RA.out R3.out).mono ?_; rintro e w5 ⟨rfl, hb⟩
        have F6 := (F5.tail.keep hb).rat X2 Y2
        clear F5 hb c0 c1 c2 g0 g1 g2
        go_wp2_with fail
        refine (good2b _ (w5.heap.size + 1) _ (by simp)).mono ?_; rintro e w' ⟨rfl, rfl⟩
        have F7 := F6.alloc (.cells #[.int .i64 0, .int .i64 0] 26)
        obtain ⟨c0, c1, c2, c3, c4, c5⟩ := F7.ratAt 0 rfl
        obtain ⟨g0, g1, g2, g3, g4, g5⟩ := F7.ratAt 1 rfl
        have F8 := Lib.hid (F7.tail.ratPut X2 Y2)
        clear F6 F7
        go_wp2_with fail
        exact ⟨⟨t + 1, X2, Y2, by omega, by simp, HXY2, F8.out⟩, by simp only [intOf]; omega⟩
      · obtain rfl : t = n := by omega
        obtain ⟨c0, c1, c2, -⟩ := hfr.ratAt 0 rfl
        obtain ⟨g0, g1, g2, -⟩ := hfr.ratAt 1 rfl
        have q1 : X = x1 := HXY.out.1.symm.trans HM1.out
        have q2 : Y = x2 := HXY.out.2.symm.trans HM2.out
        subst q1 q2
        have HF := Lib.hid hfr
        clear hfr
        go_wp2_with fail
        go_ret
        exact ⟨by simp, HF.out.bel⟩
end Go.Proofs.Ytghobphnjfgjeaa
