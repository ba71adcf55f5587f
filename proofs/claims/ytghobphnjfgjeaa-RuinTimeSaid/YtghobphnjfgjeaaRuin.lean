/- Contracts of ruin.power, Check, Win, Time. -/
import Derived.Test.YtghobphnjfgjeaaMathRuin
import Derived.Test.YtghobphnjfgjeaaRf
namespace Go.Proofs.Ytghobphnjfgjeaa
open Go.RowKit

theorem wrap_small (x : Int) (h : -4000000000000000000 ≤ x ∧ x ≤ 4000000000000000000) : IntKind.i64.wrap x = x := by
  rw [IntKind.wrap_i64]; omega
theorem ruinPow (x e : Nat) (w : World) (hx : x ≤ 7) (he : e ≤ 6) :
    Calls Try.prog 45 #[.int .i64 x, .int .i64 e] w fun r w' => r = .returned (.int .i64 ((x ^ e : Nat) : Int)) ∧ w = w' := by
  have HB : Hid (∀ k, k ≤ e → x ^ k ≤ 117649) := Lib.hid fun k hk => by
    have h1 : x ^ k ≤ 7 ^ k := Nat.pow_le_pow_left hx k
    have h2 : 7 ^ k ≤ 7 ^ 6 := Nat.pow_le_pow_right (by omega) (by omega)
    have e : (7 : Nat) ^ 6 = 117649 := rfl
    omega
  go_enter Try.func45, Try.ntmps45
  go_wp2_with fail
  go_loop [5, 7] (fun o i => ∃ k : Nat, k ≤ e ∧ i = .int .i64 k ∧ o = .int .i64 ((x ^ k : Nat) : Int)) (fun _ i => e - (intOf i).toNat)
  case atStart => exact ⟨0, by omega, rfl, by simp⟩
  case round =>
    obtain ⟨k, hk, rfl, rfl⟩ := hrel
    by_cases hlt : k < e
    · have b1 := HB.out k hk
      have b2 := HB.out (k + 1) hlt
      have P : ((x ^ k : Nat) : Int) * (x : Int) = ((x ^ (k + 1) : Nat) : Int) := by rw [Nat.pow_succ, Int.natCast_mul]
      obtain ⟨Y, hY⟩ : ∃ Y, x ^ (k + 1) = Y := ⟨_, rfl⟩
      have HY := Lib.hid hY
      rw [hY] at b2 P
      clear hY
      generalize x ^ k = X at *
      go_wp2_with fail
      go_round
      case rel => exact ⟨k + 1, by omega, by simp, by rw [HY.out]⟩
      case measure => simp [intOf]; omega
    · obtain rfl : k = e := by omega
      go_wp2_with fail
      go_ret
      exact ⟨rfl, rfl⟩

theorem ruinChk (a n p q : Nat) (w : World) (hn : 1 ≤ n ∧ n ≤ 12) (ha : a ≤ n) (hp : 1 ≤ p ∧ p ≤ 20) (hq : 1 ≤ q ∧ q ≤ 20) :
    Calls Try.prog 44 #[.int .i64 a, .int .i64 n, .int .i64 p, .int .i64 q] w fun r w' => r = .returned (.int .i64 0) ∧ w = w' := by
  go_enter Try.func44, Try.ntmps44
  obtain ⟨n1, n2⟩ := hn
  obtain ⟨p1, p2⟩ := hp
  obtain ⟨q1, q2⟩ := hq
  go_wp2_with fail
  go_ret
  exact ⟨rfl, rfl⟩

set_option maxRecDepth 100000 in
set_option maxHeartbeats 2000000 in
theorem ruinWin (a n p q : Nat) (w : World) (hn : 1 ≤ n ∧ n ≤ 7) (ha : a ≤ n) (hp : 1 ≤ p ∧ p ≤ 7) (hq : 1 ≤ q ∧ q ≤ 7) :
    Calls Try.prog 18 #[.int .i64 a, .int .i64 n, .int .i64 p, .int .i64 q] w fun r w' => r = .returned (.tuple #[.agg #[.int .i64 (winP a n p q), .int .i64 (winQ a n p q)], .int .i64 0]) ∧ Below w.heap.size w w' := by
  have HT : Hid (∀ k, k < n → q ^ k ≤ 117649 ∧ p ^ (n - 1 - k) ≤ 117649 ∧ q ^ k * p ^ (n - 1 - k) ≤ 117649) := Lib.hid fun k hk => geo_term p q n k hp.2 hq.2 hn.2 hk
  have HL : Hid (∀ k, k ≤ n → geo p q n k ≤ 117649 * k) := Lib.hid fun k hk => geo_le p q n k hp.2 hq.2 hn.2 hk
  have HM := Lib.hid (geo_mono p q n a n ha)
  have HP := Lib.hid (geo_pos p q n hp.1 n hn.1)
  obtain ⟨n1, n2⟩ := hn
  obtain ⟨p1, p2⟩ := hp
  obtain ⟨q1, q2⟩ := hq
  go_enter Try.func18, Try.ntmps18
  go_wp2_with fail
  refine (ruinChk a n p q _ ⟨n1, by omega⟩ ha ⟨p1, by omega⟩ ⟨q1, by omega⟩).mono ?_; rintro e w' ⟨rfl, rfl⟩
  go_wp2_with fail
  go_loop [11, 12, 27] (fun u v i => ∃ k : Nat, k ≤ n ∧ i = .int .i64 k ∧ u = .int .i64 (geo p q n (min k a) : Nat) ∧ v = .int .i64 (geo p q n k : Nat)) (fun _ _ i => n - (intOf i).toNat)
  case atStart => exact ⟨0, by omega, rfl, by simp [geo], rfl⟩
  case round =>
    obtain ⟨k, hk, rfl, rfl, rfl⟩ := hrel
    by_cases hlt : k < n
    · obtain ⟨t1, t2, t3⟩ := HT.out k hlt
      have g1 := HL.out k hk
      have g2 := HL.out (k + 1) hlt
      have g3 := geo_mono p q n (min k a) k (Nat.min_le_left _ _)
      have eA : geo p q n (k + 1) = geo p q n k + q ^ k * p ^ (n - 1 - k) := rfl
      have eU : geo p q n (min (k + 1) a) = if k < a then geo p q n (min k a) + q ^ k * p ^ (n - 1 - k) else geo p q n (min k a) := by
        by_cases h : k < a
        · rw [if_pos h, Nat.min_eq_left (by omega), Nat.min_eq_left (by omega)]; rfl
        · rw [if_neg h, Nat.min_eq_right (by omega), Nat.min_eq_right (by omega)]
      have P : ((q ^ k : Nat) : Int) * ((p ^ (n - 1 - k) : Nat) : Int) = ((q ^ k * p ^ (n - 1 - k) : Nat) : Int) := by rw [Int.natCast_mul]
      clear g2
      obtain ⟨U, hU⟩ : ∃ U, geo p q n (min k a) = U := ⟨_, rfl⟩
      obtain ⟨V, hV⟩ : ∃ V, geo p q n k = V := ⟨_, rfl⟩
      obtain ⟨X, hX⟩ : ∃ X, q ^ k = X := ⟨_, rfl⟩
      obtain ⟨Z, hZ⟩ : ∃ Z, p ^ (n - 1 - k) = Z := ⟨_, rfl⟩
      have HX := Lib.hid hX; have HZ := Lib.hid hZ; have HU := Lib.hid hU; have HV := Lib.hid hV
      rw [hX] at t1; rw [hZ] at t2
      rw [hX, hZ] at t3 P
      rw [hU, hV] at g3
      rw [hV] at g1
      rw [hV, hX, hZ] at eA
      rw [hU, hX, hZ] at eU
      obtain ⟨T, hT⟩ : ∃ T, X * Z = T := ⟨_, rfl⟩
      rw [hT] at t3 P eA eU
      have EA := Lib.hid eA; have EU := Lib.hid eU
      clear hX hZ hT eA eU
      rw [hU, hV]
      clear hU hV
      by_cases hka : k < a
      all_goals
        go_wp2_with fail
        refine (ruinPow q k _ (by omega) (by omega)).mono ?_; rintro e w' ⟨rfl, rfl⟩
        rw [HX.out]
        go_wp2_with fail
        rw [show (n : Int) - 1 - (k : Int) = ((n - 1 - k : Nat) : Int) from by omega]
        refine (ruinPow p (n - 1 - k) _ (by omega) (by omega)).mono ?_; rintro e w' ⟨rfl, rfl⟩
        rw [HZ.out]
        go_wp2_with fail
        go_round
        case rel => exact ⟨k + 1, by omega, by simp, by first | (rw [EU.out, if_pos hka]; rfl) | (rw [EU.out, if_neg hka]), by rw [EA.out]; rfl⟩
        case measure => simp [intOf]; omega
    · obtain rfl : k = n := by omega
      have h1 := HL.out k (Nat.le_refl _)
      have h2 := HM.out
      have h3 := HP.out
      rw [Nat.min_eq_right ha]
      have e3 : winP a k p q = redP (geo p q k a : Nat) (geo p q k k : Nat) := rfl
      have e4 : winQ a k p q = redQ (geo p q k a : Nat) (geo p q k k : Nat) := rfl
      obtain ⟨U, hU⟩ : ∃ U, geo p q k a = U := ⟨_, rfl⟩
      obtain ⟨V, hV⟩ : ∃ V, geo p q k k = V := ⟨_, rfl⟩
      rw [hU, hV] at h2 e3 e4 ⊢
      rw [hV] at h1 h3
      have E3 := Lib.hid e3; have E4 := Lib.hid e4
      clear e3 e4 hU hV
      go_wp2_with fail
      go_loopw [15, 16] (fun x y wr => ∃ s t : Nat, s ≤ 10000000 ∧ t ≤ 10000000 ∧ 0 < s + t ∧ Hid (Nat.gcd s t = Nat.gcd U V) ∧ x = .int .i64 s ∧ y = .int .i64 t ∧ Below (w.alloc (.cells #[.int .i64 0, .int .i64 0] 25)).heap.size (w.alloc (.cells #[.int .i64 0, .int .i64 0] 25)) wr) (fun _ y _ => (intOf y).toNat)
      case atStart => exact ⟨U, V, by omega, by omega, by omega, Lib.hid rfl, rfl, rfl, Below.refl _ _⟩
      case round =>
        obtain ⟨s, t, hs, ht, hst, hgc, rfl, rfl, hbel⟩ := hrel
        have HB := Lib.hid hbel; clear hbel
        by_cases ht0 : 0 < t
        · have hne : ((t : Int) == 0) = false := by simp; omega
          have hlt := Nat.mod_lt s ht0
          go_wp2_with fail
          go_region
          go_wp2_with fail
          go_roundw
          case rel =>
            refine ⟨t, s % t, ht, by omega, by omega, Lib.hid ?_, rfl, val_int (by simp), HB.out.drew⟩
            rw [← hgc.out, Nat.gcd_comm s t, Nat.gcd_rec t s, Nat.gcd_comm]
          case measure => simp [intOf]; omega
        · obtain rfl : t = 0 := by omega
          have hg := hgc.out
          rw [Nat.gcd_zero_right] at hg
          have sz : ((s : Int) == 0) = false := by simp; omega
          have dv : s ∣ V := by rw [hg]; exact Nat.gcd_dvd_right U V
          have du : s ∣ U := by rw [hg]; exact Nat.gcd_dvd_left U V
          have hs0 : 0 < s := by omega
          have ev : (V : Int) / (s : Int) = ((V / s : Nat) : Int) := by simp
          have eu : (U : Int) / (s : Int) = ((U / s : Nat) : Int) := by simp
          have v1 : V / s ≤ V := Nat.div_le_self V s
          have u1 : U / s ≤ U := Nat.div_le_self U s
          have v2 : 0 < V / s := Nat.div_pos (Nat.le_of_dvd h3 dv) hs0
          have hr : RedIs ((U / s : Nat) : Int) ((V / s : Nat) : Int) (winP a k p q) (winQ a k p q) := by
            rw [E3.out, E4.out]
            refine red_eq (by omega) (by omega) ?_
            unfold Eqv
            obtain ⟨X, rfl⟩ := du
            obtain ⟨Y, rfl⟩ := dv
            rw [Nat.mul_div_cancel_left _ hs0, Nat.mul_div_cancel_left _ hs0, Int.natCast_mul, Int.natCast_mul, Int.mul_left_comm, Int.mul_assoc]
          have HR := Lib.hid hr
          clear hr hg hgc dv du
          generalize V / s = Y at *
          generalize U / s = X at *
          have HB' := HB.out
          obtain ⟨WP, hWP⟩ : ∃ z, winP a k p q = z := ⟨_, rfl⟩
          obtain ⟨WQ, hWQ⟩ : ∃ z, winQ a k p q = z := ⟨_, rfl⟩
          have HWP := Lib.hid hWP; have HWQ := Lib.hid hWQ
          rw [hWP, hWQ] at HR
          have WX : Hid (IntKind.i64.wrap (X : Int) = (X : Int)) := Lib.hid (wrap_small _ (by omega))
          have WY : Hid (IntKind.i64.wrap (Y : Int) = (Y : Int)) := Lib.hid (wrap_small _ (by omega))
          clear E3 E4 hWP hWQ
          go_wp2_with fail
          go_region_with (go_at_call 19; (try rw [WX.out]); (try rw [WY.out]); refine (make_fits _ _ WP WQ _ (by omega) (by omega) HR.out).mono ?_; rintro e w3 ⟨rfl, hb⟩; obtain ⟨c0, c1, f0, f1, hz, hk⟩ := res2 (kin_trans HB.out.drew hb); have HK := Lib.hid hk; clear hk hb)
          go_wp2_with fail

          all_goals
            refine bodyPost_ret (v := .tuple #[.agg #[.int .i64 WP, .int .i64 WQ], .int .i64 0]) ?_ rfl ⟨by rw [HWP.out, HWQ.out], (HK.out.setCell (Nat.le_refl _) _).setCell (Nat.le_refl _) _⟩
            simp [results, Try.results18, go_sem, c0, c1]
end Go.Proofs.Ytghobphnjfgjeaa
