/- The walk of the law OddsTail. -/
import Derived.Test.YtliajiilcicppaaWOdd2
namespace Go.Proofs.Ytliajiilcicppaa
open Go.RowKit

theorem redIs_E {p q A B : Int} (h : RedIs p q A B) (hq : 0 < q) : Eqv A B p q ∧ 0 < B ∧ Int.gcd A B = 1 := by
  have := eqv_red p q
  have h2 := redQ_pos p q hq
  have h3 := red_gcd p q hq
  rw [h.1, h.2] at this h3
  rw [h.2] at h2
  exact ⟨this, h2, h3⟩
theorem red_sumG {p q r A B C D X Y : Int} (hr : 0 < r) (h1 : RedIs p r A B) (h2 : RedIs q r C D) (h3 : RedIs (p + q) r X Y) : RedIs (A * D + C * B) (B * D) X Y := by
  obtain ⟨e1, b1, _⟩ := redIs_E h1 hr
  obtain ⟨e2, b2, _⟩ := redIs_E h2 hr
  obtain ⟨e3, b3, g3⟩ := redIs_E h3 hr
  refine redIs_of (Int.mul_pos b1 b2) b3 g3 ?_
  refine eqv_trans (Int.mul_pos hr hr) (eqv_add e1 e2) ?_
  refine eqv_trans hr (?_ : Eqv (p * r + q * r) (r * r) (p + q) r) (eqv_symm e3)
  unfold Eqv; grind
theorem red_le {p q r A B C D : Int} (hr : 0 < r) (h1 : RedIs p r A B) (h2 : RedIs q r C D) (h : p ≤ q) : ¬ (C * B < A * D) := by
  obtain ⟨e1, b1, _⟩ := redIs_E h1 hr
  obtain ⟨e2, b2, _⟩ := redIs_E h2 hr
  unfold Eqv at e1 e2
  intro hlt
  have h3 := Int.mul_lt_mul_of_pos_right hlt hr
  have h4 := Int.mul_le_mul_of_nonneg_right h (show 0 ≤ B * D from Int.mul_nonneg (by omega) (by omega))
  have k1 : C * B * r = q * (B * D) := by
    have : C * B * r = (C * r) * B := by grind
    rw [this, e2]; grind
  have k2 : A * D * r = p * (B * D) := by
    have : A * D * r = (A * r) * D := by grind
    rw [this, e1]; grind
  omega

set_option maxRecDepth 100000 in
set_option maxHeartbeats 8000000 in
theorem oddsTail_any (vs ws : List Int) (n k : Nat) (a b : Option Addr) (ca cb : Nat) (t : Int) (w : World) (h : Sa w a (ints vs)) (h' : Sa w b (ints ws)) (hn : vs.length = n) (hk : ws.length = k) (hsz : n * 8 ≤ 140737488351232) :
    Calls Try.prog 14 #[.agg #[.slice a n ca, .slice b k cb], .int .i64 t] w fun e w' => e = .returned (.bool true) ∧ Below w.heap.size w w' := by
  have HN := Lib.hid hn; have HK := Lib.hid hk; have HS := Lib.hid h; have HS' := Lib.hid h'
  have F0 := Lib.hid ((Fr.start w).ro (.slice a n ca) (.slice b k cb) w.heap.size rfl)
  have nb : n ≤ 17592186043904 := by omega
  clear h h' hn hk
  go_enter Try.func14, Try.ntmps14
  go_wp2_with fail
  refine (oddsLive_any _).mono ?_; rintro e w1 ⟨rfl, hb⟩
  have F1 := F0.out.keep hb
  obtain ⟨c0, c1, c2, c3, c4, c5⟩ := F1.roAt 0 rfl
  have HF1 := Lib.hid F1; clear hb F1
  go_wp2_with fail
  refine (slCloneG vs n a ca _ (HF1.out.old HS.out) HN.out (by omega)).mono ?_; rintro e w2 ⟨ad, cp, rfl, hcp, hfc⟩
  have F2 := HF1.out.call hfc
  clear c0 c1 c2 c3 c4 c5 hfc
  obtain ⟨c0, c1, c2, c3, c4, c5⟩ := F2.roAt 1 rfl
  have HF2 := Lib.hid ((F2.swap.roPut0 (.slice ad n cp)).swap); clear F2
  go_wp2_with fail
  clear c0 c1 c2 c3 c4 c5
  obtain ⟨c0, c1, c2, c3, c4, c5⟩ := HF2.out.roAt 1 rfl
  go_wp2_with fail
  clear c0 c1 c2 c3 c4 c5
  go_loopw [29] (fun i wr => ∃ j : Nat, j ≤ n ∧ i = .int .i64 j ∧ Fr w wr [⟨3, .slice ad n cp, ints (mixK 21 vs j)⟩, eO w.heap.size (.slice ad n cp) (.slice b k cb)]) (fun i _ => n - (intOf i).toNat)
  case atStart => exact ⟨0, by omega, rfl, by rw [mixK_0]; exact HF2.out⟩
  case round =>
    obtain ⟨j, hj, rfl, hfr⟩ := hrel
    by_cases hlt : j < n
    · obtain ⟨g, rfl, hg, hc1, hz1⟩ := hfr.openI j (by rw [mixK_len, HN.out]; exact hlt)
      obtain ⟨c0, c1, c2, c3, c4, c5⟩ := hfr.roAt 1 rfl
      have hst := mixK_step 21 vs j (by rw [HN.out]; exact hlt)
      rw [mixK_nth _ _ _ _ (by rw [HN.out]; exact hlt), if_neg (by omega)] at hc1
      obtain ⟨x, hx⟩ : ∃ x, nth vs j = x := ⟨_, rfl⟩
      rw [hx] at hc1 hst
      have HST := Lib.hid hst
      have HF := Lib.hid hfr
      clear hx hst hfr hg
      have q1 : (0 : Int) ≤ (j : Int) := by omega
      have q2 : (j : Int) < (n : Int) := by omega
      go_wp2_with fail
      go_region_with (first | (go_at_call 20; refine (within_any _ _ _ (by omega) (by omega)).mono ?_; rintro e w' ⟨rfl, rfl⟩))
      all_goals
        go_wp2_with fail
        go_roundw
        case rel => exact ⟨j + 1, by omega, by go_num, by rw [← HST.out]; exact HF.out.drew.setInt j _⟩
        case measure => simp only [intOf]; omega
    · obtain rfl : j = n := by omega
      have hmx := mixK_all 21 vs
      rw [HN.out] at hmx
      rw [hmx] at hfr
      obtain ⟨us, hus⟩ : ∃ us, vs.map (· % 21) = us := ⟨_, rfl⟩
      have HL : Hid (us.length = j) := Lib.hid (by rw [← hus, List.length_map]; exact HN.out)
      have H0 : Hid (∀ i, i < us.length → 0 ≤ nth us i ∧ nth us i ≤ 20) := Lib.hid (by rw [← hus]; exact mod21 vs)
      rw [hus] at hfr
      clear hmx hus
      obtain ⟨c0, c1, c2, c3, c4, c5⟩ := hfr.roAt 1 rfl
      have HF := Lib.hid hfr
      clear hfr
      by_cases hc : chkO us ws = 0
      · have ho := chkO_ok hc
        obtain rfl : k = j := by rw [← HK.out, ← HL.out]; exact ho.len
        have HO := Lib.hid ho
        have hW := oW_bd ho
        have hA := oA_bd ho
        have hz : ∀ i, i < us.length → 0 ≤ nth us i := fun i hi => (H0.out i hi).1
        have HZ := Lib.hid hz
        have HT : Hid (∀ i : Nat, -24000 ≤ oT i us ws ∧ oT i us ws ≤ 24000) := Lib.hid fun i => by have := oT_bd ho hz i (by omega); omega
        have HNB : Hid (∀ i : Nat, 0 ≤ oN i us ws ∧ oN i us ws ≤ 1200) := Lib.hid fun i => by have := oN_bd ho i; omega
        have HWB := Lib.hid hW
        obtain ⟨X, Y, r1⟩ : ∃ X Y, RedIs (oA us ws) (oW us ws) X Y := ⟨_, _, rfl, rfl⟩
        have HR1 := Lib.hid r1
        have HS0 : Hid (RedIs (oT ((0 : Nat) : Int) us ws) (oW us ws) 0 1) := Lib.hid (by rw [show oT ((0 : Nat) : Int) us ws = 0 from oT_0 hz]; exact redIs_of (by omega) (by omega) (by decide) (by unfold Eqv; omega))
        have HL0 : Hid (RedIs (oN ((0 : Nat) : Int) us ws) (oW us ws) 1 1) := Lib.hid (by rw [show oN ((0 : Nat) : Int) us ws = oW us ws from oN_all 0 hz]; exact redIs_of (by omega) (by omega) (by decide) (by unfold Eqv; omega))
        clear hc ho hW hA hz r1
        go_wp2_with fail
        refine (oddMean us ws k _ b _ cb _ (HF.out.get 0 rfl) (HF.out.old HS'.out) HL.out HO.out X Y HR1.out).mono ?_; rintro e w2 ⟨rfl, hb⟩
        have F2 := (HF.out.keep hb).rq X Y w2.heap.size rfl
        clear c0 c1 c2 c3 c4 c5
        have HG2 := Lib.hid ((F2.rq 0 1 (w2.heap.size + 1) (by simp)).rq 1 1 (w2.heap.size + 1 + 1) (by simp)); clear hb F2
        go_wp2_with fail
        go_loopw [11] (fun i wr => ∃ (q : Nat) (A B C D : Int), q ≤ 20 ∧ i = .int .i64 ((q + 1 : Nat) : Int) ∧ Hid (RedIs (oT q us ws) (oW us ws) A B) ∧ Hid (RedIs (oN q us ws) (oW us ws) C D) ∧
          Fr w wr [eQ (w2.heap.size + 1 + 1) C D, eQ (w2.heap.size + 1) A B, eQ w2.heap.size X Y, ⟨3, .slice ad k cp, ints us⟩, eO w.heap.size (.slice ad k cp) (.slice b k cb)]) (fun i _ => 21 - (intOf i).toNat)
        case atStart => exact ⟨0, 0, 1, 1, 1, by omega, rfl, HS0, HL0, HG2.out⟩
        case round =>
          obtain ⟨q, A, B, C, D, hq, rfl, hAB, hCD, hfr⟩ := hrel
          obtain ⟨c0, c1, -, -, -, -⟩ := hfr.roAt 4 rfl
          have HG := Lib.hid hfr
          clear hfr
          by_cases hlt2 : q < 20
          · obtain ⟨P, Q, r2⟩ : ∃ P Q, RedIs (oN ((q + 1 : Nat) : Int) us ws) (oW us ws) P Q := ⟨_, _, rfl, rfl⟩
            obtain ⟨U, V, r3⟩ : ∃ U V, RedIs (oT ((q + 1 : Nat) : Int) us ws) (oW us ws) U V := ⟨_, _, rfl, rfl⟩
            have hW := HWB.out
            have t0 := HT.out q; have t1 := HT.out (q + 1)
            have n0 := HNB.out q; have n1 := HNB.out (q + 1)
            have QA := Lib.hid (redIs_ratG hAB.out (by omega) (by omega))
            have QC := Lib.hid (redIs_ratG hCD.out (by omega) (by omega))
            have QP := Lib.hid (redIs_ratG r2 (by omega) (by omega))
            have QU := Lib.hid (redIs_ratG r3 (by omega) (by omega))
            have hno := red_le (by omega) r2 hCD.out (oN_le HO.out q)
            have HD := Lib.hid (decide_eq_false hno)
            have HSUM := Lib.hid (red_sumG (show 0 < oW us ws by omega) hAB.out r2 (X := U) (Y := V) (by rw [show oT (q : Int) us ws + oN ((q + 1 : Nat) : Int) us ws = oT ((q + 1 : Nat) : Int) us ws from (oT_step us ws q).symm]; exact r3))
            have HR2 := Lib.hid r2; have HR3 := Lib.hid r3
            have e1 : ((q + 1 : Nat) : Int) ≤ 20 := by omega
            have e2 : 0 ≤ ((q + 1 : Nat) : Int) := by omega
            obtain ⟨i, hi⟩ : ∃ i, ((q + 1 : Nat) : Int) = i := ⟨_, rfl⟩
            rw [hi] at e1 e2 HR2
            rw [hi]
            have HI := Lib.hid hi
            have d1 : decide (i ≤ 20) = true := decide_eq_true e1
            clear hW t0 t1 n0 n1 hno r2 r3 hAB hCD hi
            go_wp2_with fail
            refine (oddBeyond us ws k _ b _ cb i _ (HG.out.get 3 rfl) (HG.out.old HS'.out) HL.out HO.out P Q HR2.out).mono ?_; rintro e w3 ⟨rfl, hb⟩
            have FK := HG.out.keep hb
            obtain ⟨-, -, l1, -, -, -⟩ := FK.rqAt 0 rfl
            obtain ⟨-, -, l2, -, -, -⟩ := FK.rqAt 1 rfl
            have n1 : w3.heap.size ≠ w2.heap.size + 1 + 1 := by omega
            have n2 : w2.heap.size + 1 + 1 ≠ w3.heap.size := by omega
            have n3 : w3.heap.size ≠ w2.heap.size + 1 := by omega
            have n4 : w2.heap.size + 1 ≠ w3.heap.size := by omega
            have F3 := FK.rq P Q w3.heap.size rfl
            clear c0 c1 FK l1 l2
            obtain ⟨c0, c1, -, -, -, -⟩ := F3.rqAt 0 rfl
            obtain ⟨c2, c3, -, -, -, -⟩ := F3.rqAt 1 rfl
            have HG3 := Lib.hid F3; clear hb F3
            go_wp2_with fail
            refine (less_ok C D P Q _ QC.out QP.out).mono ?_; rintro e w4 ⟨rfl, hb⟩
            rw [HD.out]
            have F4 := HG3.out.keep hb
            clear c0 c1 c2 c3
            obtain ⟨c0, c1, -, -, -, -⟩ := F4.rqAt 0 rfl
            obtain ⟨c2, c3, -, -, -, -⟩ := F4.rqAt 2 rfl
            have HG4 := Lib.hid F4; clear hb F4
            go_wp2_with fail
            refine (add_fits A B P Q U V _ QA.out QP.out HSUM.out QU.out).mono ?_; rintro e w5 ⟨rfl, hb⟩
            have FK := HG4.out.keep hb
            obtain ⟨-, -, l1, -, -, -⟩ := FK.rqAt 1 rfl
            obtain ⟨-, -, l2, -, -, -⟩ := FK.rqAt 2 rfl
            have n5 : w5.heap.size ≠ w2.heap.size + 1 + 1 := by omega
            have n6 : w2.heap.size + 1 + 1 ≠ w5.heap.size := by omega
            have n7 : w5.heap.size ≠ w2.heap.size + 1 := by omega
            have n8 : w2.heap.size + 1 ≠ w5.heap.size := by omega
            have F5 := FK.rq U V w5.heap.size rfl
            clear c0 c1 c2 c3 FK l1 l2
            have HG5 := Lib.hid F5; clear hb F5
            go_wp2_with fail
            refine (good3b _ (w5.heap.size + 1) _ (by simp)).mono ?_; rintro e w' ⟨rfl, rfl⟩
            have F6 := HG5.out.alloc (.cells #[.int .i64 0, .int .i64 0, .int .i64 0] 24)
            obtain ⟨c0, c1, c2, -, -, -⟩ := F6.rqAt 0 rfl
            obtain ⟨c3, c4, c5, -, -, -⟩ := F6.rqAt 1 rfl
            obtain ⟨m1, m2, k1, -, k2, k3⟩ := F6.rqAt 2 rfl
            obtain ⟨m3, m4, k4, -, k5, k6⟩ := F6.rqAt 3 rfl
            have HG6 := Lib.hid F6; clear F6
            go_wp2_with fail
            have HG7 := Lib.hid HG6.out.drew
            go_region
            all_goals
              go_wp2_with fail
              go_roundw
              case rel =>
                refine ⟨q + 1, U, V, P, Q, by omega, ?_, HR3, Lib.hid (by rw [HI.out]; exact HR2.out), ?_⟩
                · rw [← HI.out]; go_num
                · first
                    | exact ((((HG6.out.tail.tail.swap.rqPut U V).swap).rqPut P Q).drew)
                    | exact (((((HG6.out.tail.tail.rqPut P Q).swap).rqPut U V).swap).drew)
              case measure => simp only [intOf]; omega
          · obtain rfl : q = 20 := by omega
            have hW := HWB.out
            have hab := hAB.out
            rw [show oT ((20 : Nat) : Int) us ws = oA us ws from oT_top 20 (fun i hi => (H0.out i hi).2)] at hab
            obtain ⟨rfl, rfl⟩ : A = X ∧ B = Y := ⟨hab.1.symm.trans HR1.out.1, hab.2.symm.trans HR1.out.2⟩
            have HO1 : Hid (∀ x : Int, 0 ≤ x → RedIs (oN (-x) us ws) (oW us ws) 1 1) := Lib.hid fun x hx => by
              rw [show oN (-x) us ws = oW us ws from oN_all (-x) (fun i hi => by have := HZ.out i hi; omega)]
              exact redIs_of (by omega) (by omega) (by decide) (by unfold Eqv; omega)
            clear hab hAB hCD hW
            rw [show ((20 + 1 : Nat) : Int) = 21 from rfl]
            go_wp2_with fail
            refine (within_any _ _ _ (by omega) (by omega)).mono ?_; rintro e w' ⟨rfl, rfl⟩
            obtain ⟨x, hx⟩ : ∃ x, t % 9 = x := ⟨_, rfl⟩
            have x1 : 0 ≤ x := by omega
            have x2 : x ≤ 8 := by omega
            rw [hx]
            clear hx
            go_wp2_with fail
            refine (oddBeyond us ws k _ b _ cb (-x) _ (HG.out.get 3 rfl) (HG.out.old HS'.out) HL.out HO.out 1 1 (HO1.out x x1)).mono ?_; rintro e w3 ⟨rfl, hb⟩
            have F3 := (HG.out.keep hb).rq 1 1 w3.heap.size rfl
            clear c0 c1
            obtain ⟨c0, c1, -, -, -, -⟩ := F3.rqAt 0 rfl
            obtain ⟨c2, c3, -, -, -, -⟩ := F3.rqAt 2 rfl
            obtain ⟨c4, c5, -, -, -, -⟩ := F3.rqAt 3 rfl
            have HG3 := Lib.hid F3; clear hb F3
            have a1 : (A == A) = true := by simp
            have a2 : (B == B) = true := by simp
            go_wp2_with fail
            go_ret
            exact ⟨by simp, HG3.out.bel⟩
      · obtain ⟨er, he⟩ : ∃ er, chkO us ws = er := ⟨_, rfl⟩
        rw [he] at hc
        have HE := Lib.hid he
        have HC := Lib.hid hc
        have z : (er != 0) = true := by rw [bne_iff_ne]; exact hc
        have z2 : (er == er) = true := by simp
        clear hc he
        go_wp2_with fail
        refine (oddMean_no us ws j k _ b _ cb _ (HF.out.get 0 rfl) (HF.out.old HS'.out) HL.out HK.out er HE.out HC.out).mono ?_; rintro e w2 ⟨rfl, hb⟩
        have F2 := (HF.out.keep hb).rq 0 0 w2.heap.size rfl
        clear c0 c1 c2 c3 c4 c5
        obtain ⟨c0, c1, -, -, -, -⟩ := F2.rqAt 0 rfl
        have HG2 := Lib.hid F2; clear hb F2
        go_wp2_with fail
        go_ret
        exact ⟨rfl, HG2.out.bel⟩
end Go.Proofs.Ytliajiilcicppaa
