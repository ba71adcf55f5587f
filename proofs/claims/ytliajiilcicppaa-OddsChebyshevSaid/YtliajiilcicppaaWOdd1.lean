/- The walk of the law OddsChebyshev. -/
import Derived.Test.YtliajiilcicppaaOddL
import Derived.Test.YtliajiilcicppaaOddM2
namespace Go.Proofs.Ytliajiilcicppaa
open Go.RowKit

def farF (X Y f : Int) : Int → Int := fun x => if f * Y ≤ x * Y - X ∨ f * Y ≤ -(x * Y - X) then 1 else 0
theorem farF_bd (X Y f x : Int) : 0 ≤ farF X Y f x ∧ farF X Y f x ≤ 1 := by unfold farF; split <;> omega
theorem cheb_end {vs ws : List Int} (h : OddOk vs ws) (X Y f U V : Int) (hY : 0 < Y) (hf : 0 ≤ f) (hr : Eqv X Y (oA vs ws) (oW vs ws)) (hV : 0 < V) (hs : Eqv U V (sP vs ws) (sQ vs ws)) :
    wsK (farF X Y f) vs ws vs.length * f * f * V ≤ oW vs ws * U := by
  have h1 := cheb h X Y f hY hf hr
  change wsK (farF X Y f) vs ws vs.length * f * f * oW vs ws ≤ sP vs ws at h1
  have hW := oW_bd h
  unfold Eqv at hs
  rw [show sQ vs ws = oW vs ws * oW vs ws from rfl] at hs
  generalize wsK (farF X Y f) vs ws vs.length = n at *
  generalize oW vs ws = W at *
  have h2 := Int.mul_le_mul_of_nonneg_right h1 (show 0 ≤ V by omega)
  rw [← hs] at h2
  have e1 : n * f * f * W * V = (n * f * f * V) * W := by grind
  have e2 : U * (W * W) = (W * U) * W := by grind
  rw [e1, e2] at h2
  exact Int.le_of_mul_le_mul_right h2 (by omega)

set_option maxRecDepth 100000 in
set_option maxHeartbeats 8000000 in
theorem oddsCheb_any (vs ws : List Int) (n k : Nat) (a b : Option Addr) (ca cb : Nat) (t : Int) (w : World) (h : Sa w a (ints vs)) (h' : Sa w b (ints ws)) (hn : vs.length = n) (hk : ws.length = k) :
    Calls Try.prog 10 #[.agg #[.slice a n ca, .slice b k cb], .int .i64 t] w fun e w' => e = .returned (.bool true) ∧ Below w.heap.size w w' := by
  have HN := Lib.hid hn; have HK := Lib.hid hk; have HS := Lib.hid h; have HS' := Lib.hid h'
  have F0 := Lib.hid ((Fr.start w).ro (.slice a n ca) (.slice b k cb) w.heap.size rfl)
  by_cases hc : chkO vs ws = 0
  · have ho := chkO_ok hc
    obtain rfl : k = n := by rw [← hk, ← hn]; exact ho.len
    have HO := Lib.hid ho
    have n12 : k ≤ 12 := by rw [← hn]; exact ho.n12
    have hW := oW_bd ho
    have hA := oA_bd ho
    have hP := sPQ_bd ho
    obtain ⟨X, Y, r1⟩ : ∃ X Y, RedIs (oA vs ws) (oW vs ws) X Y := ⟨_, _, rfl, rfl⟩
    obtain ⟨U, V, r2⟩ : ∃ U V, RedIs (sP vs ws) (sQ vs ws) U V := ⟨_, _, rfl, rfl⟩
    have bx := redP_bdB 24000 (oA vs ws) (oW vs ws) (by omega) (by omega) (by omega)
    have by1 := redQ_pos (oA vs ws) (oW vs ws) (by omega)
    have by2 := redQ_le (oA vs ws) (oW vs ws) (by omega)
    have bu := redP_bdB 576000000 (sP vs ws) (sQ vs ws) (by omega) (by omega) (by omega)
    have bu0 : 0 ≤ redP (sP vs ws) (sQ vs ws) := Int.ediv_nonneg (by omega) (by have := redG_pos (sP vs ws) (sQ vs ws) (by omega); omega)
    have bv1 := redQ_pos (sP vs ws) (sQ vs ws) (by omega)
    have bv2 := redQ_le (sP vs ws) (sQ vs ws) (by omega)
    have ex := eqv_red (oA vs ws) (oW vs ws)
    have eu := eqv_red (sP vs ws) (sQ vs ws)
    rw [r1.1, r1.2] at ex
    rw [r2.1, r2.2] at eu
    rw [r1.1] at bx
    rw [r1.2] at by1 by2
    rw [r2.1] at bu bu0
    rw [r2.2] at bv1 bv2
    obtain ⟨f, hf⟩ : ∃ f, 1 + t % 30 = f := ⟨_, rfl⟩
    have f1 : 1 ≤ f := by omega
    have f2 : f ≤ 30 := by omega
    have HEND := Lib.hid (cheb_end ho X Y f U V by1 (by omega) ex bv1 eu)
    have X1 : -24000 ≤ X := by omega
    have X2 : X ≤ 24000 := by omega
    have Y1 : 1 ≤ Y := by omega
    have Y2 : Y ≤ 1200 := by omega
    have U2 : U ≤ 576000000 := by omega
    have V1 : 1 ≤ V := by omega
    have V2 : V ≤ 1440000 := by omega
    have HW := Lib.hid hW
    have HR1 := Lib.hid r1; have HR2 := Lib.hid r2
    have mf := mul_bdI f Y 30 1200 (by omega) (by omega)
    have mf0 := Int.mul_nonneg (show 0 ≤ f by omega) (show 0 ≤ Y by omega)
    obtain ⟨R, hR⟩ : ∃ R, f * Y = R := ⟨_, rfl⟩
    rw [hR] at mf mf0
    have R1 : 0 ≤ R := mf0
    have R2 : R ≤ 36000 := by omega
    have HFR := Lib.hid hR
    have y0 : decide (0 < Y) = true := decide_eq_true (by omega)
    have u0 : decide (0 ≤ U) = true := decide_eq_true (by omega)
    clear h h' hn hk hc ho hW hA hP bx by1 by2 bu bv1 bv2 ex eu r1 r2 mf mf0
    go_enter Try.func10, Try.ntmps10
    go_wp2_with fail
    refine (oddsLive_any _).mono ?_; rintro e w1 ⟨rfl, hb⟩
    have F1 := F0.out.keep hb
    obtain ⟨c0, c1, -, -, -, -⟩ := F1.roAt 0 rfl
    have HF1 := Lib.hid F1; clear hb F1
    go_wp2_with fail
    refine (oddMean vs ws k a b ca cb _ (HF1.out.old HS.out) (HF1.out.old HS'.out) HN.out HO.out X Y HR1.out).mono ?_; rintro e w2 ⟨rfl, hb⟩
    have F2 := (HF1.out.keep hb).rq X Y w2.heap.size rfl
    clear c0 c1
    obtain ⟨c0, c1, -, -, -, -⟩ := F2.roAt 1 rfl
    have HF2 := Lib.hid F2; clear hb F2
    go_wp2_with fail
    refine (oddSpread vs ws k a b ca cb _ (HF2.out.old HS.out) (HF2.out.old HS'.out) HN.out HO.out U V HR2.out).mono ?_; rintro e w3 ⟨rfl, hb⟩
    have F3 := (HF2.out.keep hb).rq U V w3.heap.size rfl
    clear c0 c1
    obtain ⟨c0, c1, -, -, -, -⟩ := F3.roAt 2 rfl
    obtain ⟨d0, d1, -, -, -, -⟩ := F3.rqAt 1 rfl
    obtain ⟨e0, e1, -, -, -, -⟩ := F3.rqAt 0 rfl
    have HF3 := Lib.hid F3; clear hb F3
    go_wp2_with fail
    refine (within_any _ _ _ (by omega) (by omega)).mono ?_; rintro e w' ⟨rfl, rfl⟩
    go_wp2_with fail
    clear hf
    go_loop [9, 10, 46] (fun x y i => ∃ j : Nat, j ≤ k ∧ i = .int .i64 j ∧ x = .int .i64 (wsK (farF X Y f) vs ws j) ∧ y = .int .i64 (wsK (fun _ => 1) vs ws j)) (fun _ _ i => k - (intOf i).toNat)
    case atStart => exact ⟨0, by omega, rfl, rfl, rfl⟩
    case round =>
      obtain ⟨j, hj, rfl, rfl, rfl⟩ := hrel
      have B1 := wsK_bd HO.out (farF X Y f) 1 (by omega) (fun x _ _ => by have := farF_bd X Y f x; omega) j (by rw [HN.out]; exact hj)
      have B2 := wsK_bd HO.out (fun _ => 1) 1 (by omega) (fun x _ _ => by omega) j (by rw [HN.out]; exact hj)
      by_cases hlt : j < k
      · obtain ⟨b1, off1, rfl, hb1, hc1⟩ := (HF3.out.old HS.out).int j (by rw [HN.out]; exact hlt)
        obtain ⟨b2, off2, rfl, hb2, hc2⟩ := (HF3.out.old HS'.out).int j (by rw [HK.out]; exact hlt)
        obtain ⟨v1, v2, v3, v4⟩ := HO.out.val j (by rw [HN.out]; exact hlt)
        have hs1 : wsK (farF X Y f) vs ws (j + 1) = wsK (farF X Y f) vs ws j + nth ws j * farF X Y f (nth vs j) := rfl
        have hs2 : wsK (fun _ => 1) vs ws (j + 1) = wsK (fun _ => 1) vs ws j + nth ws j * 1 := rfl
        have hfx : farF X Y f (nth vs j) = if f * Y ≤ nth vs j * Y - X ∨ f * Y ≤ -(nth vs j * Y - X) then 1 else 0 := rfl
        rw [HFR.out] at hfx
        generalize wsK (farF X Y f) vs ws j = S1 at *
        generalize wsK (fun _ => 1) vs ws j = S2 at *
        obtain ⟨x, hx⟩ : ∃ x, nth vs j = x := ⟨_, rfl⟩
        obtain ⟨y, hy⟩ : ∃ y, nth ws j = y := ⟨_, rfl⟩
        rw [hx] at hc1 hs1 hfx v1 v2
        rw [hy] at hc2 hs1 hs2 v3 v4
        have mx := mul_bdI x Y 20 1200 (by omega) (by omega)
        obtain ⟨p, hp⟩ : ∃ p, x * Y = p := ⟨_, rfl⟩
        obtain ⟨D, hD⟩ : ∃ D, p - X = D := ⟨_, rfl⟩
        rw [hp, hD] at hfx
        rw [hp] at mx
        obtain ⟨mx1, mx2⟩ := mx
        have D1 : -48000 ≤ D := by omega
        have D2 : D ≤ 48000 := by omega
        have S11 : -1200 ≤ S1 := by omega
        have S12 : S1 ≤ 1200 := by omega
        have S21 : -1200 ≤ S2 := by omega
        have S22 : S2 ≤ 1200 := by omega
        have HS2 : Hid (wsK (fun _ => 1) vs ws (j + 1) = S2 + y) := Lib.hid (by rw [hs2]; omega)
        have q1 : (0 : Int) ≤ (j : Int) := by omega
        have q2 : (j : Int) < (k : Int) := by omega
        by_cases cc : R ≤ D ∨ R ≤ -D
        · have HS1 : Hid (wsK (farF X Y f) vs ws (j + 1) = S1 + y) := Lib.hid (by rw [hs1, hfx, if_pos cc]; omega)
          clear hx hy hs1 hs2 hfx B1 B2
          by_cases cd : R ≤ D
          · have g1 : decide (R ≤ D) = true := decide_eq_true cd
            clear cc cd
            go_wp2_with fail
            exact ⟨⟨j + 1, by omega, by simp, by rw [HS1.out], by rw [HS2.out]⟩, by simp only [intOf]; omega⟩
          · have g1 : decide (R ≤ D) = false := decide_eq_false cd
            have g2 : decide (R ≤ -D) = true := decide_eq_true (by omega)
            clear cc cd
            go_wp2_with fail
            exact ⟨⟨j + 1, by omega, by simp, by rw [HS1.out], by rw [HS2.out]⟩, by simp only [intOf]; omega⟩
        · have HS1 : Hid (wsK (farF X Y f) vs ws (j + 1) = S1) := Lib.hid (by rw [hs1, hfx, if_neg cc]; omega)
          have g1 : decide (R ≤ D) = false := decide_eq_false (by omega)
          have g2 : decide (R ≤ -D) = false := decide_eq_false (by omega)
          clear hx hy hs1 hs2 hfx B1 B2 cc
          go_wp2_with fail
          exact ⟨⟨j + 1, by omega, by simp, by rw [HS1.out], by rw [HS2.out]⟩, by simp only [intOf]; omega⟩
      · obtain rfl : j = k := by omega
        have hend := HEND.out
        rw [HN.out] at hend
        have hw := HW.out
        unfold oW at hend hw
        rw [HN.out] at hend hw
        have B0 := wsK_nn HO.out (farF X Y f) (fun x => (farF_bd X Y f x).1) j (by rw [HN.out]; omega)
        generalize wsK (farF X Y f) vs ws j = S1 at *
        generalize wsK (fun _ => 1) vs ws j = S2 at *
        have m1 := mul_bdI S1 f 1200 30 (by omega) (by omega)
        obtain ⟨z1, hz1⟩ : ∃ z, S1 * f = z := ⟨_, rfl⟩
        rw [hz1] at m1 hend
        have m2 := mul_bdI z1 f 36000 30 (by omega) (by omega)
        obtain ⟨z2, hz2⟩ : ∃ z, z1 * f = z := ⟨_, rfl⟩
        rw [hz2] at m2 hend
        have m3 := mul_bdI z2 V 1080000 1440000 (by omega) (by omega)
        obtain ⟨z3, hz3⟩ : ∃ z, z2 * V = z := ⟨_, rfl⟩
        rw [hz3] at m3 hend
        have m4 := mul_bdI S2 U 1200 576000000 (by omega) (by omega)
        obtain ⟨z4, hz4⟩ : ∃ z, S2 * U = z := ⟨_, rfl⟩
        rw [hz4] at m4 hend
        have g : decide (z3 ≤ z4) = true := decide_eq_true hend
        obtain ⟨m11, m12⟩ := m1; obtain ⟨m21, m22⟩ := m2; obtain ⟨m31, m32⟩ := m3; obtain ⟨m41, m42⟩ := m4
        clear hend B0 B1 B2 hw hlt
        go_wp2_with fail
        go_ret
        exact ⟨rfl, HF3.out.bel⟩
  · obtain ⟨er, he⟩ : ∃ er, chkO vs ws = er := ⟨_, rfl⟩
    rw [he] at hc
    have HE := Lib.hid he
    have HC := Lib.hid hc
    have z : (er != 0) = true := by rw [bne_iff_ne]; exact hc
    have z2 : (er == er) = true := by simp
    clear h h' hn hk hc he
    go_enter Try.func10, Try.ntmps10
    go_wp2_with fail
    refine (oddsLive_any _).mono ?_; rintro e w1 ⟨rfl, hb⟩
    have F1 := F0.out.keep hb
    obtain ⟨c0, c1, -, -, -, -⟩ := F1.roAt 0 rfl
    have HF1 := Lib.hid F1; clear hb F1
    go_wp2_with fail
    refine (oddMean_no vs ws n k a b ca cb _ (HF1.out.old HS.out) (HF1.out.old HS'.out) HN.out HK.out er HE.out HC.out).mono ?_; rintro e w2 ⟨rfl, hb⟩
    have F2 := (HF1.out.keep hb).rq 0 0 w2.heap.size rfl
    clear c0 c1
    obtain ⟨c0, c1, -, -, -, -⟩ := F2.roAt 1 rfl
    have HF2 := Lib.hid F2; clear hb F2
    go_wp2_with fail
    refine (oddSpread_no vs ws n k a b ca cb _ (HF2.out.old HS.out) (HF2.out.old HS'.out) HN.out HK.out er HE.out HC.out).mono ?_; rintro e w3 ⟨rfl, hb⟩
    have F3 := (HF2.out.keep hb).rq 0 0 w3.heap.size rfl
    clear c0 c1
    have HF3 := Lib.hid F3; clear hb F3
    go_wp2_with fail
    go_ret
    exact ⟨rfl, HF3.out.bel⟩
end Go.Proofs.Ytliajiilcicppaa
