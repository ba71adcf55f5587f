/- The walk of the law OddsSums. -/
import Derived.Test.YtliajiilcicppaaOddL
import Derived.Test.YtliajiilcicppaaOdds5
import Derived.Test.YtliajiilcicppaaOdds6
import Derived.Test.YtliajiilcicppaaRat4
namespace Go.Proofs.Ytliajiilcicppaa
open Go.RowKit

theorem redIs_ratH {p q X Y : Int} (h : RedIs p q X Y) (hp : -1000000000 ≤ p ∧ p ≤ 1000000000) (hq : 0 < q ∧ q ≤ 1000000000) : Rat1 X Y := by
  have := red_rat p q hp hq
  rwa [h.1, h.2] at this
theorem redIs_EH {p q A B : Int} (h : RedIs p q A B) (hq : 0 < q) : Eqv A B p q ∧ 0 < B ∧ Int.gcd A B = 1 := by
  have := eqv_red p q
  have h2 := redQ_pos p q hq
  have h3 := red_gcd p q hq
  rw [h.1, h.2] at this h3
  rw [h.2] at h2
  exact ⟨this, h2, h3⟩
theorem red_add {p r q s A B C D X Y : Int} (hr : 0 < r) (hs : 0 < s) (h1 : RedIs p r A B) (h2 : RedIs q s C D) (h3 : RedIs (p * s + q * r) (r * s) X Y) : RedIs (A * D + C * B) (B * D) X Y := by
  obtain ⟨e1, b1, _⟩ := redIs_EH h1 hr
  obtain ⟨e2, b2, _⟩ := redIs_EH h2 hs
  obtain ⟨e3, b3, g3⟩ := redIs_EH h3 (Int.mul_pos hr hs)
  refine redIs_of (Int.mul_pos b1 b2) b3 g3 ?_
  exact eqv_trans (Int.mul_pos hr hs) (eqv_add e1 e2) (eqv_symm e3)

set_option maxRecDepth 100000 in
set_option maxHeartbeats 8000000 in
theorem oddsSums_any (va wa vb wb : List Int) (n n' m m' : Nat) (a1 a2 b1 b2 : Option Addr) (ca1 ca2 cb1 cb2 : Nat) (w : World) (h1 : Sa w a1 (ints va)) (h2 : Sa w a2 (ints wa)) (h3 : Sa w b1 (ints vb)) (h4 : Sa w b2 (ints wb)) (hn : va.length = n) (hn' : wa.length = n') (hm : vb.length = m) (hm' : wb.length = m') :
    Calls Try.prog 11 #[.agg #[.slice a1 n ca1, .slice a2 n' ca2], .agg #[.slice b1 m cb1, .slice b2 m' cb2]] w fun e w' => e = .returned (.bool true) ∧ Below w.heap.size w w' := by
  have H1 := Lib.hid h1; have H2 := Lib.hid h2; have HN := Lib.hid hn; have HN' := Lib.hid hn'
  have H3 := Lib.hid h3; have H4 := Lib.hid h4; have HM := Lib.hid hm; have HM' := Lib.hid hm'
  have F0 := Lib.hid (((Fr.start w).ro (.slice a1 n ca1) (.slice a2 n' ca2) w.heap.size rfl).ro (.slice b1 m cb1) (.slice b2 m' cb2) (w.heap.size + 1) (by simp))
  clear h1 h2 h3 h4 hn hn' hm hm'
  go_enter Try.func11, Try.ntmps11
  go_wp2_with fail
  refine (oddsLive_any _).mono ?_; rintro e w1 ⟨rfl, hb⟩
  have HF1 := Lib.hid (F0.out.keep hb); clear hb
  go_wp2_with fail
  refine (ratios_any _).mono ?_; rintro e w2 ⟨rfl, hb⟩
  have F2 := HF1.out.keep hb; clear hb
  obtain ⟨c0, c1, -, -, -, -⟩ := F2.roAt 1 rfl
  obtain ⟨c2, c3, -, -, -, -⟩ := F2.roAt 0 rfl
  have HF2 := Lib.hid F2; clear F2
  go_wp2_with fail
  clear c0 c1 c2 c3
  by_cases ca : chkO va wa = 0
  · have ho := chkO_ok ca
    obtain rfl : n' = n := by rw [← HN'.out, ← HN.out]; exact ho.len
    by_cases cb : chkO vb wb = 0
    · have hq := chkO_ok cb
      obtain rfl : m' = m := by rw [← HM'.out, ← HM.out]; exact hq.len
      have HO := Lib.hid ho; have HQ := Lib.hid hq
      have LA := ho.len; have LB := hq.len
      refine (oddBoth va wa vb wb n' m' a1 a2 b1 b2 ca1 ca2 cb1 cb2 _ (HF2.out.old H1.out) (HF2.out.old H2.out) (HF2.out.old H3.out) (HF2.out.old H4.out) HN.out HM.out HO.out HQ.out).mono ?_
      rintro e w3 (⟨hc, ad1, ad2, q1, q2, rfl, hf⟩ | ⟨hc, rfl, hb⟩)
      · have hu := chkO_ok hc
        have HU := Lib.hid hu
        have b1 := oW_bd ho; have b2 := oW_bd hq; have b3 := oW_bd hu
        have d1 := oA_bd ho; have d2 := oA_bd hq; have d3 := oA_bd hu
        have s1 := sPQ_bd ho; have s2 := sPQ_bd hq; have s3 := sPQ_bd hu
        obtain ⟨X1, Y1, r1⟩ : ∃ X Y, RedIs (oA va wa) (oW va wa) X Y := ⟨_, _, rfl, rfl⟩
        obtain ⟨X2, Y2, r2⟩ : ∃ X Y, RedIs (oA vb wb) (oW vb wb) X Y := ⟨_, _, rfl, rfl⟩
        obtain ⟨X3, Y3, r3⟩ : ∃ X Y, RedIs (oA (bothV va vb) (bothW wa wb)) (oW (bothV va vb) (bothW wa wb)) X Y := ⟨_, _, rfl, rfl⟩
        obtain ⟨P1, Q1, t1⟩ : ∃ X Y, RedIs (sP va wa) (sQ va wa) X Y := ⟨_, _, rfl, rfl⟩
        obtain ⟨P2, Q2, t2⟩ : ∃ X Y, RedIs (sP vb wb) (sQ vb wb) X Y := ⟨_, _, rfl, rfl⟩
        obtain ⟨P3, Q3, t3⟩ : ∃ X Y, RedIs (sP (bothV va vb) (bothW wa wb)) (sQ (bothV va vb) (bothW wa wb)) X Y := ⟨_, _, rfl, rfl⟩
        have K1 := Lib.hid (redIs_ratH r1 (by omega) (by omega)); have K2 := Lib.hid (redIs_ratH r2 (by omega) (by omega)); have K3 := Lib.hid (redIs_ratH r3 (by omega) (by omega))
        have K4 := Lib.hid (redIs_ratH t1 (by omega) (by omega)); have K5 := Lib.hid (redIs_ratH t2 (by omega) (by omega)); have K6 := Lib.hid (redIs_ratH t3 (by omega) (by omega))
        have S1 := Lib.hid (red_add (by omega) (by omega) r1 r2 (X := X3) (Y := Y3) (by rw [← oW_both LA LB, Int.mul_comm (oA vb wb), ← oA_both LA LB]; exact r3))
        have S2 := Lib.hid (red_add (by omega) (by omega) t1 t2 (X := P3) (Y := Q3) (by rw [← sQ_both LA LB, ← sP_both LA LB]; exact t3))
        have R1 := Lib.hid r1; have R2 := Lib.hid r2; have R3 := Lib.hid r3; have T1 := Lib.hid t1; have T2 := Lib.hid t2; have T3 := Lib.hid t3
        have HL : Hid ((bothV va vb).length = n' * m') := Lib.hid (by rw [bothV_len, HN.out, HM.out])
        have F3 := (HF2.out.call hf).ro (.slice ad1 (n' * m') q1) (.slice ad2 (n' * m') q2) w3.heap.size rfl
        obtain ⟨N, hN⟩ : ∃ N, n' * m' = N := ⟨_, rfl⟩
        rw [hN] at F3 HL ⊢
        have HF3 := Lib.hid F3
        clear F3 hf hN ca cb ho hq hu b1 b2 b3 d1 d2 d3 s1 s2 s3 r1 r2 r3 t1 t2 t3 LA LB hc
        obtain ⟨c0, c1, -, -, -, -⟩ := HF3.out.roAt 4 rfl
        go_wp2_with fail
        refine (oddMean va wa n' a1 a2 ca1 ca2 _ (HF3.out.old H1.out) (HF3.out.old H2.out) HN.out HO.out X1 Y1 R1.out).mono ?_; rintro e w4 ⟨rfl, hb⟩
        have HF4 := Lib.hid ((HF3.out.keep hb).rq X1 Y1 w4.heap.size rfl)
        clear hb c0 c1
        obtain ⟨c0, c1, -, -, -, -⟩ := HF4.out.roAt 4 rfl
        go_wp2_with fail
        refine (oddMean vb wb m' b1 b2 cb1 cb2 _ (HF4.out.old H3.out) (HF4.out.old H4.out) HM.out HQ.out X2 Y2 R2.out).mono ?_; rintro e w5 ⟨rfl, hb⟩
        have HF5 := Lib.hid ((HF4.out.keep hb).rq X2 Y2 w5.heap.size rfl)
        clear hb c0 c1
        obtain ⟨c0, c1, -, -, -, -⟩ := HF5.out.roAt 2 rfl
        go_wp2_with fail
        refine (oddMean (bothV va vb) (bothW wa wb) N ad1 ad2 q1 q2 _ (HF5.out.get 3 rfl) (HF5.out.get 4 rfl) HL.out HU.out X3 Y3 R3.out).mono ?_; rintro e w6 ⟨rfl, hb⟩
        have HF6 := Lib.hid ((HF5.out.keep hb).rq X3 Y3 w6.heap.size rfl)
        clear hb c0 c1
        obtain ⟨c0, c1, -, -, -, -⟩ := HF6.out.roAt 7 rfl
        go_wp2_with fail
        refine (oddSpread va wa n' a1 a2 ca1 ca2 _ (HF6.out.old H1.out) (HF6.out.old H2.out) HN.out HO.out P1 Q1 T1.out).mono ?_; rintro e w7 ⟨rfl, hb⟩
        have HF7 := Lib.hid ((HF6.out.keep hb).rq P1 Q1 w7.heap.size rfl)
        clear hb c0 c1
        obtain ⟨c0, c1, -, -, -, -⟩ := HF7.out.roAt 7 rfl
        go_wp2_with fail
        refine (oddSpread vb wb m' b1 b2 cb1 cb2 _ (HF7.out.old H3.out) (HF7.out.old H4.out) HM.out HQ.out P2 Q2 T2.out).mono ?_; rintro e w8 ⟨rfl, hb⟩
        have HF8 := Lib.hid ((HF7.out.keep hb).rq P2 Q2 w8.heap.size rfl)
        clear hb c0 c1
        obtain ⟨c0, c1, -, -, -, -⟩ := HF8.out.roAt 5 rfl
        go_wp2_with fail
        refine (oddSpread (bothV va vb) (bothW wa wb) N ad1 ad2 q1 q2 _ (HF8.out.get 6 rfl) (HF8.out.get 7 rfl) HL.out HU.out P3 Q3 T3.out).mono ?_; rintro e w9 ⟨rfl, hb⟩
        have HF9 := Lib.hid ((HF8.out.keep hb).rq P3 Q3 w9.heap.size rfl)
        clear hb c0 c1
        obtain ⟨c0, c1, -, -, -, -⟩ := HF9.out.rqAt 4 rfl
        obtain ⟨c2, c3, -, -, -, -⟩ := HF9.out.rqAt 5 rfl
        go_wp2_with fail
        refine (add_fits X1 Y1 X2 Y2 X3 Y3 _ K1.out K2.out S1.out K3.out).mono ?_; rintro e w10 ⟨rfl, hb⟩
        have HFA := Lib.hid ((HF9.out.keep hb).rq X3 Y3 w10.heap.size rfl)
        clear hb c0 c1 c2 c3
        obtain ⟨c0, c1, -, -, -, -⟩ := HFA.out.rqAt 2 rfl
        obtain ⟨c2, c3, -, -, -, -⟩ := HFA.out.rqAt 3 rfl
        go_wp2_with fail
        refine (add_fits P1 Q1 P2 Q2 P3 Q3 _ K4.out K5.out S2.out K6.out).mono ?_; rintro e w11 ⟨rfl, hb⟩
        have HFB := Lib.hid ((HFA.out.keep hb).rq P3 Q3 w11.heap.size rfl)
        clear hb c0 c1 c2 c3
        go_wp2_with fail
        refine (good8b _ (w11.heap.size + 1) _ (by simp)).mono ?_; rintro e w' ⟨rfl, rfl⟩
        have HFC := Lib.hid (HFB.out.alloc (.cells #[.int .i64 0, .int .i64 0, .int .i64 0, .int .i64 0, .int .i64 0, .int .i64 0, .int .i64 0, .int .i64 0] 24))
        obtain ⟨c0, c1, -, -, -, -⟩ := HFC.out.rqAt 0 rfl
        obtain ⟨c2, c3, -, -, -, -⟩ := HFC.out.rqAt 1 rfl
        obtain ⟨c4, c5, -, -, -, -⟩ := HFC.out.rqAt 2 rfl
        obtain ⟨c6, c7, -, -, -, -⟩ := HFC.out.rqAt 5 rfl
        go_wp2_with fail
        go_ret
        exact ⟨by simp, HFC.out.bel⟩
      · have HF3 := Lib.hid ((HF2.out.keep hb).ro (.slice .none 0 0) (.slice .none 0 0) w3.heap.size rfl)
        clear hb hc ca cb ho hq LA LB
        go_wp2_with fail
        go_ret
        exact ⟨rfl, HF3.out.bel⟩
    · obtain ⟨er, he⟩ : ∃ er, chkO vb wb = er := ⟨_, rfl⟩
      rw [he] at cb
      have z : (er != 0) = true := by rw [bne_iff_ne]; exact cb
      refine (oddBoth_no2 va wa vb wb n' n' m m' a1 a2 b1 b2 ca1 ca2 cb1 cb2 _ (HF2.out.old H1.out) (HF2.out.old H2.out) (HF2.out.old H3.out) (HF2.out.old H4.out) HN.out HN'.out HM.out HM'.out ca er he cb).mono ?_
      rintro e w3 ⟨rfl, hb⟩
      have HF3 := Lib.hid ((HF2.out.keep hb).ro (.slice .none 0 0) (.slice .none 0 0) w3.heap.size rfl)
      clear hb ca cb ho he
      go_wp2_with fail
      go_ret
      exact ⟨rfl, HF3.out.bel⟩
  · obtain ⟨er, he⟩ : ∃ er, chkO va wa = er := ⟨_, rfl⟩
    rw [he] at ca
    have z : (er != 0) = true := by rw [bne_iff_ne]; exact ca
    refine (oddBoth_no1 va wa n n' m m' a1 a2 b1 b2 ca1 ca2 cb1 cb2 _ (HF2.out.old H1.out) (HF2.out.old H2.out) HN.out HN'.out er he ca).mono ?_
    rintro e w3 ⟨rfl, hb⟩
    have HF3 := Lib.hid ((HF2.out.keep hb).ro (.slice .none 0 0) (.slice .none 0 0) w3.heap.size rfl)
    clear hb ca he
    go_wp2_with fail
    go_ret
    exact ⟨rfl, HF3.out.bel⟩
end Go.Proofs.Ytliajiilcicppaa
