/- The walk of the law OddsMarkov. -/
import Derived.Test.YtliajiilcicppaaOddL
import Derived.Test.YtliajiilcicppaaOdds4
import Derived.Test.YtliajiilcicppaaRat4
import Derived.Test.YtliajiilcicppaaBig
namespace Go.Proofs.Ytliajiilcicppaa
open Go.RowKit

theorem Fr.roPut0 {w0 w : World} {L : List Ent} {b : Nat} {v1 v2 : Value} (h : Fr w0 w (eO b v1 v2 :: L)) (v : Value) :
    Fr w0 (w.setCell ⟨b, 0, .none⟩ v) (eO b v v2 :: L) := h.set 0 v
theorem redIs_ratG {p q X Y : Int} (h : RedIs p q X Y) (hp : -1000000000 ≤ p ∧ p ≤ 1000000000) (hq : 0 < q ∧ q ≤ 1000000000) : Rat1 X Y := by
  have := red_rat p q hp hq
  rwa [h.1, h.2] at this
def mixK (m : Int) (l : List Int) (j : Nat) : List Int := (l.take j).map (· % m) ++ l.drop j
theorem mixK_len (m : Int) (l : List Int) (j : Nat) : (mixK m l j).length = l.length := by simp [mixK]; omega
theorem mixK_nth (m : Int) (l : List Int) (j i : Nat) (h : i < l.length) : nth (mixK m l j) i = if i < j then nth l i % m else nth l i := by
  unfold mixK nth
  rw [List.getD_eq_getElem?_getD, List.getElem?_append, List.length_map, List.length_take]
  by_cases c : i < j
  · rw [if_pos (by omega), if_pos c]; simp [h, c]
  · rw [if_neg (by omega), if_neg c, List.getElem?_drop, List.getD_eq_getElem?_getD]
    congr 2; omega
theorem mixK_0 (m : Int) (l : List Int) : mixK m l 0 = l := by simp [mixK]
theorem mixK_step (m : Int) (l : List Int) (j : Nat) (h : j < l.length) : (mixK m l j).set j (nth l j % m) = mixK m l (j + 1) := by
  refine ext_nth (by simp [mixK_len]) (fun i hi => ?_)
  rw [List.length_set, mixK_len] at hi
  rw [nth_set _ _ _ _ (by rw [mixK_len]; exact h), mixK_nth _ _ _ _ hi, mixK_nth _ _ _ _ hi]
  by_cases c : i = j
  · subst c; rw [if_pos rfl, if_pos (by omega)]
  · rw [if_neg c]
    by_cases c2 : i < j
    · rw [if_pos c2, if_pos (by omega)]
    · rw [if_neg c2, if_neg (by omega)]
theorem mixK_all (m : Int) (l : List Int) : mixK m l l.length = l.map (· % m) := by simp [mixK]
theorem mod21 (l : List Int) (i : Nat) (h : i < (l.map (· % 21)).length) : 0 ≤ nth (l.map (· % 21)) i ∧ nth (l.map (· % 21)) i ≤ 20 := by
  rw [List.length_map] at h
  rw [nth_map _ _ _ h]; omega

theorem markov_end {vs ws : List Int} (h : OddOk vs ws) (h0 : ∀ k, k < vs.length → 0 ≤ nth vs k) (t X Y P Q U V : Int) (hY : 0 < Y) (hQ : 0 < Q) (hV : 0 < V)
    (hr : Eqv X Y (oA vs ws) (oW vs ws)) (hp : Eqv P Q (oN t vs ws) (oW vs ws)) (hu : Eqv U V (P * t) (Q * 1)) : ¬ (X * V < U * Y) := by
  have h1 := markov h h0 t
  have hW := oW_bd h
  unfold Eqv at *
  generalize oA vs ws = A at *
  generalize oW vs ws = W at *
  generalize oN t vs ws = N at *
  -- X W = A Y ; P W = N Q ; U Q = P t V
  intro hlt
  have hQW : 0 < Q * W := Int.mul_pos hQ (by omega)
  have h2 := Int.mul_lt_mul_of_pos_right hlt hQW
  have h3 := Int.mul_le_mul_of_nonneg_right h1 (show 0 ≤ Y * V * Q from Int.mul_nonneg (Int.mul_nonneg (by omega) (by omega)) (by omega))
  have e1 : X * V * (Q * W) = A * (Y * V * Q) := by
    have : X * V * (Q * W) = (X * W) * (V * Q) := by grind
    rw [this, hr]; grind
  have e2 : U * Y * (Q * W) = t * N * (Y * V * Q) := by
    have : U * Y * (Q * W) = (U * (Q * 1)) * (Y * W) := by grind
    rw [this, hu]
    have : P * t * V * (Y * W) = (P * W) * (t * V * Y) := by grind
    rw [this, hp]; grind
  omega

set_option maxRecDepth 100000 in
set_option maxHeartbeats 8000000 in
theorem oddsMarkov_any (vs ws : List Int) (n k : Nat) (a b : Option Addr) (ca cb : Nat) (t : Int) (w : World) (h : Sa w a (ints vs)) (h' : Sa w b (ints ws)) (hn : vs.length = n) (hk : ws.length = k) (hsz : n * 8 ≤ 140737488351232) :
    Calls Try.prog 13 #[.agg #[.slice a n ca, .slice b k cb], .int .i64 t] w fun e w' => e = .returned (.bool true) ∧ Below w.heap.size w w' := by
  have HN := Lib.hid hn; have HK := Lib.hid hk; have HS := Lib.hid h; have HS' := Lib.hid h'
  have F0 := Lib.hid ((Fr.start w).ro (.slice a n ca) (.slice b k cb) w.heap.size rfl)
  have nb : n ≤ 17592186043904 := by omega
  clear h h' hn hk
  go_enter Try.func13, Try.ntmps13
  go_wp2_with fail
  refine (oddsLive_any _).mono ?_; rintro e w1 ⟨rfl, hb⟩
  have F1 := F0.out.keep hb
  obtain ⟨c0, c1, c2, c3, c4, c5⟩ := F1.roAt 0 rfl
  have HF1 := Lib.hid F1; clear hb F1
  go_wp2_with fail
  refine (slCloneG vs n a ca _ (HF1.out.old HS.out) HN.out (by omega)).mono ?_; rintro e w2 ⟨ad, cp, rfl, hcp, hfc⟩
  have F2 := HF1.out.call hfc
  clear c0 c1 c2 c3 c4 c5 hfc
  obtain ⟨c0, c1, c2, c3, c4, c5⟩ := F2.roAt 1 rfl
  have HF2 := Lib.hid ((F2.swap.roPut0 (.slice ad n cp)).swap); clear F2
  go_wp2_with fail
  clear c0 c1 c2 c3 c4 c5
  obtain ⟨c0, c1, c2, c3, c4, c5⟩ := HF2.out.roAt 1 rfl
  go_wp2_with fail
  clear c0 c1 c2 c3 c4 c5
  go_loopw [24] (fun i wr => ∃ j : Nat, j ≤ n ∧ i = .int .i64 j ∧ Fr w wr [⟨3, .slice ad n cp, ints (mixK 21 vs j)⟩, eO w.heap.size (.slice ad n cp) (.slice b k cb)]) (fun i _ => n - (intOf i).toNat)
  case atStart => exact ⟨0, by omega, rfl, by rw [mixK_0]; exact HF2.out⟩
  case round =>
    obtain ⟨j, hj, rfl, hfr⟩ := hrel
    by_cases hlt : j < n
    · obtain ⟨g, rfl, hg, hc1, hz1⟩ := hfr.openI j (by rw [mixK_len, HN.out]; exact hlt)
      obtain ⟨c0, c1, c2, c3, c4, c5⟩ := hfr.roAt 1 rfl
      have hst := mixK_step 21 vs j (by rw [HN.out]; exact hlt)
      rw [mixK_nth _ _ _ _ (by rw [HN.out]; exact hlt), if_neg (by omega)] at hc1
      obtain ⟨x, hx⟩ : ∃ x, nth vs j = x := ⟨_, rfl⟩
      rw [hx] at hc1 hst
      have HST := Lib.hid hst
      have HF := Lib.hid hfr
      clear hx hst hfr hg
      have q1 : (0 : Int) ≤ (j : Int) := by omega
      have q2 : (j : Int) < (n : Int) := by omega
      go_wp2_with fail
      go_region_with (first | (go_at_call 20; refine (within_any _ _ _ (by omega) (by omega)).mono ?_; rintro e w' ⟨rfl, rfl⟩))
      all_goals
        go_wp2_with fail
        go_roundw
        case rel => exact ⟨j + 1, by omega, by go_num, by rw [← HST.out]; exact HF.out.drew.setInt j _⟩
        case measure => simp only [intOf]; omega
    · obtain rfl : j = n := by omega
      have hmx := mixK_all 21 vs
      rw [HN.out] at hmx
      rw [hmx] at hfr
      obtain ⟨us, hus⟩ : ∃ us, vs.map (· % 21) = us := ⟨_, rfl⟩
      have HL : Hid (us.length = j) := Lib.hid (by rw [← hus, List.length_map]; exact HN.out)
      have H0 : Hid (∀ i, i < us.length → 0 ≤ nth us i ∧ nth us i ≤ 20) := Lib.hid (by rw [← hus]; exact mod21 vs)
      rw [hus] at hfr
      clear hmx hus
      obtain ⟨c0, c1, c2, c3, c4, c5⟩ := hfr.roAt 1 rfl
      have HF := Lib.hid hfr
      clear hfr
      go_wp2_with fail
      refine (within_any _ _ _ (by omega) (by omega)).mono ?_; rintro e w' ⟨rfl, rfl⟩
      obtain ⟨f, hf⟩ : ∃ f, 1 + t % 23 = f := ⟨_, rfl⟩
      have f1 : 1 ≤ f := by omega
      have f2 : f ≤ 23 := by omega
      by_cases hc : chkO us ws = 0
      · have ho := chkO_ok hc
        obtain rfl : k = j := by rw [← HK.out, ← HL.out]; exact ho.len
        have HO := Lib.hid ho
        have hW := oW_bd ho
        have hA := oA_bd ho
        have hM := oN_bd ho f
        obtain ⟨X, Y, r1⟩ : ∃ X Y, RedIs (oA us ws) (oW us ws) X Y := ⟨_, _, rfl, rfl⟩
        obtain ⟨P, Q, r2⟩ : ∃ P Q, RedIs (oN f us ws) (oW us ws) P Q := ⟨_, _, rfl, rfl⟩
        have q1 := redIs_ratG r1 (by omega) (by omega)
        have q2 := redIs_ratG r2 (by omega) (by omega)
        have bp := redP_bdB 1200 (oN f us ws) (oW us ws) (by omega) (by omega) (by omega)
        have bq := redQ_le (oN f us ws) (oW us ws) (by omega)
        rw [r2.1] at bp
        rw [r2.2] at bq
        obtain ⟨U, V, r3⟩ : ∃ U V, RedIs (P * f) (Q * 1) U V := ⟨_, _, rfl, rfl⟩
        have mp := mul_bdI P f 1200 23 bp (by omega)
        have qQ := q2.1
        have q3 := redIs_ratG r3 (by omega) (by omega)
        have ex := eqv_red (oA us ws) (oW us ws)
        have ep := eqv_red (oN f us ws) (oW us ws)
        have eu := eqv_red (P * f) (Q * 1)
        rw [r1.1, r1.2] at ex
        rw [r2.1, r2.2] at ep
        rw [r3.1, r3.2] at eu
        have hend := markov_end ho (fun i hi => (H0.out i hi).1) f X Y P Q U V q1.1 q2.1 q3.1 ex ep eu
        have HE := Lib.hid (decide_eq_false hend)
        have HR1 := Lib.hid r1; have HR2 := Lib.hid r2; have HR3 := Lib.hid r3
        have Q1 := Lib.hid q1; have Q2 := Lib.hid q2; have Q3 := Lib.hid q3
        have Qf : Hid (Rat1 f 1) := Lib.hid (by unfold Rat1; exact ⟨by omega, by omega, by omega, by omega, by simp⟩)
        clear hc ho hW hA hM r1 r2 q1 q2 bp bq r3 mp qQ q3 ex ep eu hend
        go_wp2_with fail
        refine (oddMean us ws k _ b _ cb _ (HF.out.get 0 rfl) (HF.out.old HS'.out) HL.out HO.out X Y HR1.out).mono ?_; rintro e w2 ⟨rfl, hb⟩
        have F2 := (HF.out.keep hb).rq X Y w2.heap.size rfl
        clear c0 c1 c2 c3 c4 c5
        obtain ⟨c0, c1, -, -, -, -⟩ := F2.roAt 2 rfl
        have HG2 := Lib.hid F2; clear hb F2
        go_wp2_with fail
        refine (oddBeyond us ws k _ b _ cb f _ (HG2.out.get 1 rfl) (HG2.out.old HS'.out) HL.out HO.out P Q HR2.out).mono ?_; rintro e w3 ⟨rfl, hb⟩
        have F3 := (HG2.out.keep hb).rq P Q w3.heap.size rfl
        clear c0 c1
        obtain ⟨d0, d1, -, -, -, -⟩ := F3.rqAt 0 rfl
        have HG3 := Lib.hid F3; clear hb F3
        go_wp2_with fail
        refine (mul_fits P Q f 1 U V _ Q2.out Qf.out HR3.out Q3.out).mono ?_; rintro e w4 ⟨rfl, hb⟩
        have F4 := (HG3.out.keep hb).rq U V w4.heap.size rfl
        clear d0 d1
        obtain ⟨d0, d1, -, -, -, -⟩ := F4.rqAt 0 rfl
        obtain ⟨e0, e1, -, -, -, -⟩ := F4.rqAt 2 rfl
        have HG4 := Lib.hid F4; clear hb F4
        go_wp2_with fail
        refine (less_ok X Y U V _ Q1.out Q3.out).mono ?_; rintro e w5 ⟨rfl, hb⟩
        rw [HE.out]
        have HG5 := Lib.hid (HG4.out.keep hb)
        clear hb d0 d1 e0 e1
        go_wp2_with fail
        refine (good3b _ w5.heap.size _ rfl).mono ?_; rintro e w' ⟨rfl, rfl⟩
        have HG6 := Lib.hid (HG5.out.alloc (.cells #[.int .i64 0, .int .i64 0, .int .i64 0] 24))
        go_wp2_with fail
        go_ret
        exact ⟨rfl, HG6.out.bel⟩
      · obtain ⟨er, he⟩ : ∃ er, chkO us ws = er := ⟨_, rfl⟩
        rw [he] at hc
        have HE := Lib.hid he
        have HC := Lib.hid hc
        have z : (er != 0) = true := by rw [bne_iff_ne]; exact hc
        have z2 : (er == er) = true := by simp
        clear hc he
        go_wp2_with fail
        refine (oddMean_no us ws j k _ b _ cb _ (HF.out.get 0 rfl) (HF.out.old HS'.out) HL.out HK.out er HE.out HC.out).mono ?_; rintro e w2 ⟨rfl, hb⟩
        have F2 := (HF.out.keep hb).rq 0 0 w2.heap.size rfl
        clear c0 c1 c2 c3 c4 c5
        obtain ⟨c0, c1, -, -, -, -⟩ := F2.roAt 2 rfl
        have HG2 := Lib.hid F2; clear hb F2
        go_wp2_with fail
        refine (oddBeyond_no us ws j k _ b _ cb f _ (HG2.out.get 1 rfl) (HG2.out.old HS'.out) HL.out HK.out er HE.out HC.out).mono ?_; rintro e w3 ⟨rfl, hb⟩
        have HG3 := Lib.hid ((HG2.out.keep hb).rq 0 0 w3.heap.size rfl); clear hb
        go_wp2_with fail
        go_ret
        exact ⟨rfl, HG3.out.bel⟩
end Go.Proofs.Ytliajiilcicppaa
