/- Contracts of odds.Spread. -/
import Derived.Test.YtdabgibmbmhmdaaOdds
import Derived.RegionTactic
import Derived.RegionCalls
namespace Go.Proofs.Ytdabgibmbmhmdaa
open Go.RowKit

set_option maxRecDepth 100000 in
set_option maxHeartbeats 4000000 in
theorem oddSpread (vs ws : List Int) (n : Nat) (a b : Option Addr) (ca cb : Nat) (w : World) (h : Sa w a (ints vs)) (h' : Sa w b (ints ws)) (hn : vs.length = n) (ho : OddOk vs ws) (X Y : Int) (hr : RedIs (sP vs ws) (sQ vs ws) X Y) :
    Calls Try.prog 30 #[.agg #[.slice a n ca, .slice b n cb]] w fun e w' => e = .returned (.tuple #[.agg #[.int .i64 X, .int .i64 Y], .int .i64 0]) ∧ Below w.heap.size w w' := by
  have HN := Lib.hid hn; have HK := Lib.hid (ho.len.trans hn); have HS := Lib.hid h; have HS' := Lib.hid h'; have HO := Lib.hid ho
  have HC := Lib.hid (chkO_of ho)
  have F0 := Lib.hid (((Fr.start w).ro (.slice a n ca) (.slice b n cb) w.heap.size rfl).rq 0 0 (w.heap.size + 1) (by simp))
  obtain ⟨v1, v2⟩ := oW_bd ho
  obtain ⟨v3, v4⟩ := oA_bd ho
  obtain ⟨v5, v6⟩ := oB_bd ho
  obtain ⟨p1, p2, q1, q2⟩ := sPQ_bd ho
  have hr1 : redP (sP vs ws) (sQ vs ws) = X := hr.1
  have hr2 : redQ (sP vs ws) (sQ vs ws) = Y := hr.2
  have HRR : Hid (RedIs X Y X Y) := Lib.hid (by rw [← hr1, ← hr2]; exact ⟨(red_self (red_rat _ _ (by omega) (by omega))).1, (red_self (red_rat _ _ (by omega) (by omega))).2⟩)
  have hX : 0 ≤ X ∧ X ≤ 576000000 := by
    have := redP_mul (sP vs ws) (sQ vs ws)
    have g := redG_pos (sP vs ws) (sQ vs ws) (by omega)
    rw [hr1] at this
    have h2 := redP_bdB 576000000 (sP vs ws) (sQ vs ws) (by omega) (by omega) (by omega)
    rw [hr1] at h2
    refine ⟨?_, h2.2⟩
    rw [← hr1]; exact Int.ediv_nonneg p1 (by omega)
  have hY : 0 < Y ∧ Y ≤ 1440000 := by
    have h1 := redQ_pos (sP vs ws) (sQ vs ws) (by omega)
    have h2 := redQ_le (sP vs ws) (sQ vs ws) (by omega)
    rw [hr2] at h1 h2; omega
  have HSP : Hid (sP vs ws = oW vs ws * oB vs ws - oA vs ws * oA vs ws) := Lib.hid rfl
  have HSQ : Hid (sQ vs ws = oW vs ws * oW vs ws) := Lib.hid rfl
  have HOS := Lib.hid (oddOneSum vs ws n a b ca cb); have HAS := Lib.hid (oddASum2 vs ws n a b ca cb); have HBS := Lib.hid (oddBSum vs ws n a b ca cb)
  have m1 := mul_bdI (oW vs ws) (oB vs ws) 1200 480000 (by omega) (by omega)
  have m2 := mul_bdI (oA vs ws) (oA vs ws) 24000 24000 (by omega) (by omega)
  clear h h' hn ho hr
  obtain ⟨W, hW⟩ : ∃ W, oW vs ws = W := ⟨_, rfl⟩
  obtain ⟨A, hA⟩ : ∃ A, oA vs ws = A := ⟨_, rfl⟩
  obtain ⟨B, hB⟩ : ∃ B, oB vs ws = B := ⟨_, rfl⟩
  obtain ⟨p, hp⟩ : ∃ p, sP vs ws = p := ⟨_, rfl⟩
  obtain ⟨q, hq⟩ : ∃ q, sQ vs ws = q := ⟨_, rfl⟩
  rw [hW, hA, hB, hp] at HSP
  rw [hW, hq] at HSQ
  rw [hW] at v1 v2 HOS m1
  rw [hA] at v3 v4 HAS m2
  rw [hB] at v5 v6 HBS m1
  rw [hp] at p1 p2 hr1 hr2
  rw [hq] at q1 q2 hr1 hr2
  obtain ⟨x1, hx1⟩ : ∃ x, W * B = x := ⟨_, rfl⟩
  obtain ⟨x2, hx2⟩ : ∃ x, A * A = x := ⟨_, rfl⟩
  have hx3 : W * W = q := HSQ.out.symm
  have hx4 : x1 - x2 = p := by rw [← hx1, ← hx2]; exact HSP.out.symm
  rw [hx1] at m1
  rw [hx2] at m2
  obtain ⟨m11, m12⟩ := m1
  obtain ⟨m21, m22⟩ := m2
  obtain ⟨X1, X2⟩ := hX
  obtain ⟨Y1, Y2⟩ := hY
  have HR1 := Lib.hid hr1; have HR2 := Lib.hid hr2
  clear hW hA hB hp hq HSP HSQ hr1 hr2
  go_enter Try.func30, Try.ntmps30
  go_wp2_with fail
  refine (oddChk vs ws n n a b ca cb _ (F0.out.old HS.out) (F0.out.old HS'.out) HN.out HK.out).mono ?_; rintro e w1 ⟨rfl, hb⟩
  rw [HC.out]
  have F1 := F0.out.keep hb
  obtain ⟨c0, c1, hz, hz0, -, -⟩ := F1.roAt 1 rfl
  clear hb hz hz0
  have HF1 := Lib.hid F1; clear F1
  go_wp2_with fail
  refine (HOS.out _ (HF1.out.old HS.out) (HF1.out.old HS'.out) HN.out HO.out).mono ?_; rintro e w2 ⟨rfl, hb⟩
  have F2 := HF1.out.keep hb
  clear c0 c1
  obtain ⟨c0, c1, hz, hz0, -, -⟩ := F2.roAt 1 rfl
  clear hb hz hz0
  have HF2 := Lib.hid F2; clear F2
  go_wp2_with fail
  refine (HAS.out _ (HF2.out.old HS.out) (HF2.out.old HS'.out) HN.out HO.out).mono ?_; rintro e w3 ⟨rfl, hb⟩
  have F3 := HF2.out.keep hb
  clear c0 c1
  obtain ⟨c0, c1, hz, hz0, -, -⟩ := F3.roAt 1 rfl
  clear hb hz hz0
  have HF3 := Lib.hid F3; clear F3
  go_wp2_with fail
  refine (HBS.out _ (HF3.out.old HS.out) (HF3.out.old HS'.out) HN.out HO.out).mono ?_; rintro e w4 ⟨rfl, hb⟩
  have F4 := HF3.out.keep hb
  clear c0 c1
  obtain ⟨c0, c1, hz, hz0, -, -⟩ := F4.roAt 1 rfl
  clear hb hz hz0
  have HF4 := Lib.hid F4; clear F4
  go_wp2_with fail

  clear hx1 hx2 hx3 hx4 m11 m12 m21 m22 c0 c1
  go_loopw [10, 11] (fun x y wr => ∃ s t : Nat, s ≤ 600000000 ∧ t ≤ 600000000 ∧ Hid (Nat.gcd s t = Int.gcd p q) ∧ x = .int .i64 s ∧ y = .int .i64 t ∧ Fr w wr [eQ (w.heap.size + 1) 0 0, eO w.heap.size (.slice a n ca) (.slice b n cb)]) (fun _ y _ => (intOf y).toNat)
  case atStart =>
    refine ⟨p.toNat, q.toNat, by omega, by omega, Lib.hid ?_, val_int (by omega), val_int (by omega), HF4.out⟩
    rw [show p.toNat = p.natAbs from by omega, show q.toNat = q.natAbs from by omega]; rfl
  case round =>
    obtain ⟨s, t, hs, ht, hgc, rfl, rfl, hfr⟩ := hrel
    have HF5 := Lib.hid hfr; clear hfr
    by_cases ht0 : 0 < t
    · have hne : ((t : Int) == 0) = false := by simp; omega
      have hlt := Nat.mod_lt s ht0
      go_wp2_with fail
      go_region
      go_wp2_with fail
      go_roundw
      case rel =>
        refine ⟨t, s % t, ht, by omega, Lib.hid ?_, rfl, val_int (by simp), HF5.out.drew⟩
        rw [← hgc.out, Nat.gcd_comm s t, Nat.gcd_rec t s, Nat.gcd_comm]
      case measure => simp [intOf]; omega
    · obtain rfl : t = 0 := by omega
      have hg : (s : Int) = redG p q := by unfold redG; rw [← hgc.out, Nat.gcd_zero_right]
      have hgp := redG_pos p q (by omega)
      have e1 : p / (s : Int) = X := by rw [hg]; exact HR1.out
      have e1' : IntKind.i64.wrap (p.tdiv (s : Int)) = X := by rw [IntWalk.i64_quo p s (by omega)]; exact e1
      have e2' : q / (s : Int) = Y := by rw [hg]; exact HR2.out
      have e2 : IntKind.i64.wrap (q.tdiv (s : Int)) = Y := by rw [IntWalk.i64_quo q s (by omega), hg]; exact HR2.out
      have hs0 : 0 < s := by omega
      have hne : ((s : Int) == 0) = false := by simp; omega
      clear hg hgp hgc
      go_wp2_with fail
      go_region_with (go_at_call 70; with_reducible refine (make_fits X Y X Y _ (by omega) (by omega) HRR.out).mono ?_; rintro e w6 ⟨rfl, hb⟩; have F6 := (HF5.out.drew).keep hb; clear hb; obtain ⟨d0, d1, dz, dz0, df0, df1⟩ := F6.rqAt 0 rfl; have HF6 := Lib.hid F6; clear F6)
      all_goals
        go_wp2_with fail
        exact bodyPost_ret (v := .tuple #[.agg #[.int .i64 X, .int .i64 Y], .int .i64 0]) (by simp [results, Try.results30, go_sem, d0, d1]) rfl
          ⟨rfl, (HF6.out.rqPut X Y).bel⟩

set_option maxRecDepth 100000 in
set_option maxHeartbeats 1000000 in
theorem oddSpread_no (vs ws : List Int) (n k : Nat) (a b : Option Addr) (ca cb : Nat) (w : World) (h : Sa w a (ints vs)) (h' : Sa w b (ints ws)) (hn : vs.length = n) (hk : ws.length = k) (er : Int) (he : chkO vs ws = er) (h0 : er ≠ 0) :
    Calls Try.prog 30 #[.agg #[.slice a n ca, .slice b k cb]] w fun e w' => e = .returned (.tuple #[.agg #[.int .i64 0, .int .i64 0], .int .i64 er]) ∧ Below w.heap.size w w' := by
  have F0 := Lib.hid (((Fr.start w).ro (.slice a n ca) (.slice b k cb) w.heap.size rfl).rq 0 0 (w.heap.size + 1) (by simp))
  have z : (er != 0) = true := by rw [bne_iff_ne]; exact h0
  have HS := Lib.hid h; have HS' := Lib.hid h'; have HN := Lib.hid hn; have HK := Lib.hid hk; have HE := Lib.hid he
  clear h h' h0 hn hk he
  go_enter Try.func30, Try.ntmps30
  go_wp2_with fail
  refine (oddChk vs ws n k a b ca cb _ (F0.out.old HS.out) (F0.out.old HS'.out) HN.out HK.out).mono ?_; rintro e w1 ⟨rfl, hb⟩
  rw [HE.out]
  have F1 := F0.out.keep hb
  clear hb
  obtain ⟨d0, d1, dz, dz0, df0, df1⟩ := F1.rqAt 0 rfl
  have HF1 := Lib.hid F1; clear F1
  go_wp2_with fail
  exact bodyPost_ret (v := .tuple #[.agg #[.int .i64 0, .int .i64 0], .int .i64 er]) (by simp [results, Try.results30, go_sem, d0, d1]) rfl
    ⟨rfl, (HF1.out.rqPut 0 0).bel⟩
end Go.Proofs.Ytdabgibmbmhmdaa
