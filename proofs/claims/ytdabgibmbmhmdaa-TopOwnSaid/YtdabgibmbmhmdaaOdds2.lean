/- Contracts of odds.Mean, Spread, Beyond. -/
import Derived.Test.YtdabgibmbmhmdaaOdds
import Derived.RegionTactic
import Derived.RegionCalls
namespace Go.Proofs.Ytdabgibmbmhmdaa
open Go.RowKit

set_option maxRecDepth 100000 in
set_option maxHeartbeats 4000000 in
theorem oddMean (vs ws : List Int) (n : Nat) (a b : Option Addr) (ca cb : Nat) (w : World) (h : Sa w a (ints vs)) (h' : Sa w b (ints ws)) (hn : vs.length = n) (ho : OddOk vs ws) (X Y : Int) (hr : RedIs (oA vs ws) (oW vs ws) X Y) :
    Calls Try.prog 29 #[.agg #[.slice a n ca, .slice b n cb]] w fun e w' => e = .returned (.tuple #[.agg #[.int .i64 X, .int .i64 Y], .int .i64 0]) ∧ Below w.heap.size w w' := by
  have HN := Lib.hid hn; have HK := Lib.hid (ho.len.trans hn); have HS := Lib.hid h; have HS' := Lib.hid h'; have HO := Lib.hid ho
  have HC := Lib.hid (chkO_of ho); have HR := Lib.hid hr
  have F0 := Lib.hid (((Fr.start w).ro (.slice a n ca) (.slice b n cb) w.heap.size rfl).rq 0 0 (w.heap.size + 1) (by simp))
  obtain ⟨v1, v2⟩ := oW_bd ho
  obtain ⟨v3, v4⟩ := oA_bd ho
  clear h h' hn ho hr
  go_enter Try.func29, Try.ntmps29
  go_wp2_with fail
  refine (oddChk vs ws n n a b ca cb _ (F0.out.old HS.out) (F0.out.old HS'.out) HN.out HK.out).mono ?_; rintro e w1 ⟨rfl, hb⟩
  rw [HC.out]
  have F1 := F0.out.keep hb
  obtain ⟨c0, c1, hz, hz0, -, -⟩ := F1.roAt 1 rfl
  clear hb hz hz0
  have HF1 := Lib.hid F1; clear F1
  go_wp2_with fail
  have HFc := Lib.hid HF1.out.drew; clear HF1
  go_region_with (first
    | (go_at_call 71; with_reducible refine (oddASum vs ws n _ _ _ _ _ (HFc.out.old HS.out) (HFc.out.old HS'.out) HN.out HO.out).mono ?_; rintro e w2 ⟨rfl, hb⟩; have F2 := HFc.out.keep hb; clear hb HFc; obtain ⟨c02, c12, hz2, hz02, -, -⟩ := F2.roAt 1 rfl; clear hz2 hz02; have HFc := Lib.hid F2; clear F2)
    | (go_at_call 71; with_reducible refine (oddOneSum vs ws n _ _ _ _ _ (HFc.out.old HS.out) (HFc.out.old HS'.out) HN.out HO.out).mono ?_; rintro e w3 ⟨rfl, hb⟩; have F3 := HFc.out.keep hb; clear hb HFc; obtain ⟨c03, c13, hz2, hz02, -, -⟩ := F3.roAt 1 rfl; clear hz2 hz02; have HFc := Lib.hid F3; clear F3)
    | (go_at_call 70; refine (make_fits _ _ X Y _ (by omega) (by omega) HR.out).mono ?_; rintro e w4 ⟨rfl, hb⟩; have F4 := HFc.out.keep hb; clear hb; obtain ⟨d0, d1, dz, dz0, df0, df1⟩ := F4.rqAt 0 rfl; have HF4 := Lib.hid F4; clear F4))
  all_goals
    go_wp2_with fail
    exact bodyPost_ret (v := .tuple #[.agg #[.int .i64 X, .int .i64 Y], .int .i64 0]) (by simp [results, Try.results29, go_sem, d0, d1]) rfl
      ⟨rfl, (HF4.out.rqPut X Y).bel⟩

set_option maxRecDepth 100000 in
set_option maxHeartbeats 1000000 in
theorem oddMean_no (vs ws : List Int) (n k : Nat) (a b : Option Addr) (ca cb : Nat) (w : World) (h : Sa w a (ints vs)) (h' : Sa w b (ints ws)) (hn : vs.length = n) (hk : ws.length = k) (er : Int) (he : chkO vs ws = er) (h0 : er ≠ 0) :
    Calls Try.prog 29 #[.agg #[.slice a n ca, .slice b k cb]] w fun e w' => e = .returned (.tuple #[.agg #[.int .i64 0, .int .i64 0], .int .i64 er]) ∧ Below w.heap.size w w' := by
  have F0 := Lib.hid (((Fr.start w).ro (.slice a n ca) (.slice b k cb) w.heap.size rfl).rq 0 0 (w.heap.size + 1) (by simp))
  have z : (er != 0) = true := by rw [bne_iff_ne]; exact h0
  have HS := Lib.hid h; have HS' := Lib.hid h'; have HN := Lib.hid hn; have HK := Lib.hid hk; have HE := Lib.hid he
  clear h h' h0 hn hk he
  go_enter Try.func29, Try.ntmps29
  go_wp2_with fail
  refine (oddChk vs ws n k a b ca cb _ (F0.out.old HS.out) (F0.out.old HS'.out) HN.out HK.out).mono ?_; rintro e w1 ⟨rfl, hb⟩
  rw [HE.out]
  have F1 := F0.out.keep hb
  clear hb
  obtain ⟨d0, d1, dz, dz0, df0, df1⟩ := F1.rqAt 0 rfl
  have HF1 := Lib.hid F1; clear F1
  go_wp2_with fail
  exact bodyPost_ret (v := .tuple #[.agg #[.int .i64 0, .int .i64 0], .int .i64 er]) (by simp [results, Try.results29, go_sem, d0, d1]) rfl
    ⟨rfl, (HF1.out.rqPut 0 0).bel⟩

end Go.Proofs.Ytdabgibmbmhmdaa
