/- Contract of odds.Both where one of them is not right. -/
import Derived.Test.YtliajiilcicppaaOdds
namespace Go.Proofs.Ytliajiilcicppaa
open Go.RowKit

set_option maxRecDepth 100000 in
set_option maxHeartbeats 1000000 in
theorem oddBoth_no1 (va wa : List Int) (n n' m m' : Nat) (a1 a2 b1 b2 : Option Addr) (ca1 ca2 cb1 cb2 : Nat) (w : World) (h1 : Sa w a1 (ints va)) (h2 : Sa w a2 (ints wa)) (hn : va.length = n) (hn' : wa.length = n') (er : Int) (he : chkO va wa = er) (h0 : er ≠ 0) :
    Calls Try.prog 32 #[.agg #[.slice a1 n ca1, .slice a2 n' ca2], .agg #[.slice b1 m cb1, .slice b2 m' cb2]] w fun e w' => e = .returned (.tuple #[.agg #[.slice .none 0 0, .slice .none 0 0], .int .i64 er]) ∧ Below w.heap.size w w' := by
  have F0 := Lib.hid ((((Fr.start w).ro (.slice a1 n ca1) (.slice a2 n' ca2) w.heap.size rfl).ro (.slice b1 m cb1) (.slice b2 m' cb2) (w.heap.size + 1) (by simp)).ro (.slice .none 0 0) (.slice .none 0 0) (w.heap.size + 1 + 1) (by simp))
  have z : (er != 0) = true := by rw [bne_iff_ne]; exact h0
  have H1 := Lib.hid h1; have H2 := Lib.hid h2; have HN := Lib.hid hn; have HN' := Lib.hid hn'; have HE := Lib.hid he
  clear h1 h2 h0 hn hn' he
  go_enter Try.func32, Try.ntmps32
  go_wp2_with fail
  refine (oddChk va wa n n' a1 a2 ca1 ca2 _ (F0.out.old H1.out) (F0.out.old H2.out) HN.out HN'.out).mono ?_; rintro e w1 ⟨rfl, hb⟩
  rw [HE.out]
  have F1 := F0.out.keep hb
  clear hb
  obtain ⟨d0, d1, -, -, d2, d3⟩ := F1.roAt 0 rfl
  have HF1 := Lib.hid F1; clear F1
  go_wp2_with fail
  exact bodyPost_ret (v := .tuple #[.agg #[.slice .none 0 0, .slice .none 0 0], .int .i64 er]) (by simp [results, Try.results32, go_sem, d0, d1]) rfl
    ⟨rfl, ((HF1.out.set 0 _).set 1 _).bel⟩

set_option maxRecDepth 100000 in
set_option maxHeartbeats 1000000 in
theorem oddBoth_no2 (va wa vb wb : List Int) (n n' m m' : Nat) (a1 a2 b1 b2 : Option Addr) (ca1 ca2 cb1 cb2 : Nat) (w : World) (h1 : Sa w a1 (ints va)) (h2 : Sa w a2 (ints wa)) (h3 : Sa w b1 (ints vb)) (h4 : Sa w b2 (ints wb)) (hn : va.length = n) (hn' : wa.length = n') (hm : vb.length = m) (hm' : wb.length = m') (hz : chkO va wa = 0) (er : Int) (he : chkO vb wb = er) (h0 : er ≠ 0) :
    Calls Try.prog 32 #[.agg #[.slice a1 n ca1, .slice a2 n' ca2], .agg #[.slice b1 m cb1, .slice b2 m' cb2]] w fun e w' => e = .returned (.tuple #[.agg #[.slice .none 0 0, .slice .none 0 0], .int .i64 er]) ∧ Below w.heap.size w w' := by
  have F0 := Lib.hid ((((Fr.start w).ro (.slice a1 n ca1) (.slice a2 n' ca2) w.heap.size rfl).ro (.slice b1 m cb1) (.slice b2 m' cb2) (w.heap.size + 1) (by simp)).ro (.slice .none 0 0) (.slice .none 0 0) (w.heap.size + 1 + 1) (by simp))
  have z : (er != 0) = true := by rw [bne_iff_ne]; exact h0
  have H1 := Lib.hid h1; have H2 := Lib.hid h2; have HN := Lib.hid hn; have HN' := Lib.hid hn'; have HE := Lib.hid he; have HZ := Lib.hid hz
  have H3 := Lib.hid h3; have H4 := Lib.hid h4; have HM := Lib.hid hm; have HM' := Lib.hid hm'
  clear h1 h2 h0 hn hn' he h3 h4 hm hm' hz
  go_enter Try.func32, Try.ntmps32
  go_wp2_with fail
  refine (oddChk va wa n n' a1 a2 ca1 ca2 _ (F0.out.old H1.out) (F0.out.old H2.out) HN.out HN'.out).mono ?_; rintro e w1 ⟨rfl, hb⟩
  rw [HZ.out]
  have F1 := F0.out.keep hb
  clear hb
  obtain ⟨c0, c1, -, -, -, -⟩ := F1.roAt 1 rfl
  have HF1 := Lib.hid F1; clear F1
  go_wp2_with fail
  refine (oddChk vb wb m m' b1 b2 cb1 cb2 _ (HF1.out.old H3.out) (HF1.out.old H4.out) HM.out HM'.out).mono ?_; rintro e w2 ⟨rfl, hb⟩
  rw [HE.out]
  have F2 := HF1.out.keep hb
  clear hb c0 c1
  obtain ⟨d0, d1, -, -, d2, d3⟩ := F2.roAt 0 rfl
  have HF2 := Lib.hid F2; clear F2
  go_wp2_with fail
  exact bodyPost_ret (v := .tuple #[.agg #[.slice .none 0 0, .slice .none 0 0], .int .i64 er]) (by simp [results, Try.results32, go_sem, d0, d1]) rfl
    ⟨rfl, ((HF2.out.set 0 _).set 1 _).bel⟩
end Go.Proofs.Ytliajiilcicppaa
