/- Contract of castkeep.oddsLive. -/
import Derived.Test.YtliajiilcicppaaOdds2
import Derived.Test.YtliajiilcicppaaOdds3
import Derived.Test.YtliajiilcicppaaGood
namespace Go.Proofs.Ytliajiilcicppaa
open Go.RowKit

theorem odd_lit (vs ws : List Int) (h : OddOk vs ws) : OddOk vs ws := h
set_option maxRecDepth 100000 in
set_option maxHeartbeats 2000000 in
theorem oddsLive_any (w : World) : Calls Try.prog 29 #[] w fun e w' => e = .returned (.bool true) ∧ Below w.heap.size w w' := by
  have ok : OddOk [1, 4] [2, 1] := ⟨by decide, by decide, rfl, by decide⟩
  have r1 : RedIs (oA [1, 4] [2, 1]) (oW [1, 4] [2, 1]) 2 1 := by unfold RedIs; decide
  have r2 : RedIs (sP [1, 4] [2, 1]) (sQ [1, 4] [2, 1]) 2 1 := by unfold RedIs; decide
  have HO := Lib.hid ok; have HR1 := Lib.hid r1; have HR2 := Lib.hid r2; clear ok r1 r2
  go_enter Try.func29, Try.ntmps29
  go_wp2_with fail
  have F1 := ((Fr.start w).lit [1, 4] #[.int .i64 1, .int .i64 4] rfl 2 rfl (by omega) 3).lit' [2, 1] #[.int .i64 2, .int .i64 1] rfl 2 rfl (by omega) 3 (w.heap.size + 1) (by simp)
  refine (oddMean [1, 4] [2, 1] 2 _ _ _ _ _ (F1.get 1 rfl) (F1.get 0 rfl) rfl HO.out 2 1 HR1.out).mono ?_; rintro e w1 ⟨rfl, hb⟩
  have HF2 := Lib.hid ((F1.keep hb).rq 2 1 w1.heap.size rfl)
  clear F1 hb
  go_wp2_with fail
  have F3 := (HF2.out.lit' [1, 4] #[.int .i64 1, .int .i64 4] rfl 2 rfl (by omega) 3 (w1.heap.size + 1) (by simp)).lit' [2, 1] #[.int .i64 2, .int .i64 1] rfl 2 rfl (by omega) 3 (w1.heap.size + 1 + 1) (by simp)
  refine (oddSpread [1, 4] [2, 1] 2 _ _ _ _ _ (F3.get 1 rfl) (F3.get 0 rfl) rfl HO.out 2 1 HR2.out).mono ?_; rintro e w2 ⟨rfl, hb⟩
  have HF4 := Lib.hid ((F3.keep hb).rq 2 1 w2.heap.size rfl)
  clear F3 hb
  go_wp2_with fail
  refine (good2b _ (w2.heap.size + 1) _ (by simp)).mono ?_; rintro e w' ⟨rfl, rfl⟩
  have F5 := HF4.out.alloc (.cells #[.int .i64 0, .int .i64 0] 24)
  obtain ⟨c0, c1, -, -, -, -⟩ := F5.rqAt 0 rfl
  obtain ⟨d0, d1, -, -, -, -⟩ := F5.rqAt 3 rfl
  have HF5 := Lib.hid F5; clear F5
  go_wp2_with fail
  go_ret
  exact ⟨rfl, HF5.out.bel⟩
end Go.Proofs.Ytliajiilcicppaa
