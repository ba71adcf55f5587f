/- castkeep.partsLive -/
import Derived.Test.YtdabgibmbmhmdaaPartT
import Derived.Test.YtdabgibmbmhmdaaPartC
import Derived.Test.YtdabgibmbmhmdaaSlEq2
namespace Go.Proofs.Ytdabgibmbmhmdaa
open Go.RowKit

set_option maxHeartbeats 1000000 in
theorem partsLive_any (w : World) : Calls Try.prog 42 #[] w fun e w' => e = .returned (.bool true) ∧ Below w.heap.size w w' := by
  have HP := Lib.hid (show PartOk [3, 1] from by unfold PartOk; decide)
  have e1 : trn [3, 1] = [2, 1, 1] := by decide
  have e2 : ((pN 5 5 : Nat) : Int) = 7 := by decide
  have E1 := Lib.hid e1; have E2 := Lib.hid e2; clear e1 e2
  go_enter Try.func42, Try.ntmps42
  go_wp2_with fail
  have F1 := (Fr.start w).lit [3, 1] #[.int .i64 3, .int .i64 1] rfl 2 rfl (by omega) 3
  refine (partTurned [3, 1] 2 _ _ _ (F1.get 0 rfl) rfl HP.out).mono ?_; rintro e w1 ⟨ad, cp, rfl, hc, hf⟩
  rw [E1.out] at hf hc ⊢
  have F2 := F1.below.call hf
  clear F1 hf
  go_wp2_with fail
  refine (partCount_i _ _ 5 5 _ rfl rfl (by omega) (by omega)).mono ?_; rintro e w2 ⟨rfl, hb⟩
  rw [E2.out]
  replace F2 := F2.keep hb
  clear hb
  go_wp2_with fail
  refine (good2 _ _).mono ?_; rintro e w' ⟨rfl, rfl⟩
  have F3 := (F2.alloc (.cells #[.int .i64 0, .int .i64 0] 23)).lit' [2, 1, 1] #[.int .i64 2, .int .i64 1, .int .i64 1] rfl 3 rfl (by omega) 3 (w2.heap.size + 1) (by simp)
  go_wp2_with fail
  refine (slEqual [2, 1, 1] [2, 1, 1] 3 3 _ _ _ _ _ (F3.get 1 rfl) (F3.get 0 rfl) rfl rfl (by omega) (by omega)).mono ?_; rintro e w4 ⟨rfl, hf⟩
  replace F3 := F3.keep hf.bel
  go_wp2_with fail
  go_ret
  exact ⟨rfl, F3.bel⟩

end Go.Proofs.Ytdabgibmbmhmdaa
