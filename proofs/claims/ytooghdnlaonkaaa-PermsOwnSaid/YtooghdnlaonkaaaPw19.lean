/- Several of my texts in one: DPerm0. -/
import Derived.Test.YtooghdnlaonkaaaPw07
import Derived.Test.YtooghdnlaonkaaaPw08
import Derived.Test.YtooghdnlaonkaaaPw14
import Derived.Test.YtooghdnlaonkaaaPw17
import Derived.Test.YtooghdnlaonkaaaPw18
import Derived.Test.YtooghdnlaonkaaaPw15
import Derived.Test.YtooghdnlaonkaaaPw16
/- castkeep.perms, ranks, deals. -/
namespace Go.Proofs.Ytooghdnlaonkaaa
open Go.RowKit

set_option maxRecDepth 100000 in
set_option maxHeartbeats 4000000 in
theorem perms_any (w : World) : Calls Try.prog 46 #[] w fun e w' => e = .returned (.bool true) ∧ Below w.heap.size w w' := by
  have HP := Lib.hid (show IsP [1, 2, 0] from isP_lit _ (by decide) (by decide))
  have HQ := Lib.hid (show IsP [1, 0, 2] from isP_lit _ (by decide) (by decide))
  have e1 : tmL [1, 2, 0] [1, 0, 2] = [2, 1, 0] := by decide
  have E1 := Lib.hid e1; clear e1
  go_enter Try.func46, Try.ntmps46
  go_wp2_with fail
  have F1 := (Fr.start w).lit p120 #[.int .i64 1, .int .i64 2, .int .i64 0] rfl 3 rfl (by omega) 3
  refine (order120 _ _ _ (F1.get 0 rfl)).mono ?_; rintro e w1 ⟨rfl, hb⟩
  have F2 := F1.below.keep hb
  clear F1 hb
  go_wp2_with fail
  have F3 := F2.lit [1, 2, 0] #[.int .i64 1, .int .i64 2, .int .i64 0] rfl 3 rfl (by omega) 3
  have F4 := F3.lit' [1, 0, 2] #[.int .i64 1, .int .i64 0, .int .i64 2] rfl 3 rfl (by omega) 3 (w1.heap.size + 1) (by simp)
  refine (permTimes [1, 2, 0] [1, 0, 2] 3 _ _ _ _ _ (F4.get 1 rfl) rfl HP.out (F4.get 0 rfl) rfl HQ.out (by omega)).mono ?_; rintro e w2 ⟨ad, cp, rfl, hcp, hf⟩
  rw [E1.out] at hf
  have F5 := (F4.call hf).sub (M := [_]) (List.singleton_sublist.2 List.mem_cons_self)
  clear F2 F3 F4 hf
  go_wp2_with fail
  refine (good2b _ w2.heap.size _ rfl).mono ?_; rintro e w' ⟨rfl, rfl⟩
  have F6 := F5.alloc (.cells #[.int .i64 0, .int .i64 0] 33)
  have F7 := F6.lit' [2, 1, 0] #[.int .i64 2, .int .i64 1, .int .i64 0] rfl 3 rfl (by omega) 3 (w2.heap.size + 1) (by simp)
  clear F5
  go_wp2_with fail
  refine (slEqual [2, 1, 0] [2, 1, 0] 3 3 _ _ _ _ _ (F7.get 1 rfl) (F7.get 0 rfl) rfl rfl (by omega) (by omega)).mono ?_; rintro e w3 ⟨rfl, hf⟩
  have F8 := F7.keep hf.bel
  rw [decide_eq_true (rfl : ([2, 1, 0] : List Int) = [2, 1, 0])]
  go_wp2_with fail
  go_ret
  exact ⟨rfl, F8.bel⟩
set_option maxRecDepth 100000 in
set_option maxHeartbeats 1000000 in
theorem ranks_any (w : World) : Calls Try.prog 47 #[] w fun e w' => e = .returned (.bool true) ∧ Below w.heap.size w w' := by
  have HP := Lib.hid (show IsP [1, 2, 0] from isP_lit _ (by decide) (by decide))
  have e1 : atS 3 (upTo 3) 3 = [1, 2, 0] := by decide
  have e2 : ofC (codeL [1, 2, 0]) = 3 := by decide
  have E1 := Lib.hid e1; have E2 := Lib.hid e2; clear e1 e2
  go_enter Try.func47, Try.ntmps47
  go_wp2_with fail
  refine (rankAt 3 3 _ (by omega) (by decide)).mono ?_; rintro e w1 ⟨ad, cp, rfl, hcp, hf⟩
  rw [E1.out] at hf
  have F2 := (Fr.start w).call hf
  clear hf hcp
  go_wp2_with fail
  have F3 := F2.lit [1, 2, 0] #[.int .i64 1, .int .i64 2, .int .i64 0] rfl 3 rfl (by omega) 3
  refine (rankOf [1, 2, 0] 3 _ _ _ (F3.get 0 rfl) rfl HP.out (by omega) (by omega)).mono ?_; rintro e w2 ⟨rfl, hb⟩
  rw [E2.out]
  have F4 := F3.keep hb
  clear F2 F3 hb
  go_wp2_with fail
  refine (good2b _ w2.heap.size _ rfl).mono ?_; rintro e w' ⟨rfl, rfl⟩
  have F5 := F4.alloc (.cells #[.int .i64 0, .int .i64 0] 33)
  clear F4
  go_wp2_with fail
  have F6 := F5.lit' [1, 2, 0] #[.int .i64 1, .int .i64 2, .int .i64 0] rfl 3 rfl (by omega) 3 (w2.heap.size + 1) (by simp)
  refine (slEqual [1, 2, 0] [1, 2, 0] 3 3 _ _ _ _ _ (F6.get 2 rfl) (F6.get 0 rfl) rfl rfl (by omega) (by omega)).mono ?_; rintro e w3 ⟨rfl, hf⟩
  have F7 := F6.keep hf.bel
  rw [decide_eq_true (rfl : ([1, 2, 0] : List Int) = [1, 2, 0])]
  go_wp2_with fail
  go_ret
  exact ⟨rfl, F7.bel⟩
set_option maxRecDepth 100000 in
theorem deals_any (w : World) : Calls Try.prog 48 #[] w fun e w' => e = .returned (.bool true) ∧ Below w.heap.size w w' := by
  have HP := Lib.hid (show LotOk [0, 0, 1] from by unfold LotOk; decide)
  have e1 : dealL [0, 0, 1] = [1, 2, 0] := by decide
  have E1 := Lib.hid e1; clear e1
  go_enter Try.func48, Try.ntmps48
  go_wp2_with fail
  have F1 := (Fr.start w).lit [0, 0, 1] #[.int .i64 0, .int .i64 0, .int .i64 1] rfl 3 rfl (by omega) 3
  refine (shDeal [0, 0, 1] 3 _ _ _ (F1.get 0 rfl) rfl HP.out (by omega)).mono ?_; rintro e w1 ⟨ad, cp, rfl, hcp, hf⟩
  rw [E1.out] at hf
  have F2 := F1.below.call hf
  clear F1 hf hcp
  go_wp2_with fail
  have F3 := F2.lit [1, 2, 0] #[.int .i64 1, .int .i64 2, .int .i64 0] rfl 3 rfl (by omega) 3
  refine (slEqual [1, 2, 0] [1, 2, 0] 3 3 _ _ _ _ _ (F3.get 1 rfl) (F3.get 0 rfl) rfl rfl (by omega) (by omega)).mono ?_; rintro e w2 ⟨rfl, hf⟩
  have F4 := F3.keep hf.bel
  rw [decide_eq_true (rfl : ([1, 2, 0] : List Int) = [1, 2, 0])]
  go_wp2_with fail
  go_ret
  exact ⟨rfl, F4.bel⟩
end Go.Proofs.Ytooghdnlaonkaaa
