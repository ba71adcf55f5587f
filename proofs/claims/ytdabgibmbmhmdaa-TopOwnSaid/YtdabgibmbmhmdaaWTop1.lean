/- The walk of the law TopOwn. -/
import Derived.Test.YtdabgibmbmhmdaaTwoApp
import Derived.Test.YtdabgibmbmhmdaaOdds2
import Derived.Test.YtdabgibmbmhmdaaOdds3
import Derived.Test.YtdabgibmbmhmdaaTop
import Derived.Test.YtdabgibmbmhmdaaDerC
import Derived.Deep.RegionHeld3
namespace Go.Proofs.Ytdabgibmbmhmdaa
open Go.RowKit

def fixV (n j : Nat) : List Int := ((List.range j).filter (fun k => decide (0 < fixN n k))).map fun k : Nat => (k : Int)
def fixW (n j : Nat) : List Int := ((List.range j).filter (fun k => decide (0 < fixN n k))).map fun k : Nat => ((fixN n k : Nat) : Int)
theorem fixV_yes (n j : Nat) (h : 0 < fixN n j) : fixV n (j + 1) = fixV n j ++ [(j : Int)] ∧ fixW n (j + 1) = fixW n j ++ [((fixN n j : Nat) : Int)] := by
  unfold fixV fixW; rw [List.range_succ, List.filter_append, List.map_append, List.map_append]; simp [h]
theorem fixV_no (n j : Nat) (h : ¬ 0 < fixN n j) : fixV n (j + 1) = fixV n j ∧ fixW n (j + 1) = fixW n j := by
  unfold fixV fixW; rw [List.range_succ, List.filter_append, List.map_append, List.map_append]; simp [h]
theorem fixV_len (n j : Nat) : (fixW n j).length = (fixV n j).length := by simp [fixV, fixW]
theorem fix_all : ∀ n, n < 5 → 2 ≤ n → chkO (fixV n (n + 1)) (fixW n (n + 1)) = 0 ∧ redP (oA (fixV n (n + 1)) (fixW n (n + 1))) (oW (fixV n (n + 1)) (fixW n (n + 1))) = 1 ∧ redQ (oA (fixV n (n + 1)) (fixW n (n + 1))) (oW (fixV n (n + 1)) (fixW n (n + 1))) = 1 ∧
    redP (sP (fixV n (n + 1)) (fixW n (n + 1))) (sQ (fixV n (n + 1)) (fixW n (n + 1))) = 1 ∧ redQ (sP (fixV n (n + 1)) (fixW n (n + 1))) (sQ (fixV n (n + 1)) (fixW n (n + 1))) = 1 := by decide +kernel
theorem fix_small : ∀ n, n < 5 → ∀ k, k < 5 → fixN n k ≤ 100 := by decide +kernel
def OwnS (B : Nat) (V U : Value) (w : World) : Prop := w.cell? ⟨B, 0, .none⟩ = some V ∧ w.cell? ⟨B, 1, .none⟩ = some U
theorem ownS_of {w0 w : World} {V E1 U E2 : Ent} {B : Nat} {v u : Value} (F : Fr w0 w [V, E1, U, E2, eO B v u]) : OwnS B v u w := ⟨(F.roAt 4 rfl).1, (F.roAt 4 rfl).2.1⟩

set_option maxRecDepth 100000 in
set_option maxHeartbeats 8000000 in
theorem topOwn_any (t0 : Int) (w : World) : Calls Try.prog 6 #[.int .i64 t0] w fun e w' => e = .returned (.bool true) ∧ Below w.heap.size w w' := by
  obtain ⟨n, hn⟩ : ∃ n : Nat, 2 + t0 % 3 = (n : Int) := ⟨(2 + t0 % 3).toNat, by omega⟩
  have n1 : 2 ≤ n := by omega
  have n3 : n ≤ 4 := by omega
  have HF0 := Lib.hid ((Fr.start w).ro (.slice .none 0 0) (.slice .none 0 0) w.heap.size rfl)
  go_enter Try.func6, Try.ntmps6
  go_wp2_with fail
  refine (within_any _ _ _ (by omega) (by omega)).mono ?_; rintro e w' ⟨rfl, rfl⟩
  go_wp2_with fail
  clear hn
  obtain ⟨B, hB⟩ : ∃ B, w.heap.size = B := ⟨_, rfl⟩
  rw [hB] at HF0
  simp only [hB]
  go_loopw [17] (fun i wr => ∃ (j N : Nat) (ad1 ad2 : Option Addr) (q1 q2 : Nat), j ≤ n + 1 ∧ i = .int .i64 j ∧ N ≤ j ∧ Hid ((fixV n j).length = N) ∧
    Fr w wr [⟨3, .slice ad1 N q1, ints (fixV n j)⟩, ⟨3, .slice .none 0 0, []⟩, ⟨3, .slice ad2 N q2, ints (fixW n j)⟩, ⟨3, .slice .none 0 0, []⟩, eO B (.slice ad1 N q1) (.slice ad2 N q2)]) (fun i _ => n + 1 - (intOf i).toNat)
  case atStart => exact ⟨0, 0, .none, .none, 0, 0, by omega, rfl, by omega, Lib.hid rfl, (((HF0.out.nilSlice _).nilSlice _).nilSlice _).nilSlice _⟩
  case round =>
    obtain ⟨j, N, ad1, ad2, q1, q2, hj, rfl, hNj, HL, hfr⟩ := hrel
    by_cases hlt : j < n + 1
    · have HX := Lib.hid (derFixed_nat n j)
      have hxs := fix_small n (by omega) j (by omega)
      have hy := fixV_yes n j
      have hno := fixV_no n j
      obtain ⟨x, hx⟩ : ∃ x, fixN n j = x := ⟨_, rfl⟩
      rw [hx] at HX hxs hy hno
      have HFR := Lib.hid hfr
      have g : decide ((j : Int) < (n : Int) + 1) = true := decide_eq_true (by omega)
      clear hx hfr
      go_wp2_with fail
      refine (HX.out _ (by omega) (by omega)).mono ?_; rintro e w' ⟨rfl, rfl⟩
      by_cases hx0 : 0 < x
      · have HPV := Lib.hid (hy hx0).1; have HPW := Lib.hid (hy hx0).2
        have HB : Hid (N ≤ 1000000) := Lib.hid (by omega)
        have g2 : decide ((0 : Int) < (x : Int)) = true := decide_eq_true (by omega)
        clear hy hno
        go_wp2_with fail
        refine wp_region_U [11, 13] (OwnS B (.slice ad1 N q1) (.slice ad2 N q2)) (by kernel_rfl) ?_
        have hSd : OwnS B (.slice ad1 N q1) (.slice ad2 N q2) wr.drew := ownS_of HFR.out.drew
        refine wpAnyU_takeY (i := 0) (v := ?_) rfl (by kernel_rfl) (by kernel_rfl) (by kernel_rfl) (by kernel_rfl) (fun _ _ _ h => h) (Or.inl ⟨by rfl, ?_⟩) (by assumption) ?_
        rotate_left
        · intro w _; go_simp; try with_reducible rfl
        try simp only [Act.put]
        try simp only [List.setIfInBounds_toArray]
        try simp only [List.set_cons_succ]
        try simp only [List.set_cons_zero]
        refine wpAnyU_take (i := 1) (v := ?_) rfl (by kernel_rfl) (by kernel_rfl) (by kernel_rfl) (by kernel_rfl) (by kernel_rfl) (by kernel_rfl) (fun _ _ _ h => h) (Or.inl ⟨by rfl, ?_⟩) (by assumption) ?_
        rotate_left
        · intro w hSw; obtain ⟨s1, s2⟩ := hSw; go_simp; try with_reducible rfl
        try simp only [Act.put]
        try simp only [List.setIfInBounds_toArray]
        try simp only [List.set_cons_succ]
        try simp only [List.set_cons_zero]
        refine wpAnyU_takeY (i := 2) (v := ?_) rfl (by kernel_rfl) (by kernel_rfl) (by kernel_rfl) (by kernel_rfl) (fun _ _ _ h => h) (Or.inl ⟨by rfl, ?_⟩) (by assumption) ?_
        rotate_left
        · intro w _; go_simp; try with_reducible rfl
        try simp only [Act.put]
        try simp only [List.setIfInBounds_toArray]
        try simp only [List.set_cons_succ]
        try simp only [List.set_cons_zero]
        refine wpAnyU_takeY (i := 5) (v := ?_) rfl (by kernel_rfl) (by kernel_rfl) (by kernel_rfl) (by kernel_rfl) (fun _ _ _ h => h) (Or.inl ⟨by rfl, ?_⟩) (by assumption) ?_
        rotate_left
        · intro w _; go_simp; try with_reducible rfl
        try simp only [Act.put]
        try simp only [List.setIfInBounds_toArray]
        try simp only [List.set_cons_succ]
        try simp only [List.set_cons_zero]
        refine wpAnyU_take (i := 6) (v := ?_) rfl (by kernel_rfl) (by kernel_rfl) (by kernel_rfl) (by kernel_rfl) (by kernel_rfl) (by kernel_rfl) (fun _ _ _ h => h) (Or.inl ⟨by rfl, ?_⟩) (by assumption) ?_
        rotate_left
        · intro w hSw; obtain ⟨s1, s2⟩ := hSw; go_simp; try with_reducible rfl
        try simp only [Act.put]
        try simp only [List.setIfInBounds_toArray]
        try simp only [List.set_cons_succ]
        try simp only [List.set_cons_zero]
        refine wpAnyU_takeY (i := 7) (v := ?_) rfl (by kernel_rfl) (by kernel_rfl) (by kernel_rfl) (by kernel_rfl) (fun _ _ _ h => h) (Or.inl ⟨by rfl, ?_⟩) (by assumption) ?_
        rotate_left
        · intro w _; go_simp; try with_reducible rfl
        try simp only [Act.put]
        try simp only [List.setIfInBounds_toArray]
        try simp only [List.set_cons_succ]
        try simp only [List.set_cons_zero]
        have HF := Lib.hid HFR.out
        refine wpAnyU_ready (rs := [3, 8]) (by kernel_rfl) (by simp) ?_
        refine AllReadyU.cons rfl (fun K hK => ?_) ?_
        · go_simp
          have HF := Lib.hid (HF.out.build1 3 (.int .i64 (j : Int)) (wr.heap.size) (by simp))
          refine hK.out _ _ (fun _ => ownS_of (HF.out.drew)) ?_
          clear hK K
          try simp only [Act.put]
          try simp only [List.setIfInBounds_toArray]
          try simp only [List.set_cons_succ]
          try simp only [List.set_cons_zero]
          refine wpAnyU_ready (rs := [4, 8]) (by kernel_rfl) (by simp) ?_
          refine AllReadyU.cons rfl (fun K hK => ?_) ?_
          · refine step_push rfl (.tmp 31) (.tmp 33) 22 3 (.int .i64 0) 8 Try.underlying22 intInfo rfl (by omega) (by rfl) ad1 N q1 _ (ints (fixV n j)) (.int .i64 (j : Int)) _ (by rfl) HF.out.drew (by rfl) rfl HB.out ?_
            intro ad1n q1n w3 hf hsz
            have HF := Lib.hid hf
            clear hf hsz
            refine hK.out _ _ (fun _ => ownS_of (HF.out)) ?_
            clear hK K
            try simp only [Act.put]
            try simp only [List.setIfInBounds_toArray]
            try simp only [List.set_cons_succ]
            try simp only [List.set_cons_zero]
            refine wpAnyU_takeY (i := 10) (v := ?_) rfl (by kernel_rfl) (by kernel_rfl) (by kernel_rfl) (by kernel_rfl) (fun _ _ _ h => h) (Or.inl ⟨by rfl, ?_⟩) (ownS_of (HF.out)) ?_
            rotate_left
            · intro w _; go_simp; try with_reducible rfl
            try simp only [Act.put]
            try simp only [List.setIfInBounds_toArray]
            try simp only [List.set_cons_succ]
            try simp only [List.set_cons_zero]
            refine wpAnyU_ready (rs := [8]) (by kernel_rfl) (by simp) ?_
            refine AllReadyU.cons rfl (fun K hK => ?_) AllReadyU.nil
            go_simp
            have HF := Lib.hid (HF.out.build2 3 (.int .i64 (x : Int)) (w3.heap.size) (by simp))
            refine hK.out _ _ (fun _ => ownS_of (HF.out)) ?_
            clear hK K
            try simp only [Act.put]
            try simp only [List.setIfInBounds_toArray]
            try simp only [List.set_cons_succ]
            try simp only [List.set_cons_zero]
            refine wpAnyU_ready (rs := [9]) (by kernel_rfl) (by simp) ?_
            refine AllReadyU.cons rfl (fun K hK => ?_) AllReadyU.nil
            refine step_push2 rfl (.tmp 36) (.tmp 38) 22 3 (.int .i64 0) 8 Try.underlying22 intInfo rfl (by omega) (by rfl) ad2 N q2 _ (ints (fixW n j)) (.int .i64 (x : Int)) _ _ _ (by rfl) HF.out (by rfl) rfl HB.out ?_
            intro ad2n q2n w4 hf hsz
            have HF := Lib.hid hf
            clear hf hsz
            refine hK.out _ _ (fun _ => ownS_of (HF.out)) ?_
            clear hK K
            try simp only [Act.put]
            try simp only [List.setIfInBounds_toArray]
            try simp only [List.set_cons_succ]
            try simp only [List.set_cons_zero]
            refine wpAnyU_ready (rs := [11]) (by kernel_rfl) (by simp) ?_
            refine AllReadyU.cons rfl (fun K hK => ?_) AllReadyU.nil
            obtain ⟨c0, c1, -, -, c2, c3⟩ := HF.out.roAt 4 rfl
            go_simp
            have HF := Lib.hid (HF.out.store1 (.slice ad1n (N + 1) q1n))
            clear c0 c1 c2 c3
            refine hK.out _ _ (fun h => absurd h (by decide +kernel)) ?_
            clear hK K
            try simp only [Act.put]
            try simp only [List.setIfInBounds_toArray]
            try simp only [List.set_cons_succ]
            try simp only [List.set_cons_zero]
            refine wpAnyU_takeW (i := 12) (v := ?_) rfl (by kernel_rfl) (by kernel_rfl) (by kernel_rfl) (by kernel_rfl) (fun _ _ _ h => h) (Or.inl ⟨by rfl, ?_⟩) ?_
            rotate_left
            · intro w _; go_simp; try with_reducible rfl
            try simp only [Act.put]
            try simp only [List.setIfInBounds_toArray]
            try simp only [List.set_cons_succ]
            try simp only [List.set_cons_zero]
            refine wpAnyU_ready (rs := [13]) (by kernel_rfl) (by simp) ?_
            refine AllReadyU.cons rfl (fun K hK => ?_) AllReadyU.nil
            obtain ⟨c0, c1, -, -, c2, c3⟩ := HF.out.roAt 4 rfl
            go_simp
            have HF := Lib.hid (HF.out.store2 (.slice ad2n (N + 1) q2n))
            clear c0 c1 c2 c3
            refine hK.out _ _ (fun h => absurd h (by decide +kernel)) ?_
            clear hK K
            try simp only [Act.put]
            try simp only [List.setIfInBounds_toArray]
            try simp only [List.set_cons_succ]
            try simp only [List.set_cons_zero]
            refine wpAnyU_done (by kernel_rfl) ?_ _
            go_wp2_with fail
            go_roundw
            case rel => exact ⟨j + 1, N + 1, ad1n, ad2n, q1n, q2n, by omega, by go_num, by omega, Lib.hid (by rw [HPV.out, List.length_append, HL.out]; rfl), by rw [HPV.out, HPW.out, ← ints_snoc, ← ints_snoc]; exact HF.out.reset _ _⟩
            case measure => simp only [intOf]; omega
          refine AllReadyU.cons rfl (fun K hK => ?_) AllReadyU.nil
          go_simp
          have HF := Lib.hid (HF.out.build2 3 (.int .i64 (x : Int)) (wr.heap.size + 1) (by simp))
          refine hK.out _ _ (fun _ => ownS_of (HF.out.drew)) ?_
          clear hK K
          try simp only [Act.put]
          try simp only [List.setIfInBounds_toArray]
          try simp only [List.set_cons_succ]
          try simp only [List.set_cons_zero]
          refine wpAnyU_ready (rs := [4]) (by kernel_rfl) (by simp) ?_
          refine AllReadyU.cons rfl (fun K hK => ?_) AllReadyU.nil
          refine step_push rfl (.tmp 31) (.tmp 33) 22 3 (.int .i64 0) 8 Try.underlying22 intInfo rfl (by omega) (by rfl) ad1 N q1 _ (ints (fixV n j)) (.int .i64 (j : Int)) _ (by rfl) HF.out.drew (by rfl) rfl HB.out ?_
          intro ad1n q1n w3 hf hsz
          have HF := Lib.hid hf
          clear hf hsz
          refine hK.out _ _ (fun _ => ownS_of (HF.out)) ?_
          clear hK K
          try simp only [Act.put]
          try simp only [List.setIfInBounds_toArray]
          try simp only [List.set_cons_succ]
          try simp only [List.set_cons_zero]
          refine wpAnyU_takeY (i := 10) (v := ?_) rfl (by kernel_rfl) (by kernel_rfl) (by kernel_rfl) (by kernel_rfl) (fun _ _ _ h => h) (Or.inl ⟨by rfl, ?_⟩) (ownS_of (HF.out)) ?_
          rotate_left
          · intro w _; go_simp; try with_reducible rfl
          try simp only [Act.put]
          try simp only [List.setIfInBounds_toArray]
          try simp only [List.set_cons_succ]
          try simp only [List.set_cons_zero]
          refine wpAnyU_ready (rs := [9]) (by kernel_rfl) (by simp) ?_
          refine AllReadyU.cons rfl (fun K hK => ?_) AllReadyU.nil
          refine step_push2 rfl (.tmp 36) (.tmp 38) 22 3 (.int .i64 0) 8 Try.underlying22 intInfo rfl (by omega) (by rfl) ad2 N q2 _ (ints (fixW n j)) (.int .i64 (x : Int)) _ _ _ (by rfl) HF.out (by rfl) rfl HB.out ?_
          intro ad2n q2n w4 hf hsz
          have HF := Lib.hid hf
          clear hf hsz
          refine hK.out _ _ (fun _ => ownS_of (HF.out)) ?_
          clear hK K
          try simp only [Act.put]
          try simp only [List.setIfInBounds_toArray]
          try simp only [List.set_cons_succ]
          try simp only [List.set_cons_zero]
          refine wpAnyU_ready (rs := [11]) (by kernel_rfl) (by simp) ?_
          refine AllReadyU.cons rfl (fun K hK => ?_) AllReadyU.nil
          obtain ⟨c0, c1, -, -, c2, c3⟩ := HF.out.roAt 4 rfl
          go_simp
          have HF := Lib.hid (HF.out.store1 (.slice ad1n (N + 1) q1n))
          clear c0 c1 c2 c3
          refine hK.out _ _ (fun h => absurd h (by decide +kernel)) ?_
          clear hK K
          try simp only [Act.put]
          try simp only [List.setIfInBounds_toArray]
          try simp only [List.set_cons_succ]
          try simp only [List.set_cons_zero]
          refine wpAnyU_takeW (i := 12) (v := ?_) rfl (by kernel_rfl) (by kernel_rfl) (by kernel_rfl) (by kernel_rfl) (fun _ _ _ h => h) (Or.inl ⟨by rfl, ?_⟩) ?_
          rotate_left
          · intro w _; go_simp; try with_reducible rfl
          try simp only [Act.put]
          try simp only [List.setIfInBounds_toArray]
          try simp only [List.set_cons_succ]
          try simp only [List.set_cons_zero]
          refine wpAnyU_ready (rs := [13]) (by kernel_rfl) (by simp) ?_
          refine AllReadyU.cons rfl (fun K hK => ?_) AllReadyU.nil
          obtain ⟨c0, c1, -, -, c2, c3⟩ := HF.out.roAt 4 rfl
          go_simp
          have HF := Lib.hid (HF.out.store2 (.slice ad2n (N + 1) q2n))
          clear c0 c1 c2 c3
          refine hK.out _ _ (fun h => absurd h (by decide +kernel)) ?_
          clear hK K
          try simp only [Act.put]
          try simp only [List.setIfInBounds_toArray]
          try simp only [List.set_cons_succ]
          try simp only [List.set_cons_zero]
          refine wpAnyU_done (by kernel_rfl) ?_ _
          go_wp2_with fail
          go_roundw
          case rel => exact ⟨j + 1, N + 1, ad1n, ad2n, q1n, q2n, by omega, by go_num, by omega, Lib.hid (by rw [HPV.out, List.length_append, HL.out]; rfl), by rw [HPV.out, HPW.out, ← ints_snoc, ← ints_snoc]; exact HF.out.reset _ _⟩
          case measure => simp only [intOf]; omega
        refine AllReadyU.cons rfl (fun K hK => ?_) AllReadyU.nil
        go_simp
        have HF := Lib.hid (HF.out.build2 3 (.int .i64 (x : Int)) (wr.heap.size) (by simp))
        refine hK.out _ _ (fun _ => ownS_of (HF.out.drew)) ?_
        clear hK K
        try simp only [Act.put]
        try simp only [List.setIfInBounds_toArray]
        try simp only [List.set_cons_succ]
        try simp only [List.set_cons_zero]
        refine wpAnyU_ready (rs := [3]) (by kernel_rfl) (by simp) ?_
        refine AllReadyU.cons rfl (fun K hK => ?_) AllReadyU.nil
        go_simp
        have HF := Lib.hid (HF.out.build1 3 (.int .i64 (j : Int)) (wr.heap.size + 1) (by simp))
        refine hK.out _ _ (fun _ => ownS_of (HF.out.drew)) ?_
        clear hK K
        try simp only [Act.put]
        try simp only [List.setIfInBounds_toArray]
        try simp only [List.set_cons_succ]
        try simp only [List.set_cons_zero]
        refine wpAnyU_ready (rs := [4]) (by kernel_rfl) (by simp) ?_
        refine AllReadyU.cons rfl (fun K hK => ?_) AllReadyU.nil
        refine step_push rfl (.tmp 31) (.tmp 33) 22 3 (.int .i64 0) 8 Try.underlying22 intInfo rfl (by omega) (by rfl) ad1 N q1 _ (ints (fixV n j)) (.int .i64 (j : Int)) _ (by rfl) HF.out.drew (by rfl) rfl HB.out ?_
        intro ad1n q1n w3 hf hsz
        have HF := Lib.hid hf
        clear hf hsz
        refine hK.out _ _ (fun _ => ownS_of (HF.out)) ?_
        clear hK K
        try simp only [Act.put]
        try simp only [List.setIfInBounds_toArray]
        try simp only [List.set_cons_succ]
        try simp only [List.set_cons_zero]
        refine wpAnyU_takeY (i := 10) (v := ?_) rfl (by kernel_rfl) (by kernel_rfl) (by kernel_rfl) (by kernel_rfl) (fun _ _ _ h => h) (Or.inl ⟨by rfl, ?_⟩) (ownS_of (HF.out)) ?_
        rotate_left
        · intro w _; go_simp; try with_reducible rfl
        try simp only [Act.put]
        try simp only [List.setIfInBounds_toArray]
        try simp only [List.set_cons_succ]
        try simp only [List.set_cons_zero]
        refine wpAnyU_ready (rs := [9]) (by kernel_rfl) (by simp) ?_
        refine AllReadyU.cons rfl (fun K hK => ?_) AllReadyU.nil
        refine step_push2 rfl (.tmp 36) (.tmp 38) 22 3 (.int .i64 0) 8 Try.underlying22 intInfo rfl (by omega) (by rfl) ad2 N q2 _ (ints (fixW n j)) (.int .i64 (x : Int)) _ _ _ (by rfl) HF.out (by rfl) rfl HB.out ?_
        intro ad2n q2n w4 hf hsz
        have HF := Lib.hid hf
        clear hf hsz
        refine hK.out _ _ (fun _ => ownS_of (HF.out)) ?_
        clear hK K
        try simp only [Act.put]
        try simp only [List.setIfInBounds_toArray]
        try simp only [List.set_cons_succ]
        try simp only [List.set_cons_zero]
        refine wpAnyU_ready (rs := [11]) (by kernel_rfl) (by simp) ?_
        refine AllReadyU.cons rfl (fun K hK => ?_) AllReadyU.nil
        obtain ⟨c0, c1, -, -, c2, c3⟩ := HF.out.roAt 4 rfl
        go_simp
        have HF := Lib.hid (HF.out.store1 (.slice ad1n (N + 1) q1n))
        clear c0 c1 c2 c3
        refine hK.out _ _ (fun h => absurd h (by decide +kernel)) ?_
        clear hK K
        try simp only [Act.put]
        try simp only [List.setIfInBounds_toArray]
        try simp only [List.set_cons_succ]
        try simp only [List.set_cons_zero]
        refine wpAnyU_takeW (i := 12) (v := ?_) rfl (by kernel_rfl) (by kernel_rfl) (by kernel_rfl) (by kernel_rfl) (fun _ _ _ h => h) (Or.inl ⟨by rfl, ?_⟩) ?_
        rotate_left
        · intro w _; go_simp; try with_reducible rfl
        try simp only [Act.put]
        try simp only [List.setIfInBounds_toArray]
        try simp only [List.set_cons_succ]
        try simp only [List.set_cons_zero]
        refine wpAnyU_ready (rs := [13]) (by kernel_rfl) (by simp) ?_
        refine AllReadyU.cons rfl (fun K hK => ?_) AllReadyU.nil
        obtain ⟨c0, c1, -, -, c2, c3⟩ := HF.out.roAt 4 rfl
        go_simp
        have HF := Lib.hid (HF.out.store2 (.slice ad2n (N + 1) q2n))
        clear c0 c1 c2 c3
        refine hK.out _ _ (fun h => absurd h (by decide +kernel)) ?_
        clear hK K
        try simp only [Act.put]
        try simp only [List.setIfInBounds_toArray]
        try simp only [List.set_cons_succ]
        try simp only [List.set_cons_zero]
        refine wpAnyU_done (by kernel_rfl) ?_ _
        go_wp2_with fail
        go_roundw
        case rel => exact ⟨j + 1, N + 1, ad1n, ad2n, q1n, q2n, by omega, by go_num, by omega, Lib.hid (by rw [HPV.out, List.length_append, HL.out]; rfl), by rw [HPV.out, HPW.out, ← ints_snoc, ← ints_snoc]; exact HF.out.reset _ _⟩
        case measure => simp only [intOf]; omega
      · have HPV := Lib.hid (hno hx0).1; have HPW := Lib.hid (hno hx0).2
        have g2 : decide ((0 : Int) < (x : Int)) = false := decide_eq_false (by omega)
        have g3 : ¬ 0 < x := hx0
        clear hy hno
        go_wp2_with fail
        go_roundw
        case rel => exact ⟨j + 1, N, ad1, ad2, q1, q2, by omega, by go_num, by omega, Lib.hid (by rw [HPV.out, HL.out]), by rw [HPV.out, HPW.out]; exact HFR.out⟩
        case measure => simp only [intOf]; omega
    · obtain rfl : j = n + 1 := by omega
      obtain ⟨k1, k2, k3, k4, k5⟩ := fix_all n (by omega) n1
      have HO := Lib.hid (chkO_ok k1)
      have HR1 : Hid (RedIs (oA (fixV n (n + 1)) (fixW n (n + 1))) (oW (fixV n (n + 1)) (fixW n (n + 1))) 1 1) := Lib.hid ⟨k2, k3⟩
      have HR2 : Hid (RedIs (sP (fixV n (n + 1)) (fixW n (n + 1))) (sQ (fixV n (n + 1)) (fixW n (n + 1))) 1 1) := Lib.hid ⟨k4, k5⟩
      obtain ⟨c0, c1, -, -, -, -⟩ := hfr.roAt 4 rfl
      have HG := Lib.hid hfr
      generalize fixV n (n + 1) = VV at *
      generalize fixW n (n + 1) = WW at *
      clear k1 k2 k3 k4 k5 hfr
      have g : decide (((n + 1 : Nat) : Int) < (n : Int) + 1) = false := decide_eq_false (by omega)
      go_wp2_with fail
      refine (oddMean VV WW N ad1 ad2 q1 q2 _ (HG.out.get 0 rfl) (HG.out.get 2 rfl) HL.out HO.out 1 1 HR1.out).mono ?_; rintro e w4 ⟨rfl, hb⟩
      have HG1 := Lib.hid ((HG.out.keep hb).rq 1 1 w4.heap.size rfl)
      clear c0 c1 hb
      obtain ⟨c0, c1, -, -, -, -⟩ := HG1.out.roAt 5 rfl
      go_wp2_with fail
      refine (oddSpread VV WW N ad1 ad2 q1 q2 _ (HG1.out.get 1 rfl) (HG1.out.get 3 rfl) HL.out HO.out 1 1 HR2.out).mono ?_; rintro e w5 ⟨rfl, hb⟩
      have HG2 := Lib.hid (((HG1.out.keep hb).rq 1 1 w5.heap.size rfl).rq 1 1 (w5.heap.size + 1) (by simp))
      clear c0 c1 hb
      go_wp2_with fail
      refine (works_any _).mono ?_; rintro e w6 ⟨rfl, hb⟩
      have HG3 := Lib.hid (HG2.out.keep hb)
      clear hb
      go_wp2_with fail
      refine (goodT 2 _ w6.heap.size _ rfl #[.int .i64 0, .int .i64 0] rfl (by omega)).mono ?_; rintro e w' ⟨rfl, rfl⟩
      have HG4 := Lib.hid (HG3.out.alloc (.cells #[.int .i64 0, .int .i64 0] 23))
      obtain ⟨c0, c1, -, -, -, -⟩ := HG4.out.rqAt 0 rfl
      obtain ⟨c2, c3, -, -, -, -⟩ := HG4.out.rqAt 1 rfl
      obtain ⟨c4, c5, -, -, -, -⟩ := HG4.out.rqAt 2 rfl
      go_wp2_with fail
      go_ret
      exact ⟨rfl, HG4.out.bel⟩
end Go.Proofs.Ytdabgibmbmhmdaa
