/- bottom.Mark and bottom.ahead: the world grows by blocks alone (for slices.SortFunc). -/
import Derived.Test.YtfompfaepabpgaaBot1
import Derived.Sort.Grow
namespace Go.Proofs.Ytfompfaepabpgaa
open Go.RowKit Go.Sort

/-- the world has drawn, and grown by blocks -/
def Grew (w w' : World) : Prop := ∃ q os, w' = grow (w.drewN q) os
theorem Grew.trans {w w1 w2 : World} (h : Grew w w1) (h' : Grew w1 w2) : Grew w w2 := by
  obtain ⟨q, os, rfl⟩ := h
  obtain ⟨q', os', rfl⟩ := h'
  refine ⟨q + q', os ++ os', ?_⟩
  show grow (grow ((w.drewN q).drewN q') os) os' = _
  rw [grow_grow, World.drewN_drewN]
theorem toBytesG (s : ByteArray) (w : World) : ∃ N C W, Sem.run Try.prog (convert 9 66 (.string s)) w = .ok (.slice (some ⟨N, 0, none⟩) s.size C) W ∧ Grew w W ∧ ∀ j, j < s.size → W.cell? ⟨N, j, none⟩ = some (.int .u8 ((byA s j).toNat : Nat)) := by
  refine ⟨_, _, _, run_bytes_of_string w _ _ 5 s Try.underlying9 Try.underlying66 Try.underlying5, ⟨1, #[_], alloc_eq_grow w.drew _⟩, fun j hj => ?_⟩
  have hN : w.heap.size = w.drew.heap.size := rfl
  unfold World.cell?
  have h0 : (w.drew.alloc (.cells (bytesRow s (grownCap w s.size 0 5)) 5 ((bytesRow s (grownCap w s.size 0 5)).size, (bytesRow s (grownCap w s.size 0 5)).size + 1))).heap[w.heap.size]? = some (.cells (bytesRow s (grownCap w s.size 0 5)) 5 ((bytesRow s (grownCap w s.size 0 5)).size, (bytesRow s (grownCap w s.size 0 5)).size + 1)) := by
    show (w.heap.push _)[w.heap.size]? = _
    simp
  simp only [h0]
  have hj' : j < s.data.size := hj
  simp [bytesRow, byA, Array.getElem?_append]
  rw [if_pos hj, Array.getElem?_eq_getElem hj']; rfl
set_option maxRecDepth 100000 in
set_option maxHeartbeats 4000000 in
theorem botMarkG (s : ByteArray) (w : World) (hs : s.size ≤ maxLen) :
    Calls Try.prog 25 #[.string s] w fun e w' => e = .returned (.int .u32 (markS s)) ∧ Grew w w' := by
  unfold maxLen at hs
  obtain ⟨N, C, W, hcv, hfr, hcell⟩ := toBytesG s w
  have HF := Lib.hid hfr; have HC := Lib.hid hcell
  clear hfr hcell
  go_enter Try.func25, Try.ntmps25
  go_wp2_with fail
  clear hcv
  obtain ⟨n, hn⟩ : ∃ n, s.size = n := ⟨_, rfl⟩
  rw [hn] at hs ⊢
  have HN := Lib.hid hn
  clear hn
  go_loop [3, 9] (fun x i => ∃ k : Nat, k ≤ n ∧ i = .int .i64 k ∧ x = .int .u32 (mkAll s k)) (fun _ i => n - (intOf i).toNat)
  case atStart => exact ⟨0, by omega, rfl, rfl⟩
  case round =>
    obtain ⟨k, hk, rfl, rfl⟩ := hrel
    by_cases hlt : k < n
    · have hc := HC.out k (by rw [HN.out]; exact hlt)
      have d1 : (0 : Int) ≤ (k : Int) := by omega
      have d2 : (k : Int) < (n : Int) := by omega
      have HST := Lib.hid (mkAll_succ s k (by rw [HN.out]; exact hlt))
      obtain ⟨c, hcc⟩ : ∃ c, byA s k = c := ⟨_, rfl⟩
      rw [hcc] at hc HST
      clear hcc
      go_wp2_with fail
      exact ⟨⟨k + 1, by omega, by simp, by rw [HST.out]; rfl⟩, by simp only [intOf]; omega⟩
    · obtain rfl : k = n := by omega
      go_wp2_with fail
      go_ret
      exact ⟨by unfold markS; rw [HN.out]; rfl, HF.out⟩
set_option maxRecDepth 100000 in
set_option maxHeartbeats 4000000 in
theorem botAheadG (a b : ByteArray) (w : World) (ha : a.size ≤ maxLen) (hb : b.size ≤ maxLen) :
    Calls Try.prog 60 #[.string a, .string b] w fun e w' => e = .returned (.int .i64 (ahS a b)) ∧ Grew w w' := by
  have hM1 := botMarkG a w ha
  have hM2 := fun w' => botMarkG b w' hb
  unfold ahS
  obtain ⟨x, hx⟩ : ∃ x, markS a = x := ⟨_, rfl⟩
  obtain ⟨y, hy⟩ : ∃ y, markS b = y := ⟨_, rfl⟩
  rw [hx] at hM1 ⊢
  simp only [hy] at hM2 ⊢
  have HM1 := Lib.hid hM1
  have HM2 := fun w' => Lib.hid (hM2 w')
  obtain ⟨R, hR⟩ : ∃ R : Int, (if x < y ∨ (x = y ∧ Op.bytesLess a.toList b.toList = true) then -1 else if a = b then 0 else 1) = R := ⟨_, rfl⟩
  rw [hR]
  have HR := Lib.hid hR
  clear ha hb hx hy hM1 hM2 hR
  go_enter Try.func60, Try.ntmps60
  go_wp2_with fail
  refine HM1.out.mono ?_; rintro e w1 ⟨rfl, hf1⟩
  have HF1 := Lib.hid hf1
  clear hf1
  go_wp2_with fail
  refine (HM2 w1).out.mono ?_; rintro e w2 ⟨rfl, hf2⟩
  have HF2 := Lib.hid (HF1.out.trans hf2)
  clear hf2
  by_cases c1 : x < y
  · have g1 : decide (x < y) = true := decide_eq_true c1
    have hr := HR.out
    rw [if_pos (.inl c1)] at hr
    have HR2 := Lib.hid hr
    clear hr
    go_wp2_with fail
    go_ret
    exact ⟨by rw [← HR2.out]; rfl, HF2.out⟩
  · have g1 : decide (x < y) = false := decide_eq_false c1
    by_cases c2 : x = y
    · have g2 : (x == y) = true := by rw [c2]; exact beq_self_eq_true _
      have hr := HR.out
      cases hbl : Op.bytesLess a.toList b.toList
      · rw [if_neg (by rintro (h | ⟨_, h⟩); exact c1 h; rw [hbl] at h; cases h)] at hr
        have g3 := str_eq a b
        by_cases c3 : a = b
        · rw [decide_eq_true c3] at g3
          rw [if_pos c3] at hr
          have HR2 := Lib.hid hr
          clear hr c3 c2 c1
          go_wp2_with fail
          go_ret
          exact ⟨by rw [← HR2.out]; rfl, HF2.out⟩
        · rw [decide_eq_false c3] at g3
          rw [if_neg c3] at hr
          have HR2 := Lib.hid hr
          clear hr c3 c2 c1
          go_wp2_with fail
          go_ret
          exact ⟨by rw [← HR2.out]; rfl, HF2.out⟩
      · rw [if_pos (.inr ⟨c2, hbl⟩)] at hr
        have HR2 := Lib.hid hr
        clear hr c2 c1
        go_wp2_with fail
        go_ret
        exact ⟨by rw [← HR2.out]; rfl, HF2.out⟩
    · have g2 : (x == y) = false := beq_eq_false_iff_ne.2 c2
      have g3 := str_eq a b
      have hr := HR.out
      rw [if_neg (by rintro (h | ⟨h, _⟩); exact c1 h; exact c2 h)] at hr
      by_cases c3 : a = b
      · rw [decide_eq_true c3] at g3
        rw [if_pos c3] at hr
        have HR2 := Lib.hid hr
        clear hr c3
        go_wp2_with fail
        go_ret
        exact ⟨by rw [← HR2.out]; rfl, HF2.out⟩
      · rw [decide_eq_false c3] at g3
        rw [if_neg c3] at hr
        have HR2 := Lib.hid hr
        clear hr c3
        go_wp2_with fail
        go_ret
        exact ⟨by rw [← HR2.out]; rfl, HF2.out⟩
end Go.Proofs.Ytfompfaepabpgaa
