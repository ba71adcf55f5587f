/- castkeep.linesLive; the walk of the law LinesLong. -/
import Derived.Test.YtefblcchmkmfpaaLin3
namespace Go.Proofs.Ytefblcchmkmfpaa
open Go.RowKit

set_option maxRecDepth 100000 in
set_option maxHeartbeats 4000000 in
theorem linesLive_any (w : World) : Calls Try.prog 29 #[] w fun e w' => e = .returned (.bool true) ∧ Below w.heap.size w w' := by
  have e1 : bestK mUp [3, 1, 2, 2] 4 = [1, 2] := by decide
  have e2 : oK [3, 1, 2, 2] 4 = [0, 0, 1, 1] := by decide
  have E1 := Lib.hid e1; have E2 := Lib.hid e2
  clear e1 e2
  go_enter Try.func29, Try.ntmps29
  go_wp2_with fail
  have F1 := (Fr.start w).lit [3, 1, 2, 2] #[.int .i64 3, .int .i64 1, .int .i64 2, .int .i64 2] rfl 4 rfl (by omega) 3
  refine (lin_up [3, 1, 2, 2] 4 _ _ _ (F1.get 0 rfl) rfl (by omega) (by omega)).mono ?_; rintro e w1 ⟨ad1, cp1, rfl, hc1, hf⟩
  rw [E1.out] at hf
  rw [E1.out]
  have HF2 := Lib.hid ((F1.call hf).sub (M := [⟨3, .slice ad1 2 cp1, ints [1, 2]⟩]) (List.singleton_sublist.2 List.mem_cons_self))
  clear F1 hf hc1
  go_wp2_with fail
  have F3 := HF2.out.lit' [3, 1, 2, 2] #[.int .i64 3, .int .i64 1, .int .i64 2, .int .i64 2] rfl 4 rfl (by omega) 3 w1.heap.size rfl
  refine (lin_split [3, 1, 2, 2] 4 _ _ _ (F3.get 0 rfl) rfl (by omega)).mono ?_; rintro e w2 ⟨ad2, cp2, rfl, hc2, hf⟩
  rw [E2.out] at hf
  have HF4 := Lib.hid ((F3.call hf).sub (M := [⟨3, .slice ad2 4 cp2, ints [0, 0, 1, 1]⟩, ⟨3, .slice ad1 2 cp1, ints [1, 2]⟩]) (.cons_cons _ (List.sublist_cons_self _ _)))
  clear F3 hf hc2
  go_wp2_with fail
  refine (good2b _ w2.heap.size _ rfl).mono ?_; rintro e w' ⟨rfl, rfl⟩
  have F5 := (HF4.out.alloc (.cells #[.int .i64 0, .int .i64 0] 22)).lit' [1, 2] #[.int .i64 1, .int .i64 2] rfl 2 rfl (by omega) 3 (w2.heap.size + 1) (by simp)
  have HF5 := Lib.hid F5
  clear F5
  go_wp2_with fail
  refine (slEqual [1, 2] [1, 2] 2 2 _ _ _ _ _ (HF5.out.get 2 rfl) (HF5.out.get 0 rfl) rfl rfl (by omega) (by omega)).mono ?_; rintro e w3 ⟨rfl, hf⟩
  rw [decide_eq_true (rfl : ([1, 2] : List Int) = [1, 2])]
  have F6 := HF5.out.keep hf.bel
  obtain ⟨g, e, hg, c1, f1⟩ := F6.rot.openI 1 (by decide)
  subst e
  have c2 : w3.cell? ⟨g, 1, .none⟩ = some (.int .i64 2) := c1
  have HF6 := Lib.hid F6
  clear F6 hf hg c1
  go_wp2_with fail
  have HF7 := Lib.hid (HF6.out.lit' [0, 0, 1, 1] #[.int .i64 0, .int .i64 0, .int .i64 1, .int .i64 1] rfl 4 rfl (by omega) 3 w3.heap.size rfl)
  refine (slEqual [0, 0, 1, 1] [0, 0, 1, 1] 4 4 _ _ _ _ _ (HF7.out.get 2 rfl) (HF7.out.get 0 rfl) rfl rfl (by omega) (by omega)).mono ?_; rintro e w4 ⟨rfl, hf⟩
  rw [decide_eq_true (rfl : ([0, 0, 1, 1] : List Int) = [0, 0, 1, 1])]
  have HF8 := Lib.hid (HF7.out.keep hf.bel)
  clear hf
  go_wp2_with fail
  go_ret
  exact ⟨rfl, HF8.out.bel⟩
set_option maxRecDepth 100000 in
set_option maxHeartbeats 4000000 in
theorem linesLong_any (l : List Int) (n : Nat) (a : Option Addr) (cap : Nat) (w : World) (h : Sa w a (ints l)) (hn : l.length = n) (hc : n ≤ cap) :
    Calls Try.prog 9 #[.slice a n cap] w fun e w' => e = .returned (.bool true) ∧ Below w.heap.size w w' := by
  have HS := Lib.hid h; have HN := Lib.hid hn
  clear h hn
  by_cases h30 : n ≤ 30
  · obtain ⟨U, hU⟩ : ∃ U, (bestK mUp l n).length = U := ⟨_, rfl⟩
    obtain ⟨D, hD⟩ : ∃ D, (bestK mDn l n).length = D := ⟨_, rfl⟩
    have hb : n ≤ U * D := by rw [← hU, ← hD]; exact long_both l n
    have u1 : U ≤ n := by rw [← hU]; exact best_le mUp l n
    have d1 : D ≤ n := by rw [← hD]; exact best_le mDn l n
    have hud : U * D ≤ 30 * 30 := Nat.mul_le_mul (by omega) (by omega)
    have hpos : n = 0 ∨ (0 < U ∧ 0 < D) := by
      rcases Nat.eq_zero_or_pos n with h0 | h0
      · exact .inl h0
      · have hp : 0 < U * D := by omega
        exact .inr ⟨Nat.pos_of_mul_pos_right hp, Nat.pos_of_mul_pos_left hp⟩
    have HU := Lib.hid hU; have HD := Lib.hid hD
    obtain ⟨q, hq⟩ : ∃ q, U * D = q := ⟨_, rfl⟩
    rw [hq] at hb hud
    have e1 : (U : Int) * (D : Int) = (q : Int) := by rw [← hq]; simp
    have g1 : decide ((n : Int) ≤ (q : Int)) = true := decide_eq_true (by omega)
    have g2 : decide ((U : Int) ≤ (n : Int)) = true := decide_eq_true (by omega)
    clear hU hD hq
    go_enter Try.func9, Try.ntmps9
    go_wp2_with fail
    refine (linesLive_any _).mono ?_; rintro e w1 ⟨rfl, hb⟩
    have HF1 := Lib.hid ((Fr.start w).keep hb)
    clear hb
    go_wp2_with fail
    refine (lin_up l n _ _ _ (HF1.out.old HS.out) HN.out h30 hc).mono ?_; rintro e w2 ⟨ad1, cp1, rfl, hc1, hf⟩
    have HF2 := Lib.hid (HF1.out.call hf)
    clear hf hc1
    go_wp2_with fail
    refine (lin_down l n _ _ _ (HF2.out.old HS.out) HN.out h30 hc).mono ?_; rintro e w3 ⟨ad2, cp2, rfl, hc2, hf⟩
    have HF3 := Lib.hid (HF2.out.call hf)
    clear hf hc2
    rw [HU.out, HD.out]
    rcases hpos with h0 | ⟨h1, h2⟩
    · subst h0
      obtain rfl : U = 0 := by omega
      obtain rfl : D = 0 := by omega
      obtain rfl : q = 0 := by have : (0 : Int) * 0 = q := e1; omega
      go_wp2_with fail
      go_ret
      exact ⟨rfl, HF3.out.bel⟩
    · have g3 : decide ((0 : Int) < (U : Int)) = true := decide_eq_true (by omega)
      have g4 : decide ((0 : Int) < (D : Int)) = true := decide_eq_true (by omega)
      have g5 : ((n : Int) == 0) = false := by rw [beq_eq_false_iff_ne]; omega
      have g6 : ¬ n = 0 := by omega
      go_wp2_with fail
      go_ret
      exact ⟨by simp, HF3.out.bel⟩
  · go_enter Try.func9, Try.ntmps9
    go_wp2_with fail
    refine (linesLive_any _).mono ?_; rintro e w1 ⟨rfl, hb⟩
    have HF1 := Lib.hid ((Fr.start w).keep hb)
    clear hb
    go_wp2_with fail
    refine (lin_up_no n _ _ _ (by omega)).mono ?_; rintro e w' ⟨rfl, rfl⟩
    go_wp2_with fail
    refine (lin_down_no n _ _ _ (by omega)).mono ?_; rintro e w' ⟨rfl, rfl⟩
    go_wp2_with fail
    go_ret
    exact ⟨rfl, HF1.out.bel⟩
end Go.Proofs.Ytefblcchmkmfpaa
