/- The walk of the law BlocksNext. -/
import Derived.Test.YtdcekplmmfenlaaBlk2
namespace Go.Proofs.Ytdcekplmmfenlaa
open Go.RowKit

set_option maxHeartbeats 2000000 in
theorem blocksNext_walk (l m : List Int) (nl nm : Nat) (a b : Option Addr) (ca cb : Nat) (w : World) (ha : Sa w a (ints l)) (hb : Sa w b (ints m)) (hnl : l.length = nl) (hnm : m.length = nm)
    (c1 : nl ≤ ca) (c2 : nm ≤ cb) (b1 : nl ≤ maxLen) (b2 : nm ≤ maxLen) :
    Calls Try.prog 12 #[.slice a nl ca, .slice b nm cb] w fun e w' => e = .returned (.bool true) ∧ Below w.heap.size w w' := by
  unfold maxLen at b1 b2
  have HNL := Lib.hid hnl; have HNM := Lib.hid hnm; have HA := Lib.hid ha; have HB := Lib.hid hb
  clear hnl hnm ha hb
  have n1 : nxtB (-1) [0, 0, 1] = some [0, 1, 0] := by decide
  have g1 : GrowsOk [0, 0, 1] := by
    intro k hk
    match k, hk with
    | 0, _ => decide
    | 1, _ => decide
    | 2, _ => decide
  obtain ⟨n, m1, m2, m3, m4⟩ : ∃ n : Nat, n ≤ nl ∧ n ≤ nm ∧ (n : Int) ≤ 10 ∧ (n = nl ∨ n = nm ∨ (n : Int) = 10) := ⟨min nl (min nm 10), by omega, by omega, by omega, by omega⟩
  have HMIN := Lib.hid (run_min3 #[3, 3, 3] 3 nl nm 10 n m1 m2 m3 m4)
  clear m4
  have N1 := Lib.hid n1; have G1 := Lib.hid g1
  clear n1 g1
  go_enter Try.func12, Try.ntmps12
  go_wp2_with fail
  have F1 := (Fr.start w).lit [0, 0, 1] #[.int .i64 0, .int .i64 0, .int .i64 1] rfl 3 rfl (by omega) 3
  refine (blkNext [0, 0, 1] 3 _ _ _ (F1.get 0 rfl) rfl (by omega) (by omega) G1.out).mono ?_; rintro e w1 (⟨h, -, -⟩ | ⟨s, ad, cp, h, rfl, hc, hf⟩)
  · rw [N1.out] at h; cases h
  rw [N1.out] at h; cases h
  have F2 := F1.call hf
  clear F1 hf hc
  go_wp2_with fail
  have F3 := F2.lit [0, 1, 0] #[.int .i64 0, .int .i64 1, .int .i64 0] rfl 3 rfl (by omega) 3
  clear F2
  refine (slEqual [0, 1, 0] [0, 1, 0] 3 3 _ _ _ _ _ (F3.get 1 rfl) (F3.get 0 rfl) rfl rfl (by omega) (by omega)).mono ?_; rintro e w2 ⟨rfl, hf⟩
  have F4 := (F3.below).call hf
  clear F3 hf
  have HN : n ≤ 10 := by omega
  have e1 : (l.take n).length = n := by rw [List.length_take, HNL.out]; omega
  have e2 : (m.take n).length = n := by rw [List.length_take, HNM.out]; omega
  have E1 := Lib.hid e1; have E2 := Lib.hid e2; clear e1 e2
  have hmin := HMIN.out
  have d1 : (n : Int) ≤ (ca : Int) := by omega
  have d2 : (n : Int) ≤ (cb : Int) := by omega
  go_wp2_with fail
  clear hmin
  have SA1 := (F4.old HA.out).take n
  rw [ints_take] at SA1
  refine (blkOf (l.take n) n _ _ _ SA1 E1.out HN).mono ?_; rintro e w3 ⟨a1, k1, rfl, hc1, hf⟩
  have F5 := F4.call hf
  clear F4 hf SA1
  go_wp2_with fail
  have SA1 := (F5.old HB.out).take n
  rw [ints_take] at SA1
  refine (blkOf (m.take n) n _ _ _ SA1 E2.out HN).mono ?_; rintro e w4 ⟨a2, k2, rfl, hc2, hf⟩
  have F6 := F5.call hf
  clear F5 hf SA1
  go_wp2_with fail
  refine (good2 _ _).mono ?_; rintro e w5 ⟨rfl, rfl⟩
  replace F6 := F6.alloc (.cells #[.int .i64 0, .int .i64 0] 24)
  go_wp2_with fail
  generalize hA : (ofRun (l.take n)).2 = A at *
  generalize hB : (ofRun (m.take n)).2 = B at *
  have la : A.length = n := by rw [← hA, (ofRun_len _).2, E1.out]
  have lb : B.length = n := by rw [← hB, (ofRun_len _).2, E2.out]
  have ga : GrowsOk A := by rw [← hA]; exact ofRun_grows _ (by rw [E1.out]; omega)
  have gb : GrowsOk B := by rw [← hB]; exact ofRun_grows _ (by rw [E2.out]; omega)
  have LA := Lib.hid la; have LB := Lib.hid lb; have GA := Lib.hid ga
  have S0 := nxtB_says A B (-1) (by omega) (valB_of_grows A [] ga) (valB_of_grows B [] gb) (by rw [la, lb])
  have SS := Lib.hid S0
  clear hA hB la lb ga gb S0
  refine (blkNext A n _ _ _ (F6.get 1 rfl) LA.out HN hc1 GA.out).mono ?_; rintro e w6 (⟨h, rfl, hf⟩ | ⟨s, a3, k3, h, rfl, hc3, hf⟩)
  · have X := SS.out.1 h
    have F7 := F6.keep hf.bel
    clear F6 hf h
    go_wp2_with fail
    refine (slCmp B A n _ _ _ _ _ (F7.get 0 rfl) (F7.get 1 rfl) LB.out LA.out (by omega)).mono ?_; rintro e w7 ⟨rfl, rfl⟩
    have hd : decide (lexC B A ≤ 0) = true := decide_eq_true X
    go_wp2_with fail
    go_ret
    exact ⟨rfl, F7.bel⟩
  · obtain ⟨x1, x2, x3⟩ := SS.out.2 s h
    have F7 := F6.call hf
    have ls : s.length = n := by rw [nxtB_len _ _ _ h]; exact LA.out
    have gs : GrowsOk s := grows_of_valB s [] (by decide) (by have : mst [] = -1 := rfl; omega) x1 (fun k hk => by simp at hk)
    have LS := Lib.hid ls; have GS := Lib.hid gs; have X3 := Lib.hid x3
    clear F6 hf h ls gs x1 x3
    go_wp2_with fail
    refine (blkChk s n _ _ _ (F7.get 0 rfl) LS.out HN GS.out).mono ?_; rintro e w7 ⟨rfl, rfl⟩
    go_wp2_with fail
    refine (slCmp A s n _ _ _ _ _ (F7.get 2 rfl) (F7.get 0 rfl) LA.out LS.out (by omega)).mono ?_; rintro e w7 ⟨rfl, rfl⟩
    have hd : decide (lexC A s < 0) = true := decide_eq_true x2
    clear x2
    go_wp2_with fail
    refine (slCmp B A n _ _ _ _ _ (F7.get 1 rfl) (F7.get 2 rfl) LB.out LA.out (by omega)).mono ?_; rintro e w7 ⟨rfl, rfl⟩
    by_cases hle : lexC B A ≤ 0
    · have hd2 : decide (lexC B A ≤ 0) = true := decide_eq_true hle
      clear hle
      go_wp2_with fail
      go_ret
      exact ⟨rfl, F7.bel⟩
    · have x3 : 0 ≤ lexC B s := by rcases X3.out with h | h; exact absurd h hle; exact h
      have hd2 : decide (lexC B A ≤ 0) = false := decide_eq_false hle
      have hd3 : decide (0 ≤ lexC B s) = true := decide_eq_true x3
      clear hle x3
      go_wp2_with fail
      refine (slCmp B s n _ _ _ _ _ (F7.get 1 rfl) (F7.get 0 rfl) LB.out LS.out (by omega)).mono ?_; rintro e w7 ⟨rfl, rfl⟩
      go_wp2_with fail
      go_ret
      exact ⟨rfl, F7.bel⟩

theorem blocksNext_row (a b : Option Addr) (l1 c1 l2 c2 : Nat) (z1 z2 : List Int) (w : World) (h1 : IsRow .i64 w a l1 c1 z1) (h2 : IsRow .i64 w b l2 c2 z2) :
    Calls Try.prog 12 #[.slice a l1 c1, .slice b l2 c2] w fun e w' => e = .returned (.bool true) ∧ Below w.heap.size w w' := by
  obtain ⟨p1, p2, p3, -⟩ := h1.sa
  obtain ⟨q1, q2, q3, -⟩ := h2.sa
  exact blocksNext_walk _ _ l1 l2 a b c1 c2 w p1 q1 p2 q2 h1.cap h2.cap p3 q3
end Go.Proofs.Ytdcekplmmfenlaa
