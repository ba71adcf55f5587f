/- bottom.Check. -/
import Derived.Test.YtfompfaepabpgaaBot1
import Derived.Test.YtfompfaepabpgaaFG
import Derived.Test.YtfompfaepabpgaaSlEqS
namespace Go.Proofs.Ytfompfaepabpgaa
open Go.RowKit

def prevBad (p : Option ByteArray) (x : ByteArray) : Bool := match p with | some q => decide (0 ≤ ahS q x) | none => false
def chkL : Option ByteArray → List ByteArray → Int
  | _, [] => 0
  | p, x :: r => if 12 < x.size then 2 else if prevBad p x then 3 else chkL (some x) r
/-- what Check says of a sample -/
def chkB (most : Int) (l : List ByteArray) : Int := if most < 1 ∨ 30 < most then 1 else if most < l.length then 2 else chkL none l
set_option maxRecDepth 100000 in
set_option maxHeartbeats 8000000 in
theorem botChk (most : Int) (l : List ByteArray) (n : Nat) (a : Option Addr) (cap : Nat) (w : World) (h : Sa w a (strV l)) (hn : l.length = n) (hm : n ≤ maxLen) :
    Calls Try.prog 26 #[.agg #[.int .i64 most, .slice a n cap]] w fun e w' => e = .returned (.int .i64 (chkB most l)) ∧ Fr w w' [] := by
  have HN := Lib.hid hn; have HS := Lib.hid h
  unfold maxLen at hm
  obtain ⟨N, hN⟩ : ∃ N, w.heap.size = N := ⟨_, rfl⟩
  have HF0 := Lib.hid ((Fg.start w).new 48 #[.int .i64 most, .slice a n cap] [.int .i64 most, .slice a n cap] rfl N hN 2 rfl (by omega))
  have HFR := Lib.hid ((Fr.start w).alloc (.cells #[.int .i64 most, .slice a n cap] 48))
  obtain ⟨g, e, -, -, t1, -⟩ := HF0.out.open List.mem_cons_self (by simp)
  cases e
  have c0 := t1 0 (by simp)
  have c1 := t1 1 (by simp)
  simp only [List.getElem?_cons_zero, List.getElem?_cons_succ] at c0 c1
  clear t1 h hn
  by_cases b1 : most < 1 ∨ 30 < most
  · have HR : Hid (chkB most l = 1) := Lib.hid (by unfold chkB; rw [if_pos b1])
    rcases Int.lt_or_le most 1 with b2 | b2
    · have g1 : decide (most < 1) = true := decide_eq_true b2
      clear b1
      go_enter Try.func26, Try.ntmps26
      go_wp2_with fail
      go_ret
      exact ⟨by rw [HR.out]; rfl, HFR.out⟩
    · have g1 : decide (most < 1) = false := decide_eq_false (by omega)
      have g2 : decide (30 < most) = true := decide_eq_true (by omega)
      clear b1
      go_enter Try.func26, Try.ntmps26
      go_wp2_with fail
      go_ret
      exact ⟨by rw [HR.out]; rfl, HFR.out⟩
  · have g1 : decide (most < 1) = false := decide_eq_false (by omega)
    have g2 : decide (30 < most) = false := decide_eq_false (by omega)
    by_cases b3 : most < (n : Int)
    · have HR : Hid (chkB most l = 2) := Lib.hid (by unfold chkB; rw [if_neg b1, if_pos (by rw [HN.out]; exact b3)])
      have g3 : decide (most < (n : Int)) = true := decide_eq_true b3
      clear b1
      go_enter Try.func26, Try.ntmps26
      go_wp2_with fail
      go_ret
      exact ⟨by rw [HR.out]; rfl, HFR.out⟩
    · have HR : Hid (chkB most l = chkL none l) := Lib.hid (by unfold chkB; rw [if_neg b1, if_neg (by rw [HN.out]; exact b3)])
      have g3 : decide (most < (n : Int)) = false := decide_eq_false b3
      clear b1
      go_enter Try.func26, Try.ntmps26
      go_wp2_with fail
      clear c0 c1 g1 g2 g3
      go_loopw [22] (fun q wr => ∃ (k : Nat) (p : Option ByteArray), k ≤ n ∧ q = .int .i64 k ∧ Hid (chkL p (l.drop k) = chkL none l) ∧ Hid (k = 0 → p = none) ∧ Hid (0 < k → ∃ x, l[k - 1]? = some x ∧ p = some x ∧ x.size ≤ 12) ∧ Hid (Fg w wr [⟨48, 1, 2, .slice (some ⟨N, 0, none⟩) 2 2, [.int .i64 most, .slice a n cap]⟩])) (fun q _ => n - (intOf q).toNat)
      case atStart => exact ⟨0, none, by omega, rfl, Lib.hid rfl, Lib.hid (fun _ => rfl), Lib.hid (fun h => absurd h (by omega)), HF0⟩
      case round =>
        obtain ⟨k, p, hk, rfl, HC, HP0, HP1, HF⟩ := hrel
        by_cases hlt : k < n
        · obtain ⟨x, hx⟩ : ∃ x, l[k]? = some x := ⟨_, List.getElem?_eq_getElem (by rw [HN.out]; exact hlt)⟩
          have hSk := HS.out.keep HF.out.fr.bel
          obtain ⟨b, off, rfl, -, x1⟩ := hSk.strA k x hx
          obtain ⟨g, e, -, -, t1, -⟩ := HF.out.open List.mem_cons_self (by simp)
          cases e
          have c1 := t1 1 (by simp)
          simp only [List.getElem?_cons_zero, List.getElem?_cons_succ] at c1
          have hdr : l.drop k = x :: l.drop (k + 1) := by rw [List.drop_eq_getElem_cons (by rw [HN.out]; exact hlt)]; congr 1; rw [List.getElem?_eq_getElem (by rw [HN.out]; exact hlt)] at hx; cases hx; rfl
          have hch := HC.out
          rw [hdr, chkL] at hch
          have d1 : (0 : Int) ≤ (k : Int) := by omega
          have d2 : (k : Int) < (n : Int) := by omega
          clear t1 hdr
          by_cases s1 : 12 < x.size
          · rw [if_pos s1] at hch
            have HCH := Lib.hid hch
            have g4 : decide ((12 : Int) < (x.size : Int)) = true := decide_eq_true (by omega)
            clear hch hx hSk
            go_wp2_with fail
            go_ret
            exact ⟨by rw [HR.out, ← HCH.out]; rfl, HF.out.fr⟩
          · rw [if_neg s1] at hch
            have g4 : decide ((12 : Int) < (x.size : Int)) = false := decide_eq_false (by omega)
            have HX := Lib.hid hx
            rcases Nat.eq_zero_or_pos k with h0 | h0
            · subst h0
              rw [Nat.add_zero] at x1
              have hp := HP0.out rfl
              subst hp
              rw [if_neg (by unfold prevBad; simp)] at hch
              have HCH := Lib.hid hch
              clear hch hx hSk
              go_wp2_with fail
              exact ⟨⟨1, some x, by omega, by simp, HCH, Lib.hid (fun h => by omega), Lib.hid (fun _ => ⟨x, HX.out, rfl, by omega⟩), HF⟩, by simp only [intOf]; omega⟩
            · obtain ⟨y, hy, rfl, hyz⟩ := HP1.out h0
              obtain ⟨b', off', e, -, y1⟩ := hSk.strA (k - 1) y hy
              cases e
              have g5 : decide ((0 : Int) < (k : Int)) = true := decide_eq_true (by omega)
              have HCA := Lib.hid (botAhead y x wr (by unfold maxLen; omega) (by unfold maxLen; omega))
              have et : ((k : Int) - 1).toNat = k - 1 := by omega
              have d3 : (0 : Int) ≤ (k : Int) - 1 := by omega
              have d4 : (k : Int) - 1 < (n : Int) := by omega
              have hpb : prevBad (some y) x = decide (0 ≤ ahS y x) := rfl
              rw [hpb] at hch
              obtain ⟨R, hRR⟩ : ∃ R, ahS y x = R := ⟨_, rfl⟩
              rw [hRR] at hch HCA
              have HCH := Lib.hid hch
              clear hch hx hSk hy hpb hRR
              go_wp2_with fail
              refine HCA.out.mono ?_; rintro e w2 ⟨rfl, hf2⟩
              have HF2 := Lib.hid (HF.out.keep hf2.bel)
              clear hf2 HCA
              by_cases s2 : 0 ≤ R
              · have g6 : decide (0 ≤ R) = true := decide_eq_true s2
                have hc3 := HCH.out
                rw [g6, if_pos rfl] at hc3
                have HC3 := Lib.hid hc3
                clear hc3
                go_wp2_with fail
                go_ret
                exact ⟨by rw [HR.out, ← HC3.out]; rfl, HF2.out.fr⟩
              · have g6 : decide (0 ≤ R) = false := decide_eq_false s2
                have hc3 := HCH.out
                rw [g6, if_neg (by simp)] at hc3
                have HC3 := Lib.hid hc3
                clear hc3
                go_wp2_with fail
                exact ⟨⟨k + 1, some x, by omega, by simp, HC3, Lib.hid (fun h => by omega), Lib.hid (fun _ => ⟨x, HX.out, rfl, by omega⟩), HF2⟩, by simp only [intOf]; omega⟩
        · obtain rfl : k = n := by omega
          have hch := HC.out
          rw [List.drop_of_length_le (by rw [HN.out]; exact Nat.le_refl _)] at hch
          have HCH := Lib.hid hch
          clear hch
          go_wp2_with fail
          go_ret
          exact ⟨by rw [HR.out, ← HCH.out]; rfl, HF.out.fr⟩
end Go.Proofs.Ytfompfaepabpgaa
