/- Several of my texts in one: Bot1, Bot2. -/
import Derived.Test.YtooghdnlaonkaaaDw17
import Derived.Test.YtooghdnlaonkaaaDw15
/- bottom.Mark and bottom.ahead. -/
namespace Go.Proofs.Ytooghdnlaonkaaa
open Go.RowKit

def mkStep (x : Int) (c : UInt8) : Int := bits .xor .u32 x ((c.toNat : Int) % 4294967296) * 16777619 % 4294967296
def mkAll (s : ByteArray) (k : Nat) : Int := (s.data.toList.take k).foldl mkStep 2166136261
def mkMid (x : Int) : Int := bits .xor .u32 x (x / 32768) * 2246822519 % 4294967296
def mkFin (y : Int) : Int := bits .xor .u32 y (y / 8192)
/-- the mark of a name -/
def markS (s : ByteArray) : Int := mkFin (mkMid (mkAll s s.size))
theorem mkAll_succ (s : ByteArray) (k : Nat) (h : k < s.size) : mkAll s (k + 1) = mkStep (mkAll s k) (byA s k) := by
  have hl : k < s.data.toList.length := by simpa using h
  have e : s.data.toList[k]? = some (byA s k) := by
    unfold byA
    have h' : k < s.data.size := h
    rw [List.getElem?_eq_getElem hl]
    simp [List.getD_eq_getElem?_getD]
    rw [Array.getElem?_eq_getElem h']; rfl
  unfold mkAll
  rw [List.take_add_one, e, List.foldl_append]; rfl
set_option maxRecDepth 100000 in
set_option maxHeartbeats 4000000 in
theorem botMark (s : ByteArray) (w : World) (hs : s.size ≤ maxLen) :
    Calls Try.prog 159 #[.string s] w fun e w' => e = .returned (.int .u32 (markS s)) ∧ Fr w w' [] := by
  unfold maxLen at hs
  obtain ⟨N, C, W, hcv, hfr, hcell⟩ := toBytes s w
  have HF := Lib.hid hfr; have HC := Lib.hid hcell
  clear hfr hcell
  go_enter Try.func159, Try.ntmps159
  go_wp2_with fail
  clear hcv
  obtain ⟨n, hn⟩ : ∃ n, s.size = n := ⟨_, rfl⟩
  rw [hn] at hs ⊢
  have HN := Lib.hid hn
  clear hn
  go_loop [3, 9] (fun x i => ∃ k : Nat, k ≤ n ∧ i = .int .i64 k ∧ x = .int .u32 (mkAll s k)) (fun _ i => n - (intOf i).toNat)
  case atStart => exact ⟨0, by omega, rfl, rfl⟩
  case round =>
    obtain ⟨k, hk, rfl, rfl⟩ := hrel
    by_cases hlt : k < n
    · have hc := HC.out k (by rw [HN.out]; exact hlt)
      have d1 : (0 : Int) ≤ (k : Int) := by omega
      have d2 : (k : Int) < (n : Int) := by omega
      have HST := Lib.hid (mkAll_succ s k (by rw [HN.out]; exact hlt))
      obtain ⟨c, hcc⟩ : ∃ c, byA s k = c := ⟨_, rfl⟩
      rw [hcc] at hc HST
      clear hcc
      go_wp2_with fail
      exact ⟨⟨k + 1, by omega, by simp, by rw [HST.out]; rfl⟩, by simp only [intOf]; omega⟩
    · obtain rfl : k = n := by omega
      go_wp2_with fail
      go_ret
      exact ⟨by unfold markS; rw [HN.out]; rfl, HF.out⟩
/-- which of two names is ahead -/
def ahS (a b : ByteArray) : Int := if markS a < markS b ∨ (markS a = markS b ∧ Op.bytesLess a.toList b.toList = true) then -1 else if a = b then 0 else 1
set_option maxRecDepth 100000 in
set_option maxHeartbeats 4000000 in
theorem botAhead (a b : ByteArray) (w : World) (ha : a.size ≤ maxLen) (hb : b.size ≤ maxLen) :
    Calls Try.prog 129 #[.string a, .string b] w fun e w' => e = .returned (.int .i64 (ahS a b)) ∧ Fr w w' [] := by
  have hM1 := botMark a w ha
  have hM2 := fun w' => botMark b w' hb
  unfold ahS
  obtain ⟨x, hx⟩ : ∃ x, markS a = x := ⟨_, rfl⟩
  obtain ⟨y, hy⟩ : ∃ y, markS b = y := ⟨_, rfl⟩
  rw [hx] at hM1 ⊢
  simp only [hy] at hM2 ⊢
  have HM1 := Lib.hid hM1
  have HM2 := fun w' => Lib.hid (hM2 w')
  obtain ⟨R, hR⟩ : ∃ R : Int, (if x < y ∨ (x = y ∧ Op.bytesLess a.toList b.toList = true) then -1 else if a = b then 0 else 1) = R := ⟨_, rfl⟩
  rw [hR]
  have HR := Lib.hid hR
  clear ha hb hx hy hM1 hM2 hR
  go_enter Try.func129, Try.ntmps129
  go_wp2_with fail
  refine HM1.out.mono ?_; rintro e w1 ⟨rfl, hf1⟩
  have HF1 := Lib.hid hf1
  clear hf1
  go_wp2_with fail
  refine (HM2 w1).out.mono ?_; rintro e w2 ⟨rfl, hf2⟩
  have HF2 := Lib.hid (HF1.out.keep hf2.bel)
  clear hf2
  by_cases c1 : x < y
  · have g1 : decide (x < y) = true := decide_eq_true c1
    have hr := HR.out
    rw [if_pos (.inl c1)] at hr
    have HR2 := Lib.hid hr
    clear hr
    go_wp2_with fail
    go_ret
    exact ⟨by rw [← HR2.out]; rfl, HF2.out⟩
  · have g1 : decide (x < y) = false := decide_eq_false c1
    by_cases c2 : x = y
    · have g2 : (x == y) = true := by rw [c2]; exact beq_self_eq_true _
      have hr := HR.out
      cases hbl : Op.bytesLess a.toList b.toList
      · rw [if_neg (by rintro (h | ⟨_, h⟩); exact c1 h; rw [hbl] at h; cases h)] at hr
        have g3 := str_eq a b
        by_cases c3 : a = b
        · rw [decide_eq_true c3] at g3
          rw [if_pos c3] at hr
          have HR2 := Lib.hid hr
          clear hr c3 c2 c1
          go_wp2_with fail
          go_ret
          exact ⟨by rw [← HR2.out]; rfl, HF2.out⟩
        · rw [decide_eq_false c3] at g3
          rw [if_neg c3] at hr
          have HR2 := Lib.hid hr
          clear hr c3 c2 c1
          go_wp2_with fail
          go_ret
          exact ⟨by rw [← HR2.out]; rfl, HF2.out⟩
      · rw [if_pos (.inr ⟨c2, hbl⟩)] at hr
        have HR2 := Lib.hid hr
        clear hr c2 c1
        go_wp2_with fail
        go_ret
        exact ⟨by rw [← HR2.out]; rfl, HF2.out⟩
    · have g2 : (x == y) = false := beq_eq_false_iff_ne.2 c2
      have g3 := str_eq a b
      have hr := HR.out
      rw [if_neg (by rintro (h | ⟨h, _⟩); exact c1 h; exact c2 h)] at hr
      by_cases c3 : a = b
      · rw [decide_eq_true c3] at g3
        rw [if_pos c3] at hr
        have HR2 := Lib.hid hr
        clear hr c3
        go_wp2_with fail
        go_ret
        exact ⟨by rw [← HR2.out]; rfl, HF2.out⟩
      · rw [decide_eq_false c3] at g3
        rw [if_neg c3] at hr
        have HR2 := Lib.hid hr
        clear hr c3
        go_wp2_with fail
        go_ret
        exact ⟨by rw [← HR2.out]; rfl, HF2.out⟩
end Go.Proofs.Ytooghdnlaonkaaa
/- bottom.Check. -/
namespace Go.Proofs.Ytooghdnlaonkaaa
open Go.RowKit

def prevBad (p : Option ByteArray) (x : ByteArray) : Bool := match p with | some q => decide (0 ≤ ahS q x) | none => false
def chkL : Option ByteArray → List ByteArray → Int
  | _, [] => 0
  | p, x :: r => if 12 < x.size then 2 else if prevBad p x then 3 else chkL (some x) r
/-- what Check says of a sample -/
def chkB (most : Int) (l : List ByteArray) : Int := if most < 1 ∨ 30 < most then 1 else if most < l.length then 2 else chkL none l
set_option maxRecDepth 100000 in
set_option maxHeartbeats 8000000 in
theorem botChk (most : Int) (l : List ByteArray) (n : Nat) (a : Option Addr) (cap : Nat) (w : World) (h : Sa w a (strV l)) (hn : l.length = n) (hm : n ≤ maxLen) :
    Calls Try.prog 87 #[.agg #[.int .i64 most, .slice a n cap]] w fun e w' => e = .returned (.int .i64 (chkB most l)) ∧ Fr w w' [] := by
  have HN := Lib.hid hn; have HS := Lib.hid h
  unfold maxLen at hm
  obtain ⟨N, hN⟩ : ∃ N, w.heap.size = N := ⟨_, rfl⟩
  have HF0 := Lib.hid ((Fg.start w).new 71 #[.int .i64 most, .slice a n cap] [.int .i64 most, .slice a n cap] rfl N hN 2 rfl (by omega))
  have HFR := Lib.hid ((Fr.start w).alloc (.cells #[.int .i64 most, .slice a n cap] 71))
  obtain ⟨g, e, -, -, t1, -⟩ := HF0.out.open List.mem_cons_self (by simp)
  cases e
  have c0 := t1 0 (by simp)
  have c1 := t1 1 (by simp)
  simp only [List.getElem?_cons_zero, List.getElem?_cons_succ] at c0 c1
  clear t1 h hn
  by_cases b1 : most < 1 ∨ 30 < most
  · have HR : Hid (chkB most l = 1) := Lib.hid (by unfold chkB; rw [if_pos b1])
    rcases Int.lt_or_le most 1 with b2 | b2
    · have g1 : decide (most < 1) = true := decide_eq_true b2
      clear b1
      go_enter Try.func87, Try.ntmps87
      go_wp2_with fail
      go_ret
      exact ⟨by rw [HR.out]; rfl, HFR.out⟩
    · have g1 : decide (most < 1) = false := decide_eq_false (by omega)
      have g2 : decide (30 < most) = true := decide_eq_true (by omega)
      clear b1
      go_enter Try.func87, Try.ntmps87
      go_wp2_with fail
      go_ret
      exact ⟨by rw [HR.out]; rfl, HFR.out⟩
  · have g1 : decide (most < 1) = false := decide_eq_false (by omega)
    have g2 : decide (30 < most) = false := decide_eq_false (by omega)
    by_cases b3 : most < (n : Int)
    · have HR : Hid (chkB most l = 2) := Lib.hid (by unfold chkB; rw [if_neg b1, if_pos (by rw [HN.out]; exact b3)])
      have g3 : decide (most < (n : Int)) = true := decide_eq_true b3
      clear b1
      go_enter Try.func87, Try.ntmps87
      go_wp2_with fail
      go_ret
      exact ⟨by rw [HR.out]; rfl, HFR.out⟩
    · have HR : Hid (chkB most l = chkL none l) := Lib.hid (by unfold chkB; rw [if_neg b1, if_neg (by rw [HN.out]; exact b3)])
      have g3 : decide (most < (n : Int)) = false := decide_eq_false b3
      clear b1
      go_enter Try.func87, Try.ntmps87
      go_wp2_with fail
      clear c0 c1 g1 g2 g3
      go_loopw [22] (fun q wr => ∃ (k : Nat) (p : Option ByteArray), k ≤ n ∧ q = .int .i64 k ∧ Hid (chkL p (l.drop k) = chkL none l) ∧ Hid (k = 0 → p = none) ∧ Hid (0 < k → ∃ x, l[k - 1]? = some x ∧ p = some x ∧ x.size ≤ 12) ∧ Hid (Fg w wr [⟨71, 1, 2, .slice (some ⟨N, 0, none⟩) 2 2, [.int .i64 most, .slice a n cap]⟩])) (fun q _ => n - (intOf q).toNat)
      case atStart => exact ⟨0, none, by omega, rfl, Lib.hid rfl, Lib.hid (fun _ => rfl), Lib.hid (fun h => absurd h (by omega)), HF0⟩
      case round =>
        obtain ⟨k, p, hk, rfl, HC, HP0, HP1, HF⟩ := hrel
        by_cases hlt : k < n
        · obtain ⟨x, hx⟩ : ∃ x, l[k]? = some x := ⟨_, List.getElem?_eq_getElem (by rw [HN.out]; exact hlt)⟩
          have hSk := HS.out.keep HF.out.fr.bel
          obtain ⟨b, off, rfl, -, x1⟩ := hSk.strA k x hx
          obtain ⟨g, e, -, -, t1, -⟩ := HF.out.open List.mem_cons_self (by simp)
          cases e
          have c1 := t1 1 (by simp)
          simp only [List.getElem?_cons_zero, List.getElem?_cons_succ] at c1
          have hdr : l.drop k = x :: l.drop (k + 1) := by rw [List.drop_eq_getElem_cons (by rw [HN.out]; exact hlt)]; congr 1; rw [List.getElem?_eq_getElem (by rw [HN.out]; exact hlt)] at hx; cases hx; rfl
          have hch := HC.out
          rw [hdr, chkL] at hch
          have d1 : (0 : Int) ≤ (k : Int) := by omega
          have d2 : (k : Int) < (n : Int) := by omega
          clear t1 hdr
          by_cases s1 : 12 < x.size
          · rw [if_pos s1] at hch
            have HCH := Lib.hid hch
            have g4 : decide ((12 : Int) < (x.size : Int)) = true := decide_eq_true (by omega)
            clear hch hx hSk
            go_wp2_with fail
            go_ret
            exact ⟨by rw [HR.out, ← HCH.out]; rfl, HF.out.fr⟩
          · rw [if_neg s1] at hch
            have g4 : decide ((12 : Int) < (x.size : Int)) = false := decide_eq_false (by omega)
            have HX := Lib.hid hx
            rcases Nat.eq_zero_or_pos k with h0 | h0
            · subst h0
              rw [Nat.add_zero] at x1
              have hp := HP0.out rfl
              subst hp
              rw [if_neg (by unfold prevBad; simp)] at hch
              have HCH := Lib.hid hch
              clear hch hx hSk
              go_wp2_with fail
              exact ⟨⟨1, some x, by omega, by simp, HCH, Lib.hid (fun h => by omega), Lib.hid (fun _ => ⟨x, HX.out, rfl, by omega⟩), HF⟩, by simp only [intOf]; omega⟩
            · obtain ⟨y, hy, rfl, hyz⟩ := HP1.out h0
              obtain ⟨b', off', e, -, y1⟩ := hSk.strA (k - 1) y hy
              cases e
              have g5 : decide ((0 : Int) < (k : Int)) = true := decide_eq_true (by omega)
              have HCA := Lib.hid (botAhead y x wr (by unfold maxLen; omega) (by unfold maxLen; omega))
              have et : ((k : Int) - 1).toNat = k - 1 := by omega
              have d3 : (0 : Int) ≤ (k : Int) - 1 := by omega
              have d4 : (k : Int) - 1 < (n : Int) := by omega
              have hpb : prevBad (some y) x = decide (0 ≤ ahS y x) := rfl
              rw [hpb] at hch
              obtain ⟨R, hRR⟩ : ∃ R, ahS y x = R := ⟨_, rfl⟩
              rw [hRR] at hch HCA
              have HCH := Lib.hid hch
              clear hch hx hSk hy hpb hRR
              go_wp2_with fail
              refine HCA.out.mono ?_; rintro e w2 ⟨rfl, hf2⟩
              have HF2 := Lib.hid (HF.out.keep hf2.bel)
              clear hf2 HCA
              by_cases s2 : 0 ≤ R
              · have g6 : decide (0 ≤ R) = true := decide_eq_true s2
                have hc3 := HCH.out
                rw [g6, if_pos rfl] at hc3
                have HC3 := Lib.hid hc3
                clear hc3
                go_wp2_with fail
                go_ret
                exact ⟨by rw [HR.out, ← HC3.out]; rfl, HF2.out.fr⟩
              · have g6 : decide (0 ≤ R) = false := decide_eq_false s2
                have hc3 := HCH.out
                rw [g6, if_neg (by simp)] at hc3
                have HC3 := Lib.hid hc3
                clear hc3
                go_wp2_with fail
                exact ⟨⟨k + 1, some x, by omega, by simp, HC3, Lib.hid (fun h => by omega), Lib.hid (fun _ => ⟨x, HX.out, rfl, by omega⟩), HF2⟩, by simp only [intOf]; omega⟩
        · obtain rfl : k = n := by omega
          have hch := HC.out
          rw [List.drop_of_length_le (by rw [HN.out]; exact Nat.le_refl _)] at hch
          have HCH := Lib.hid hch
          clear hch
          go_wp2_with fail
          go_ret
          exact ⟨by rw [HR.out, ← HCH.out]; rfl, HF.out.fr⟩
end Go.Proofs.Ytooghdnlaonkaaa
