/- Several of my texts in one: BlkNext. -/
import Derived.Test.YtooghdnlaonkaaaPw34
import Derived.Test.YtooghdnlaonkaaaPw35
import Derived.Test.YtooghdnlaonkaaaPw02
/- Contract of blocks.Next. -/
namespace Go.Proofs.Ytooghdnlaonkaaa
open Go.RowKit

def NextSaidB (l : List Int) (n : Nat) (w : World) (e : Ending) (w' : World) : Prop :=
  (nxtB (-1) l = none ∧ e = .returned (.tuple #[.slice none 0 0, .int .i64 4]) ∧ Fr w w' []) ∨
  ∃ s ad cp, nxtB (-1) l = some s ∧ e = .returned (.tuple #[.slice ad n cp, .int .i64 0]) ∧ n ≤ cp ∧ Fr w w' [⟨3, .slice ad n cp, ints s⟩]

theorem nxt_here (l : List Int) (i : Nat) (h : i < l.length) (hn : nxtB (mst (l.take (i + 1))) (l.drop (i + 1)) = none) :
    nxtB (mst (l.take i)) (l.drop i) = if nth l i ≤ mst (l.take i) then some ((nth l i + 1) :: List.replicate (l.length - i - 1) 0) else none := by
  rw [List.drop_eq_getElem_cons h]
  have e : l[i] = nth l i := by simp [nth, h]
  rw [e, nxtB]
  have e2 : mst (l.take (i + 1)) = mx (mst (l.take i)) (nth l i) := by rw [take_nth l i h, mst_snoc]; rfl
  rw [e2] at hn
  rw [hn]
  simp only [List.length_drop]
  rw [show l.length - (i + 1) = l.length - i - 1 from by omega]
theorem nxt_found (l : List Int) (i : Nat) (s : List Int) (h : nxtB (mst (l.take i)) (l.drop i) = some s) : nxtB (-1) l = some (l.take i ++ s) := by
  have := nxtB_pre s (l.drop i) (l.take i) (-1) h
  rwa [List.take_append_drop] at this

theorem copied (l : List Int) (n i : Nat) (x : Int) {w w2 : World} {b off g n' cap : Nat} (hF : Fr w w2 [⟨3, .slice (some ⟨g, 0, none⟩) n' cap, ints (l.take i) ++ (ints (List.replicate n 0)).drop i⟩])
    (hS : Sa w (some ⟨b, off, none⟩) (ints l)) (hx : nth l i = x) (hn : l.length = n) (hi : i < n) :
    w2.cell? ⟨b, off + i, none⟩ = some (.int .i64 x) ∧ w2.cell? ⟨g, i, none⟩ = some (.int .i64 0) ∧ w2.frozen? ⟨g, i, none⟩ = false := by
  obtain ⟨b', off', e, _, h1⟩ := (hF.old hS).int i (by omega)
  cases e
  have hl : (ints (l.take i)).length = i := by rw [ints_len, List.length_take]; omega
  obtain ⟨g', e, _, _, h2, h3⟩ := hF.open (by simp [ints_len]; omega)
  cases e
  refine ⟨by rw [h1, hx], ?_, h3 i⟩
  rw [h2 i (by simp [ints_len]; omega), List.getElem?_append_right (by omega), hl, Nat.sub_self, List.getElem?_drop, ints_get _ _ (by simp; omega), nth_rep _ _ _ (by omega)]

theorem copied_list (l : List Int) (n i : Nat) (x : Int) (hn : l.length = n) (hi : i < n) :
    (ints (l.take i) ++ (ints (List.replicate n 0)).drop i).set i (.int .i64 (x + 1)) = ints (l.take i ++ ((x + 1) :: List.replicate (n - i - 1) 0)) := by
  have hl : (ints (l.take i)).length = i := by rw [ints_len, List.length_take]; omega
  rw [List.set_append_right _ _ (by omega), hl, Nat.sub_self, ints_drop, List.drop_replicate, show n - i = (n - i - 1) + 1 from by omega, List.replicate_succ]
  simp [ints]

set_option maxHeartbeats 1000000 in
theorem blkNext (l : List Int) (n : Nat) (a : Option Addr) (cap : Nat) (w : World) (h : Sa w a (ints l)) (hn : l.length = n) (hl : n ≤ 10) (hc : n ≤ cap) (hg : GrowsOk l) :
    Calls Try.prog 60 #[.slice a n cap] w (NextSaidB l n w) := by
  have HN := Lib.hid hn
  have hsl : Sl w (.slice a n cap) l := by have := h.sl (cap := cap); rwa [hn] at this
  have HS := Lib.hid h
  have HG := Lib.hid hg
  have HMK := Lib.hid (make_ints n (by omega))
  clear h hg hn
  go_enter Try.func60, Try.ntmps60
  go_wp2_with fail
  refine (blkCheck_ok l _ _ hsl (by rw [HN.out]; exact hl) HG.out).mono ?_; rintro e w1 ⟨rfl, rfl⟩
  clear hsl
  go_wp2_with fail
  go_loopw [5] (fun i wr => ∃ k : Nat, k ≤ n ∧ i = .int .i64 ((k : Int) - 1) ∧ Hid (nxtB (mst (l.take k)) (l.drop k) = none) ∧ Fr w wr []) (fun i _ => (intOf i + 1).toNat)
  case atStart =>
    refine ⟨n, by omega, rfl, Lib.hid ?_, Fr.start w⟩
    rw [List.drop_of_length_le (by rw [HN.out]; omega)]; rfl
  case round =>
    obtain ⟨k, hk, rfl, hnone, hfr⟩ := hrel
    by_cases hk1 : 1 < k
    · obtain ⟨i, rfl⟩ : ∃ i, k = i + 1 := ⟨k - 1, by omega⟩
      have e1 : (((i + 1 : Nat) : Int) - 1) = (i : Int) := by omega
      rw [e1]
      clear e1
      obtain ⟨b, off, rfl, hb, hcell⟩ := (hfr.old HS.out).int i (by rw [HN.out]; omega)
      have hh := nxt_here l i (by rw [HN.out]; omega) hnone.out
      have hp : 0 < mst (l.take i) + 1 ∨ True := .inr trivial
      have hpos := HG.out 0 (by rw [HN.out]; omega)
      have slT : Sl wr (.slice (some ⟨b, off, none⟩) i cap) (l.take i) := by
        have := ((hfr.old HS.out).take i)
        rw [ints_take] at this
        have := this.sl (cap := cap)
        rwa [List.length_take, HN.out, Nat.min_eq_left (by omega)] at this
      have SLT := Lib.hid slT
      have lT : (l.take i).length = i := by rw [List.length_take, HN.out]; omega
      have LT := Lib.hid lT
      have p0 : 0 ≤ (l.take i).getD 0 0 := by
        have := hpos.1
        rw [List.getD_eq_getElem?_getD, List.getElem?_take_of_lt (by omega), ← List.getD_eq_getElem?_getD]
        exact this
      have P0 := Lib.hid p0
      have hgi := HG.out i (by rw [HN.out]; omega)
      obtain ⟨g1, g2, g3, g4⟩ := hgi
      rw [show l.getD i 0 = nth l i from rfl] at g1 g2
      clear slT lT p0 hpos hp
      have HH := Lib.hid hh; clear hh
      generalize hx : nth l i = x at *
      have HX := Lib.hid hx; clear hx
      obtain ⟨M, hM⟩ : ∃ M, M = mst (l.take i) := ⟨_, rfl⟩
      have HM := Lib.hid hM
      rw [← hM] at g2 g3 g4
      clear hM
      have q0 : wr.cell? ⟨b, off + i, none⟩ = some (.int .i64 x) := hcell
      have b1 : (0 : Int) ≤ (i : Int) := by omega
      have b2 : (i : Int) < (n : Int) := by omega
      have b3 : (i : Int) ≤ (cap : Int) := by omega
      have b4 : i < n := by omega
      have b5 : i ≤ cap := by omega
      by_cases hle : x ≤ M
      · have hd : decide (M < x) = false := decide_eq_false (by omega)
        have hd2 : decide (x ≤ M) = true := decide_eq_true hle
        go_wp2_with fail
        go_quiet ((go_at_call 109; exact quiet_eq ((slMax (l.take i) _ _ (SLT.out.drewN _) (by rw [LT.out]; omega) (by rw [LT.out]; omega) P0.out).mono fun _ _ ⟨a, b⟩ => ⟨by rw [a, ← HM.out], b⟩)))
        have hmk := HMK.out
        have HFN : Hid (∀ m, Fr w ((wr.drewN m).alloc (.cells (rowCells n (fun _ => 0)) 3)) [⟨3, .slice (some ⟨wr.heap.size, 0, none⟩) n n, ints (List.replicate n 0)⟩]) := Lib.hid fun m => (hfr.drewN m).makeInts n (by omega)
        have HST : Hid (∀ m, Sa ((wr.drewN m).alloc (.cells (rowCells n (fun _ => 0)) 3)) (some ⟨b, off, none⟩) (ints (l.take i))) := Lib.hid fun m => by
          have := (hfr.old HS.out).take i
          rw [ints_take] at this
          exact (this.drewN m).alloc _
        have ltI : (ints (l.take i)).length = i := by rw [ints_len]; exact LT.out
        have LTI := Lib.hid ltI
        clear ltI
        go_wp2_with (with_reducible refine at_slot 35 ?_; go_must (refine wpList_copyFr (w0 := w) rfl (.tmp 31) (.tmp 34) 32 32 3 Try.underlying32 intSize rfl _ _ n n i cap _ (ints (l.take i)) [] rfl rfl (HFN.out _) (HST.out _) LTI.out (by omega) (ints_one _) ?_); intro w2 hF2 hsz2; obtain ⟨q1, q2, q3⟩ := copied l n i x hF2 HS.out HX.out HN.out b4; have HF2 := Lib.hid hF2; clear hF2 hsz2)
        go_ret2
        refine .inr ⟨l.take i ++ ((x + 1) :: List.replicate (n - i - 1) 0), _, _, nxt_found l i _ ?_, rfl, Nat.le_refl _, ?_⟩
        · rw [HH.out, if_pos (by rw [← HM.out]; exact hle), HN.out]
        · have := HF2.out.set i (.int .i64 (x + 1))
          rwa [copied_list l n i x HN.out b4] at this
      · go_wp2_with fail
        go_quiet ((go_at_call 109; exact quiet_eq ((slMax (l.take i) _ _ (SLT.out.drewN _) (by rw [LT.out]; omega) (by rw [LT.out]; omega) P0.out).mono fun _ _ ⟨a, b⟩ => ⟨by rw [a, ← HM.out], b⟩)))
        have hd : decide (x ≤ M) = false := decide_eq_false (by omega)
        go_wp2_with fail
        go_roundw
        case rel =>
          refine ⟨i, by omega, by go_num, Lib.hid ?_, hfr.drewN _⟩
          rw [HH.out, if_neg (by rw [← HM.out]; omega)]
        case measure => simp only [intOf]; omega
    · have hnn := Lib.hid (show nxtB (-1) l = none from by
        by_cases h0 : k = 0
        · subst h0; exact hnone.out
        · obtain rfl : k = 1 := by omega
          have hg0 := HG.out 0 (by rw [HN.out]; omega)
          have := nxt_here l 0 (by rw [HN.out]; omega) hnone.out
          rw [if_neg (by have e : nth l 0 = l.getD 0 0 := rfl
                         have e2 : mst (l.take 0) = -1 := rfl
                         omega)] at this
          exact this)
      go_wp2_with fail
      go_ret2
      exact .inl ⟨hnn.out, rfl, hfr⟩
end Go.Proofs.Ytooghdnlaonkaaa
