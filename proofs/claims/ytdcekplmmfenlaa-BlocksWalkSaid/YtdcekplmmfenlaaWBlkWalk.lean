/- The walk of the law BlocksWalk. -/
import Derived.Test.YtdcekplmmfenlaaBlk2
import Derived.Test.YtdcekplmmfenlaaBlkC
namespace Go.Proofs.Ytdcekplmmfenlaa
open Go.RowKit

def bumpL (o : List Int) (j : Nat) : List Int := o.set j (nth o j + 1)
def okJ (n : Nat) (g o : List Int) : Bool := decide (0 ≤ mst g) && decide ((mst g).toNat < n) && decide (0 ≤ nth o ((mst g).toNat + 1)) && decide (nth o ((mst g).toNat + 1) ≤ 1000)
/-- k rounds are left: each counts its heaps and goes on to the next; the last one has no next, and then the counts are Stirling's -/
def goB (n : Nat) : Nat → List Int → List Int → Bool
  | 0, _, _ => false
  | k + 1, g, o => okJ n g o && match nxtB (-1) g with
    | none => decide (k = 0) && decide (bumpL o ((mst g).toNat + 1) = (List.range (n + 1)).map (fun k => ((stN n k : Nat) : Int)))
    | some h => decide (0 < k) && goB n k h (bumpL o ((mst g).toNat + 1))
theorem goB_tab : ∀ n, n < 8 → 0 < n → goB n (belN n) (List.replicate n 0) (List.replicate (n + 1) 0) = true := by decide +kernel
theorem bel_le : ∀ n, n < 8 → belN n ≤ 1000 := by decide +kernel
theorem nth_st (n k : Nat) (h : k < n + 1) : nth ((List.range (n + 1)).map (fun k => ((stN n k : Nat) : Int))) k = ((stN n k : Nat) : Int) := by simp [nth, h]
theorem bumpL_len (o : List Int) (j : Nat) : (bumpL o j).length = o.length := by simp [bumpL]
theorem grows_of_val (l : List Int) (h : valB (-1) l) (hl : l.length ≤ 10) : GrowsOk l :=
  grows_of_valB l [] (by decide) (by have : mst [] = -1 := rfl; omega) h (fun k hk => by simp at hk)

set_option maxHeartbeats 2000000 in
theorem blocksWalk_any (x : Int) (w : World) :
    Calls Try.prog 11 #[.int .i64 x] w fun e w' => e = .returned (.bool true) ∧ Below w.heap.size w w' := by
  obtain ⟨k, hk, hx⟩ : ∃ m : Nat, m < 7 ∧ x % 7 = m := ⟨(x % 7).toNat, by omega, by omega⟩
  have HX := Lib.hid hx; clear hx
  go_enter Try.func11, Try.ntmps11
  go_wp2_with fail
  refine (heaps_any _).mono ?_; rintro e w1 ⟨rfl, hb⟩
  have F1 := (Fr.start w).keep hb
  clear hb
  go_wp2_with fail
  refine (within_any _ _ _ (by omega) (by omega)).mono ?_; rintro e w' ⟨rfl, rfl⟩
  rw [HX.out]
  go_wp2_with fail
  obtain ⟨n, hn⟩ : ∃ n : Nat, (1 : Int) + (k : Int) = (n : Int) := ⟨k + 1, by omega⟩
  rw [hn]
  have n1 : 0 < n := by omega
  have n7 : n < 8 := by omega
  clear hn HX hk
  refine (blkAll_nat n _ (by omega)).mono ?_; rintro e w2 ⟨rfl, hb⟩
  replace F1 := F1.keep hb
  clear hb
  have T := goB_tab n n7 n1
  have bl := bel_le n n7
  generalize belN n = m at *
  have T0 := Lib.hid T; clear T
  have hm1 := make_ints (n + 1) (by omega)
  rw [show (((n + 1 : Nat) : Int)) = (n : Int) + 1 from rfl] at hm1
  have hm2 := make_ints n (by omega)
  have F2 := F1.makeInts (n + 1) (by omega)
  have F3 := (F2.makeInts n (by omega)).swap
  have hsz : w2.heap.size + 1 = (w2.alloc (.cells (rowCells (n + 1) (fun _ => 0)) 3)).heap.size := by simp
  rw [← hsz] at F3
  have G0 : w.heap.size ≤ w2.heap.size := F1.bel.size
  obtain ⟨G, hG⟩ : ∃ G, G = w2.heap.size := ⟨_, rfl⟩
  have HG := Lib.hid hG
  have HF3 := Lib.hid F3
  clear F1 F2 F3 hsz hG
  go_wp2_with fail
  clear hm1 hm2
  go_loopw [6, 32] (fun s6 s32 wr => ∃ (i k : Nat) (g o : List Int) (ad : Option Addr) (cp : Nat), s32 = .int .i64 i ∧ Hid (i + k = m) ∧ Hid (goB n k g o = true) ∧ s6 = .slice ad n cp ∧ n ≤ cp ∧ valB (-1) g ∧ Hid (g.length = n ∧ o.length = n + 1) ∧
      Fr w wr [⟨3, .slice (some ⟨w2.heap.size, 0, none⟩) (n + 1) (n + 1), ints o⟩, ⟨3, .slice ad n cp, ints g⟩]) (fun _ s32 _ => m - (intOf s32).toNat)
  case atStart =>
    exact ⟨0, m, List.replicate n 0, List.replicate (n + 1) 0, _, _, rfl, Lib.hid (by omega), T0, rfl, Nat.le_refl _, valB_zeros n (-1) (by omega), Lib.hid ⟨by simp, by simp⟩, HF3.out⟩
  case round =>
    obtain ⟨i, k, g, o, ad, cp, rfl, HK, HT, rfl, hcp, hv, HL, hfr⟩ := hrel
    have ht := HT.out
    cases k with
    | zero => simp [goB] at ht
    | succ k =>
      have hk := HK.out
      have hi : i < m := by omega
      rw [goB, Bool.and_eq_true] at ht
      obtain ⟨ht1, ht2⟩ := ht
      simp only [okJ, Bool.and_eq_true, decide_eq_true_eq] at ht1
      obtain ⟨⟨⟨j1, j2⟩, j3⟩, j4⟩ := ht1
      obtain ⟨j, hj⟩ : ∃ j : Nat, mst g = j := ⟨(mst g).toNat, by omega⟩
      have ejj : (mst g).toNat = j := by omega
      rw [ejj] at j2 j3 j4 ht2
      have HJ := Lib.hid hj
      have HT2 := Lib.hid ht2
      have HV := Lib.hid hv
      clear hk HT ht2 hj j1 ejj hv
      have gpos : 0 ≤ g.getD 0 0 := by
        cases g with
        | nil => have h1 := HL.out.1; simp at h1; omega
        | cons a r => exact HV.out.1
      have GP := Lib.hid gpos; clear gpos
      obtain ⟨G', e, hG1, hG2, hc, hz⟩ := hfr.open (by rw [ints_len, HL.out.2]; omega)
      cases e
      have c1 := hc (j + 1) (by rw [ints_len, HL.out.2]; omega)
      rw [ints_get o (j + 1) (by rw [HL.out.2]; omega)] at c1
      have z1 := hz (j + 1)
      clear hc hz
      have SG := hfr.get 1 rfl
      obtain ⟨y, hy⟩ : ∃ y, nth o (j + 1) = y := ⟨_, rfl⟩
      rw [hy] at c1 j3 j4
      have HY := Lib.hid hy; clear hy
      go_wp2_with (go_at_call 34; refine (slMax g _ _ (SG.sl' n cp HL.out.1) (by rw [HL.out.1]; exact n1) (by rw [HL.out.1]; omega) GP.out).mono ?_; rintro e w' ⟨rfl, rfl⟩; rw [HJ.out])
      have F4 := (hfr.setInt (j + 1) (y + 1)).swap
      have eb : o.set (j + 1) (y + 1) = bumpL o (j + 1) := by unfold bumpL; rw [HY.out]
      rw [eb] at F4
      clear hfr SG c1 z1 eb HY
      refine (blkNext g n _ _ _ (F4.get 0 rfl) HL.out.1 (by omega) hcp (grows_of_val g HV.out (by rw [HL.out.1]; omega))).mono ?_; rintro e w4 (⟨h, rfl, hf⟩ | ⟨s, a3, k3, h, rfl, hc3, hf⟩)
      · have ht2 := HT2.out
        rw [h] at ht2
        simp only [Bool.and_eq_true, decide_eq_true_eq] at ht2
        obtain ⟨hk0, ho⟩ := ht2
        rw [ho] at F4
        have F5 := ((F4.keep hf.bel).swap)
        have hq : ((i : Nat) : Int) = (m : Int) - 1 := by have := HK.out; omega
        have q1 : ((i : Int) != (m : Int) - 1) = false := by rw [hq]; simp
        have q2 : ((i : Int) == (m : Int) - 1) = true := by rw [hq]; simp
        clear hf F4 h HT2 ho hk0 hq
        go_wp2_with fail
        generalize hst : (List.range (n + 1)).map (fun k => ((stN n k : Nat) : Int)) = st at *
        have HST := Lib.hid hst; clear hst
        have F6 := F5.sub (M := [⟨3, .slice (some ⟨w2.heap.size, 0, none⟩) (n + 1) (n + 1), ints st⟩]) (by simp)
        clear F5 q1 q2
        obtain ⟨wo, rfl⟩ : ∃ wo : World, wo = w4 := ⟨_, rfl⟩
        go_loopw [77] (fun s77 wr => ∃ t : Nat, t ≤ n + 1 ∧ s77 = .int .i64 t ∧ Fr w wr [⟨3, .slice (some ⟨w2.heap.size, 0, none⟩) (n + 1) (n + 1), ints st⟩]) (fun s77 _ => n + 1 - (intOf s77).toNat)
        case atStart => exact ⟨0, by omega, rfl, F6⟩
        case round =>
          obtain ⟨t, ht, rfl, hfr⟩ := hrel
          clear F6
          by_cases hlt : t < n + 1
          · obtain ⟨G', e, hG1, hG2, hc, hz⟩ := hfr.open (by rw [ints_len, ← HST.out]; simp)
            cases e
            have c1 := hc t (by rw [ints_len, ← HST.out]; simpa using hlt)
            rw [ints_get st t (by rw [← HST.out]; simpa using hlt), ← HST.out, nth_st n t hlt] at c1
            clear hc hz
            have b0 : (t : Int) < (n : Int) + 1 := by omega
            generalize hS : stN n t = S at *
            have HSS := Lib.hid hS; clear hS
            have q1 : (((S : Nat) : Int) != ((S : Nat) : Int)) = false := by simp
            go_wp2_with (go_at_call 36; refine (blkCount_nat n t _ (by omega) (by omega)).mono ?_; rintro e w5 ⟨rfl, hb⟩; rw [HSS.out])
            go_roundw
            case rel => exact ⟨t + 1, by omega, by go_num, hfr.keep hb⟩
            case measure => simp only [intOf]; omega
          · go_wp2_with fail
            go_ret
            exact ⟨rfl, hfr.bel⟩
      · have ht2 := HT2.out
        rw [h] at ht2
        simp only [Bool.and_eq_true, decide_eq_true_eq] at ht2
        obtain ⟨hk0, ho⟩ := ht2
        have HO := Lib.hid ho
        have HS := Lib.hid (nxtB_len _ _ _ h)
        have VS := ((nxtB_says g g (-1) (by omega) HV.out HV.out rfl).2 s h).1
        have LS : s.length = n := by rw [HS.out]; exact HL.out.1
        have HLS := Lib.hid LS
        have F5 := F4.call hf
        have F6 := F5.sub (M := [⟨3, .slice a3 n k3, ints s⟩, ⟨3, .slice (some ⟨w2.heap.size, 0, none⟩) (n + 1) (n + 1), ints (bumpL o (j + 1))⟩]) (by simp)
        have q1 : ((i : Int) != (m : Int) - 1) = true := by rw [bne_iff_ne]; have := HK.out; omega
        have q2 : ((i : Int) == (m : Int) - 1) = false := by rw [beq_eq_false_iff_ne]; have := HK.out; omega
        have GS := Lib.hid (grows_of_val s VS (by rw [LS]; omega))
        have q3 : (((n : Nat) : Int) != ((n : Nat) : Int)) = false := by simp
        clear hf F4 F5 h HT2 ho LS
        go_wp2_with (go_at_call 31; refine (blkChk s n _ _ _ (F6.get 0 rfl) HLS.out (by omega) GS.out).mono ?_; rintro e w7 ⟨rfl, rfl⟩)
        go_roundw
        case rel => exact ⟨i + 1, k, s, _, a3, k3, by go_num, Lib.hid (by have := HK.out; omega), HO, rfl, hc3, VS, Lib.hid ⟨HLS.out, by rw [bumpL_len]; exact HL.out.2⟩, F6.swap⟩
        case measure => simp only [intOf]; omega
end Go.Proofs.Ytdcekplmmfenlaa
