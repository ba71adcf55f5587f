/- The walk of castkeep.BlocksOf. -/
import Derived.Test.YtdcekplmmfenlaaBlkChk
import Derived.Test.YtdcekplmmfenlaaSlEq
namespace Go.Proofs.Ytdcekplmmfenlaa
open Go.RowKit

theorem Sl.lit3 (w : World) (a b c : Int) (T : TypeId) : Sl (w.alloc (.cells #[.int .i64 a, .int .i64 b, .int .i64 c] T)) (.slice (some ⟨w.heap.size, 0, none⟩) 3 3) [a, b, c] := by
  refine .inr ⟨by simp, w.heap.size, 0, 3, rfl, by simp, fun i hi => ?_⟩
  rw [cell_new]
  match i, hi with
  | 0, _ => rfl
  | 1, _ => rfl
  | 2, _ => rfl

def xr (y x : Int) : Int := IntKind.i64.wrap ((BitVec.ofInt IntKind.i64.bits x ^^^ BitVec.ofInt IntKind.i64.bits y).toNat)

theorem wrap_range (z : Int) : -9223372036854775808 ≤ IntKind.i64.wrap z ∧ IntKind.i64.wrap z ≤ 9223372036854775807 := by
  simp only [IntKind.wrap, go_sem]
  simp only [IntKind.signed]
  try simp
  all_goals omega
theorem wrap_inj (u v : Nat) (hu : u < 18446744073709551616) (hv : v < 18446744073709551616) (h : IntKind.i64.wrap u = IntKind.i64.wrap v) : u = v := by
  simp only [IntKind.wrap, go_sem] at h
  simp only [IntKind.signed] at h
  simp at h
  omega
theorem xr_inj0 (y a b : Int) (ha : -9223372036854775808 ≤ a ∧ a ≤ 9223372036854775807) (hb : -9223372036854775808 ≤ b ∧ b ≤ 9223372036854775807) (h : xr y a = xr y b) : a = b := by
  unfold xr at h
  have h2 := wrap_inj _ _ (Nat.lt_of_lt_of_le (BitVec.isLt _) (by decide)) (Nat.lt_of_lt_of_le (BitVec.isLt _) (by decide)) h
  have h3 := BitVec.eq_of_toNat_eq h2
  have h4 : BitVec.ofInt 64 a = BitVec.ofInt 64 b := by
    have h6 : (BitVec.ofInt 64 a ^^^ BitVec.ofInt 64 y) ^^^ BitVec.ofInt 64 y = (BitVec.ofInt 64 b ^^^ BitVec.ofInt 64 y) ^^^ BitVec.ofInt 64 y := congrArg (fun z => z ^^^ BitVec.ofInt 64 y) h3
    rwa [BitVec.xor_assoc, BitVec.xor_assoc, BitVec.xor_self, BitVec.xor_zero, BitVec.xor_zero] at h6
  have h5 := congrArg BitVec.toInt h4
  rw [BitVec.toInt_ofInt, BitVec.toInt_ofInt] at h5
  simp only [Int.bmod] at h5
  omega
def xf (y z : Int) : Int := if -9223372036854775808 ≤ z ∧ z ≤ 9223372036854775807 then xr y z else z
theorem xr_inj (y : Int) : ∀ a b, xf y a = xf y b → a = b := by
  intro a b h
  unfold xf at h
  have ra : -9223372036854775808 ≤ xr y a ∧ xr y a ≤ 9223372036854775807 := wrap_range _
  have rb : -9223372036854775808 ≤ xr y b ∧ xr y b ≤ 9223372036854775807 := wrap_range _
  by_cases h1 : -9223372036854775808 ≤ a ∧ a ≤ 9223372036854775807
  · by_cases h2 : -9223372036854775808 ≤ b ∧ b ≤ 9223372036854775807
    · rw [if_pos h1, if_pos h2] at h; exact xr_inj0 y a b h1 h2 h
    · rw [if_pos h1, if_neg h2] at h; omega
  · by_cases h2 : -9223372036854775808 ≤ b ∧ b ≤ 9223372036854775807
    · rw [if_neg h1, if_pos h2] at h; omega
    · rw [if_neg h1, if_neg h2] at h; exact h

theorem blkOf_large (l : List Int) (v : Value) (w : World) (h : Sl w v l) (hl : 10 < l.length) (hm : l.length ≤ maxLen) :
    Calls Try.prog 29 #[v] w fun e w' => e = .returned (.tuple #[.slice none 0 0, .int .i64 2]) ∧ w = w' := by
  rcases h with ⟨rfl, a, cap, rfl⟩ | ⟨h0, b, off, cap, rfl, hb, hc⟩
  · simp at hl
  · clear hc hb h0
    generalize l.length = n at *
    go_enter Try.func29, Try.ntmps29
    go_wp2_with fail
    go_ret2
    exact ⟨rfl, rfl⟩

set_option maxHeartbeats 2000000 in
theorem blocksOf_walk (l : List Int) (v : Value) (y : Int) (w : World) (h : Sl w v l) (hm : l.length ≤ maxLen) (hr : ∀ x ∈ l, -9223372036854775808 ≤ x ∧ x ≤ 9223372036854775807) :
    Calls Try.prog 10 #[v, .int .i64 y] w fun e w' => e = .returned (.bool true) ∧ Below w.heap.size w w' := by
  have HSL := Lib.hid h
  have HXF := Lib.hid (show l.map (fun x => xr y x) = l.map (xf y) from List.map_congr_left (fun x hx => by unfold xf; rw [if_pos (hr x hx)]))
  clear hr
  by_cases hl : l.length ≤ 10
  · obtain ⟨ad, cap, hv⟩ : ∃ ad cap, v = .slice ad l.length cap := by
      rcases h with ⟨rfl, a, cap, rfl⟩ | ⟨h0, b, off, cap, rfl, hb, hc⟩
      · exact ⟨_, _, rfl⟩
      · exact ⟨_, _, rfl⟩
    subst hv
    clear h
    obtain ⟨n, hn⟩ : ∃ n, n = l.length := ⟨_, rfl⟩
    rw [← hn] at HSL
    rw [← hn]
    have HN := Lib.hid hn
    have hn10 : n ≤ 10 := by omega
    clear hn
    go_enter Try.func10, Try.ntmps10
    go_wp2_with fail
    refine (blkOf_any [7, 3, 7] _ _ (Sl.lit3 _ _ _ _ _) (by simp)).mono ?_; rintro e w1 ⟨v1, rfl, ho1, hb1⟩
    have e1 : (ofRun [7, 3, 7]).2 = [0, 1, 0] := by decide
    rw [e1] at ho1
    have HS1 := Lib.hid ho1.sl
    have HB1 := Lib.hid (show Below w.heap.size w w1 from kin_trans (kin_alloc (Below.refl _ _) _) hb1)
    clear ho1 hb1 e1
    go_wp2_with fail
    refine (sliceEq_same [0, 1, 0] _ _ _ (HS1.out.alloc _) (Sl.lit3 _ _ _ _ _) (by simp)).mono ?_; rintro e w2 ⟨rfl, hb2⟩
    have HB2 := Lib.hid (show Below w.heap.size w w2 from kin_trans (kin_alloc HB1.out _) hb2)
    clear hb2
    go_wp2_with fail
    refine (blkOf_any l _ _ (HSL.out.keep HB2.out) hl).mono ?_; rintro e w3 ⟨v3, rfl, ho3, hb3⟩
    have HS3 := Lib.hid ho3.sl
    have HB3 := Lib.hid (show Below w.heap.size w w3 from kin_trans HB2.out hb3)
    clear ho3 hb3
    go_wp2_with fail
    have l3 : (ofRun l).2.length ≤ 10 := by rw [(ofRun_len l).2]; exact hl
    refine (blkOf_any (ofRun l).2 _ _ HS3.out l3).mono ?_; rintro e w4 ⟨v4, rfl, ho4, hb4⟩
    rw [ofRun_twice] at ho4
    have HS4 := Lib.hid ho4.sl
    have HS3' := Lib.hid (HS3.out.keep hb4)
    have HB4 := Lib.hid (show Below w.heap.size w w4 from kin_trans HB3.out hb4)
    clear ho4 hb4
    go_wp2_with fail
    go_loopw [11, 55] (fun nm i wr => ∃ k : Nat, k ≤ n ∧ Own wr w4.heap.size nm ((l.take k).map (fun x => xr y x)) ∧ i = .int .i64 k ∧ Below w4.heap.size w4 wr) (fun _ i _ => n - (intOf i).toNat)
    case atStart => exact ⟨0, by omega, Own.nil _ _, rfl, Below.refl _ _⟩
    case round =>
      obtain ⟨k, hk, ho, rfl, hbel⟩ := hrel
      have HB := Lib.hid hbel; have hsz := hbel.size
      have HO := Lib.hid ho
      clear ho
      by_cases hlt : k < n
      · have hs := HSL.out
        rcases hs with ⟨hl0, _⟩ | ⟨h0, b, off, cap', hv, hb, hc⟩
        · rw [HN.out, hl0] at hlt; simp at hlt
        cases hv
        have hcell := hc k (by rw [← HN.out]; exact hlt)
        rw [← HB4.out.cell (p := ⟨b, off + k, none⟩) hb, ← hbel.cell (p := ⟨b, off + k, none⟩) (Nat.lt_of_lt_of_le hb HB4.out.size)] at hcell
        have hsnoc := Lib.hid (take_snocI l k (by rw [← HN.out]; exact hlt))
        generalize hx : l.getD k 0 = x at *
        have lO : ((l.take k).map (fun x => xr y x)).length ≤ 10 := by rw [List.length_map, List.length_take]; omega
        clear hc hbel hx
        generalize hO : (l.take k).map (fun x => xr y x) = O at *
        have KO := Lib.hid hO; clear hO
        go_wp2_with (at_builtin; go_must (refine wpList_append1_at rfl _ _ rfl w4.heap.size u11 O (xr y x) rfl HO.out rfl ?_ hsz ?_); rotate_left; intro v' w2' ho2 hb2 hlt2 hkp2)
        · exact ⟨⟨k + 1, by omega, by rw [hsnoc.out, List.map_append, KO.out]; exact ho2, by simp, HB.out.trans hb2⟩, by simp [intOf]; omega⟩
        · omega
      · go_wp2_with fail
        have hkn : l.take k = l := List.take_of_length_le (by rw [← HN.out]; omega)
        have ho := HO.out
        rw [hkn] at ho
        have l5 : (l.map (fun x => xr y x)).length ≤ 10 := by rw [List.length_map, ← HN.out]; exact hn10
        have HB5 := Lib.hid (show Below w.heap.size w wr from kin_trans HB4.out HB.out)
        have HS3b := Lib.hid (HS3'.out.keep HB.out)
        have HS4b := Lib.hid (HS4.out.keep HB.out)
        clear hbel hkn
        refine (blkOf_any _ _ _ ho.sl l5).mono ?_; rintro e w6 ⟨v6, rfl, ho6, hb6⟩
        rw [HXF.out, ofRun_map _ (xr_inj y)] at ho6
        have HS6 := Lib.hid ho6.sl
        have HB6 := Lib.hid (show Below w.heap.size w w6 from kin_trans HB5.out hb6)
        have HS3c := Lib.hid (HS3b.out.keep hb6)
        have HS4c := Lib.hid (HS4b.out.keep hb6)
        clear ho6 hb6 ho
        go_wp2_with fail
        refine (good2 _ _).mono ?_; rintro e w7 ⟨rfl, rfl⟩
        go_wp2_with fail
        refine (blkCheck_ok _ _ _ (HS3c.out.alloc _) l3 (ofRun_grows l hl)).mono ?_; rintro e w8 ⟨rfl, rfl⟩
        go_wp2_with fail
        refine (sliceEq_same _ _ _ _ (HS3c.out.alloc _) (HS4c.out.alloc _) (by omega)).mono ?_; rintro e w9 ⟨rfl, hb9⟩
        have HB9 := Lib.hid (show Below w.heap.size w w9 from kin_trans (kin_alloc HB6.out _) hb9)
        have HS3d := Lib.hid ((HS3c.out.alloc _).keep hb9)
        have HS6d := Lib.hid ((HS6.out.alloc _).keep hb9)
        clear hb9
        go_wp2_with fail
        refine (sliceEq_same _ _ _ _ HS3d.out HS6d.out (by omega)).mono ?_; rintro e w10 ⟨rfl, hb10⟩
        have HB10 := Lib.hid (show Below w.heap.size w w10 from kin_trans HB9.out hb10)
        clear hb10
        go_wp2_with fail
        go_ret
        exact ⟨rfl, HB10.out⟩
  · obtain ⟨b, off, cap, hv⟩ : ∃ b off cap, v = .slice (some ⟨b, off, none⟩) l.length cap := by
      rcases h with ⟨rfl, _⟩ | ⟨h0, b, off, cap, rfl, hb, hc⟩
      · simp at hl
      · exact ⟨_, _, _, rfl⟩
    subst hv
    clear h
    obtain ⟨n, hn⟩ : ∃ n, n = l.length := ⟨_, rfl⟩
    rw [← hn] at HSL
    rw [← hn]
    have hl2 : 10 < l.length := by omega
    have hn10 : 10 < n := by omega
    have hnm : n ≤ maxLen := by omega
    have HL2 := Lib.hid hl2; have HM := Lib.hid hm
    clear hn hl2 hl hm
    go_enter Try.func10, Try.ntmps10
    go_wp2_with fail
    refine (blkOf_any [7, 3, 7] _ _ (Sl.lit3 _ _ _ _ _) (by simp)).mono ?_; rintro e w1 ⟨v1, rfl, ho1, hb1⟩
    have e1 : (ofRun [7, 3, 7]).2 = [0, 1, 0] := by decide
    rw [e1] at ho1
    have HS1 := Lib.hid ho1.sl
    have HB1 := Lib.hid (show Below w.heap.size w w1 from kin_trans (kin_alloc (Below.refl _ _) _) hb1)
    clear ho1 hb1 e1
    go_wp2_with fail
    refine (sliceEq_same [0, 1, 0] _ _ _ (HS1.out.alloc _) (Sl.lit3 _ _ _ _ _) (by simp)).mono ?_; rintro e w2 ⟨rfl, hb2⟩
    have HB2 := Lib.hid (show Below w.heap.size w w2 from kin_trans (kin_alloc HB1.out _) hb2)
    clear hb2
    go_wp2_with fail
    refine (blkOf_large l _ _ (HSL.out.keep HB2.out) HL2.out HM.out).mono ?_; rintro e w3 ⟨rfl, rfl⟩
    have hd : decide ((10 : Int) < (n : Int)) = true := decide_eq_true (by omega)
    go_wp2_with fail
    go_ret
    exact ⟨rfl, HB2.out⟩

theorem blocksOf_row (a : Option Addr) (len cap : Nat) (zs : List Int) (y : Int) (w : World) (h : IsRow .i64 w a len cap zs) :
    Calls Try.prog 10 #[.slice a len cap, .int .i64 y] w fun e w' => e = .returned (.bool true) ∧ Below w.heap.size w w' := by
  obtain ⟨h1, h2, h3⟩ := h.sl
  refine blocksOf_walk _ _ y w h1 (by omega) fun x hx => ?_
  rcases h with ⟨_, _, _, rfl⟩ | ⟨_, _, _, _, _, _, hw⟩
  · simp at hx
  · have := hw x (List.mem_of_mem_take hx)
    simp [Lit.wf, go_sem] at this
    have e1 : IntKind.i64.min = -9223372036854775808 := by decide
    omega
end Go.Proofs.Ytdcekplmmfenlaa
