/- The walk of the law LinesMore. -/
import Derived.Test.YtefblcchmkmfpaaLinH
import Derived.Test.YtefblcchmkmfpaaWLin1
namespace Go.Proofs.Ytefblcchmkmfpaa
open Go.RowKit

theorem xorNot (x : Int) (h0 : -9223372036854775808 ≤ x) (h1 : x ≤ 9223372036854775807) : bits .xor .i64 (-1) x = -x - 1 := by
  have e : bits .xor .i64 (-1) x = IntKind.i64.wrap (((BitVec.ofInt 64 (-1) ^^^ BitVec.ofInt 64 x).toNat : Nat) : Int) := rfl
  have hm : BitVec.ofInt 64 (-1) = BitVec.allOnes 64 := by decide
  rw [e, hm, BitVec.allOnes_xor, BitVec.toNat_not, BitVec.toNat_ofInt, IntKind.wrap_i64]
  omega
theorem IsRow.bd {w : World} {a : Option Addr} {len cap : Nat} {zs : List Int} (h : IsRow .i64 w a len cap zs) : ∀ i, i < len → -9223372036854775808 ≤ nth (zs.take len) i ∧ nth (zs.take len) i ≤ 9223372036854775807 := fun i hi => by
  rcases h with ⟨rfl, rfl, rfl, rfl⟩ | ⟨x, rfl, h1, h2, h3, h4, h5⟩
  · omega
  · rw [nth_take _ _ _ hi]
    have hl : i < zs.length := by omega
    have h6 := h5 zs[i] (List.getElem_mem hl)
    have e : nth zs i = zs[i] := by simp [nth, hl]
    rw [e]
    simp only [Lit.wf, Bool.and_eq_true, decide_eq_true_eq] at h6
    exact h6
/-- from behind, and below: the first k -/
def bkL (l : List Int) (n k : Nat) : List Int := (List.range k).map fun i => -(nth l (n - 1 - i)) - 1
theorem bkL_len (l : List Int) (n k : Nat) : (bkL l n k).length = k := by simp [bkL]
theorem bkL_nth (l : List Int) (n k i : Nat) (h : i < k) : nth (bkL l n k) i = -(nth l (n - 1 - i)) - 1 := by simp [bkL, nth, h]
theorem bkL_step (l : List Int) (n k : Nat) : bkL l n (k + 1) = bkL l n k ++ [-(nth l (n - 1 - k)) - 1] := by
  unfold bkL; rw [List.range_succ, List.map_append]; rfl
set_option maxRecDepth 100000 in
set_option maxHeartbeats 8000000 in
theorem linesMore_any (l0 : List Int) (n0 : Nat) (a : Option Addr) (cap : Nat) (x : Int) (w : World) (h : Sa w a (ints l0)) (hn : l0.length = n0) (hc : n0 ≤ cap)
    (hbd : ∀ i, i < n0 → -9223372036854775808 ≤ nth l0 i ∧ nth l0 i ≤ 9223372036854775807) :
    Calls Try.prog 10 #[.slice a n0 cap, .int .i64 x] w fun e w' => e = .returned (.bool true) ∧ Below w.heap.size w w' := by
  obtain ⟨n, n1, n2, n3⟩ : ∃ m : Nat, m ≤ n0 ∧ (m : Int) ≤ (29 : Int) ∧ (m = n0 ∨ (m : Int) = (29 : Int)) := ⟨min n0 29, by omega, by omega, by omega⟩
  have HMIN := Lib.hid (run_min2 #[3, 3] 3 n0 29 n n1 n2 n3)
  obtain ⟨l, hl⟩ : ∃ l, l0.take n = l := ⟨_, rfl⟩
  have HS : Hid (Sa w a (ints l)) := Lib.hid (by rw [← hl, ← ints_take]; exact h.take n)
  have HN : Hid (l.length = n) := Lib.hid (by rw [← hl, List.length_take]; omega)
  have HBD : Hid (∀ i, i < n → -9223372036854775808 ≤ nth l i ∧ nth l i ≤ 9223372036854775807) := Lib.hid (fun i hi => by rw [← hl, nth_take _ _ _ hi]; exact hbd i (by omega))
  obtain ⟨U, hU⟩ : ∃ U, (bestK mUp l n).length = U := ⟨_, rfl⟩
  obtain ⟨D, hD⟩ : ∃ D, (bestK mDn l n).length = D := ⟨_, rfl⟩
  obtain ⟨U2, hU2⟩ : ∃ U, (bestK mUp (l ++ [x]) (n + 1)).length = U := ⟨_, rfl⟩
  obtain ⟨D2, hD2⟩ : ∃ D, (bestK mDn (l ++ [x]) (n + 1)).length = D := ⟨_, rfl⟩
  have hpre : ∀ may, bestK may (l ++ [x]) n = bestK may l n := fun may => bestK_pre may _ _ n fun i hi => by rw [nth_snoc, HN.out, if_neg (by omega)]
  have m1 := best_more mUp (l ++ [x]) n
  have m2 := best_more mDn (l ++ [x]) n
  rw [hpre, hU, hU2] at m1
  rw [hpre, hD, hD2] at m2
  have u1 : U ≤ n := by rw [← hU]; exact best_le mUp l n
  have d1 : D ≤ n := by rw [← hD]; exact best_le mDn l n
  have HU := Lib.hid hU; have HD := Lib.hid hD; have HU2 := Lib.hid hU2; have HD2 := Lib.hid hD2
  have hn30 : n ≤ 29 := by omega
  have b1 : (n : Int) ≤ (cap : Int) := by omega
  have hl1 : (l ++ [x]).length = n + 1 := by rw [List.length_append, HN.out]; rfl
  have HL1 := Lib.hid hl1
  clear h hn hbd hpre hU hD hU2 hD2 n3 hl hl1
  go_enter Try.func10, Try.ntmps10
  go_wp2_with fail
  refine (linesLive_any _).mono ?_; rintro e w1 ⟨rfl, hb⟩
  have HF1 := Lib.hid ((Fr.start w).keep hb)
  clear hb
  have hmin := HMIN.out
  go_wp2_with fail
  clear hmin
  refine (lin_up l n _ _ _ (HF1.out.old HS.out) HN.out (by omega) (by omega)).mono ?_; rintro e w2 ⟨ad1, cp1, rfl, hc1, hf⟩
  have HF2 := Lib.hid (HF1.out.call hf)
  clear hf hc1
  go_wp2_with fail
  refine (lin_down l n _ _ _ (HF2.out.old HS.out) HN.out (by omega) (by omega)).mono ?_; rintro e w3 ⟨ad2, cp2, rfl, hc2, hf⟩
  have HF3 := Lib.hid (HF2.out.call hf).below
  clear hf hc2
  rw [HU.out, HD.out]
  have hn6 : n ≤ 1000000 := by omega
  go_wp2_with fail
  refine (slClone l n _ _ _ (HF3.out.old HS.out) HN.out (by omega)).mono ?_; rintro e w4 ⟨ad4, cp4, rfl, hc4, hf⟩
  have HF4 := Lib.hid (HF3.out.call hf)
  clear hf hc4
  go_wp2_with (with_reducible refine at_slot 39 ?_; go_must (refine wpList_pushInt' rfl _ _ rfl ad4 n cp4 _ x _ _ rfl rfl HF4.out rfl hn6 ?_); intro ad5 cp5 w5 hf5 hlt5; have HF5 := Lib.hid hf5; clear hf5 hlt5)
  refine (lin_up (l ++ [x]) (n + 1) _ _ _ (HF5.out.get 0 rfl) HL1.out (by omega) HF5.out.cap).mono ?_; rintro e w6 ⟨ad6, cp6, rfl, hc6, hf⟩
  have HF6 := Lib.hid (HF5.out.call hf).below
  clear hf hc6
  rw [HU2.out]
  go_wp2_with fail
  refine (slClone l n _ _ _ (HF6.out.old HS.out) HN.out (by omega)).mono ?_; rintro e w7 ⟨ad7, cp7, rfl, hc7, hf⟩
  have HF7 := Lib.hid (HF6.out.call hf)
  clear hf hc7
  go_wp2_with (with_reducible refine at_slot 48 ?_; go_must (refine wpList_pushInt' rfl _ _ rfl ad7 n cp7 _ x _ _ rfl rfl HF7.out rfl hn6 ?_); intro ad8 cp8 w8 hf8 hlt8; have HF8 := Lib.hid hf8; clear hf8 hlt8)
  refine (lin_down (l ++ [x]) (n + 1) _ _ _ (HF8.out.get 0 rfl) HL1.out (by omega) HF8.out.cap).mono ?_; rintro e w9 ⟨ad9, cp9, rfl, hc9, hf⟩
  have HF9 := Lib.hid (HF8.out.call hf).below
  clear hf hc9
  rw [HD2.out]
  go_wp2_with fail
  go_loopw [13, 14] (fun s13 s14 wr => ∃ (k : Nat) (i : Int) (ad : Option Addr) (cp : Nat), k ≤ n ∧ s14 = .int .i64 i ∧ s13 = .slice ad k cp ∧ Hid (i = (n : Int) - 1 - k) ∧ Hid (Fr w wr [⟨3, .slice ad k cp, ints (bkL l n k)⟩])) (fun _ s _ => (intOf s + 1).toNat)
  case atStart => exact ⟨0, _, .none, 0, by omega, rfl, rfl, Lib.hid (by omega), Lib.hid (HF9.out.nilSlice _)⟩
  case round =>
    obtain ⟨k, i, ad, cp, hk, rfl, rfl, HI, HF⟩ := hrel
    by_cases hlt : k < n
    · obtain ⟨r, hr⟩ : ∃ r : Nat, n = k + 1 + r := ⟨n - 1 - k, by omega⟩
      have hi : i = (r : Int) := by have := HI.out; omega
      subst hi
      have hst := bkL_step l n k
      rw [show n - 1 - k = r by omega] at hst
      obtain ⟨b0, off, rfl, hb0, cx⟩ := (HF.out.old HS.out).int r (by rw [HN.out]; omega)
      have hb := HBD.out r (by omega)
      have hX : bits .xor .i64 (if IntKind.i64.signed = true then -1 else 9223372036854775807) (nth l r) = -(nth l r) - 1 := xorNot (nth l r) hb.1 hb.2
      obtain ⟨y, hy⟩ : ∃ y, nth l r = y := ⟨_, rfl⟩
      rw [hy] at cx hX hst
      obtain ⟨Y, hY⟩ : ∃ Y, -y - 1 = Y := ⟨_, rfl⟩
      rw [hY] at hX hst
      have HST := Lib.hid hst
      have e1 : (0 : Int) ≤ (r : Int) := by omega
      have e2 : (r : Int) < (n : Int) := by omega
      have hk6 : k ≤ 1000000 := by omega
      have HR := Lib.hid hr
      clear hb hy hY hst hb0 hr
      go_wp2_with (with_reducible refine at_slot 66 ?_; go_must (refine wpList_pushInt' rfl _ _ rfl ad k cp _ Y _ _ rfl rfl HF.out rfl hk6 ?_); intro ad' cp' w' hf' hlt'; have HF' := Lib.hid hf'; clear hf' hlt')
      exact ⟨⟨k + 1, (r : Int) - 1, ad', cp', by omega, rfl, rfl, Lib.hid (by have := HR.out; omega), Lib.hid (by rw [HST.out]; exact HF'.out)⟩, by simp only [intOf]; omega⟩
    · obtain rfl : k = n := by omega
      have hi : i = -1 := by have := HI.out; omega
      subst hi
      have hbk : (bestK mUp (bkL l k k) k).length = U := by
        rw [← HU.out]; exact best_back l (bkL l k k) k fun i hi => bkL_nth l k k i hi
      have HBK := Lib.hid hbk
      have g1 : decide ((U : Int) ≤ (U2 : Int)) = true := decide_eq_true (by omega)
      have g2 : decide ((U2 : Int) ≤ (U : Int) + 1) = true := decide_eq_true (by omega)
      have g3 : decide ((D : Int) ≤ (D2 : Int)) = true := decide_eq_true (by omega)
      have g4 : decide ((D2 : Int) ≤ (D : Int) + 1) = true := decide_eq_true (by omega)
      have g5 : decide (U ≤ U2) = true := decide_eq_true (by omega)
      have g6 : decide (D ≤ D2) = true := decide_eq_true (by omega)
      clear hbk
      go_wp2_with fail
      refine (lin_up (bkL l k k) k _ _ _ (HF.out.get 0 rfl) (bkL_len l k k) (by omega) HF.out.cap).mono ?_; rintro e w10 ⟨ad10, cp10, rfl, hc10, hf⟩
      have HF10 := Lib.hid (HF.out.call hf).below
      clear hf hc10
      rw [HBK.out]
      go_wp2_with fail
      refine (good5b _ (w10.heap.size) _ rfl).mono ?_; rintro e w' ⟨rfl, rfl⟩
      have HF11 := Lib.hid (HF10.out.alloc (.cells #[.int .i64 0, .int .i64 0, .int .i64 0, .int .i64 0, .int .i64 0] 22))
      go_wp2_with fail
      go_ret
      exact ⟨by simp, HF11.out.bel⟩
end Go.Proofs.Ytefblcchmkmfpaa
