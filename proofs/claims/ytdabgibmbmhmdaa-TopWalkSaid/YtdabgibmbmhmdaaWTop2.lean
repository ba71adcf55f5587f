/- The walk of the law TopWalk. -/
import Derived.Test.YtdabgibmbmhmdaaTop
import Derived.Test.YtdabgibmbmhmdaaTopM
import Derived.Test.YtdabgibmbmhmdaaEvt3
import Derived.Test.YtdabgibmbmhmdaaSlFn
namespace Go.Proofs.Ytdabgibmbmhmdaa
open Go.RowKit

theorem redIs_parts {p q X Y : Int} (h : RedIs p q X Y) (hq : 0 < q) : ∃ D, 0 < D ∧ Y * D = q ∧ X * D = p ∧ 0 < Y := by
  obtain ⟨rfl, rfl⟩ := h
  exact ⟨redG p q, redG_pos p q hq, redQ_mul p q, redP_mul p q, redQ_pos p q hq⟩
/-- the weight ahead -/
def lastW (l : List Int) (gl : List Nat) : Nat → Int
  | 0 => 0
  | i + 1 => wtL l (gl.getD i 0)
theorem sumW_step (l : List Int) (gl : List Nat) (i : Nat) (h : i < gl.length) : sumW l (gl.take (i + 1)) = sumW l (gl.take i) + wtL l (gl.getD i 0) := by
  rw [List.take_add_one, sumW_app, List.getElem?_eq_getElem h, List.getD_eq_getElem?_getD, List.getElem?_eq_getElem h]
  simp [sumW]
theorem sumW_bd (l : List Int) (h : Pos l) : ∀ a : List Nat, 0 ≤ sumW l a ∧ sumW l a ≤ 100 * l.length * a.length
  | [] => by simp [sumW]
  | s :: a => by
    have h1 := wtL_bd l s h
    have h2 := sumW_bd l h a
    rw [sumW, List.length_cons, Int.natCast_add, Int.mul_add]
    omega

set_option maxRecDepth 100000 in
set_option maxHeartbeats 8000000 in
theorem topWalk_any (l0 : List Int) (n0 : Nat) (a : Option Addr) (cap : Nat) (w : World) (h : Sa w a (ints l0)) (hn : l0.length = n0) (hc : n0 ≤ cap) :
    Calls Try.prog 7 #[.slice a n0 cap] w fun e w' => e = .returned (.bool true) ∧ Below w.heap.size w w' := by
  obtain ⟨m, n1, n2, n3⟩ : ∃ m : Nat, m ≤ n0 ∧ (m : Int) ≤ (8 : Int) ∧ (m = n0 ∨ (m : Int) = (8 : Int)) := ⟨min n0 8, by omega, by omega, by omega⟩
  have HMIN := Lib.hid (run_min2 #[3, 3] 3 n0 8 m n1 n2 n3)
  obtain ⟨l, hl⟩ : ∃ l, l0.take m = l := ⟨_, rfl⟩
  have HS : Hid (Sa w a (ints l)) := Lib.hid (by rw [← hl, ← ints_take]; exact h.take m)
  have HN : Hid (l.length = m) := Lib.hid (by rw [← hl, List.length_take]; omega)
  have hm8 : m ≤ 8 := by omega
  have b1 : (m : Int) ≤ (cap : Int) := by omega
  clear h hn n3 hl
  go_enter Try.func7, Try.ntmps7
  have hmin := HMIN.out
  go_wp2_with fail
  clear hmin
  refine (slClone l m _ _ _ HS.out HN.out (by omega)).mono ?_; rintro e w1 ⟨ad, cp, rfl, hcp, hf⟩
  have HF1 := Lib.hid hf
  clear hf
  go_wp2_with fail
  refine (works_any _).mono ?_; rintro e w2 ⟨rfl, hb⟩
  have HF2 := Lib.hid (HF1.out.keep hb)
  clear hb
  by_cases hm0 : m = 0
  · subst hm0
    go_wp2_with fail
    refine (works_any _).mono ?_; rintro e w3 ⟨rfl, hb⟩
    have HF3 := Lib.hid (HF2.out.keep hb)
    clear hb
    go_wp2_with fail
    go_ret
    exact ⟨rfl, HF3.out.bel⟩
  · have g0 : ((m : Int) == 0) = false := by rw [beq_eq_false_iff_ne]; omega
    have g0' : decide (m = 0) = false := decide_eq_false hm0
    go_wp2_with fail
    go_loopw [3, 32] (fun s3 s32 wr => ∃ (k : Nat) (ys : List Int) (T : Int), k ≤ m ∧ s32 = .int .i64 k ∧ s3 = .int .i64 T ∧ 0 ≤ T ∧ T ≤ 50 * k ∧ Hid (ys.length = m) ∧ Hid (isum (ys.take k) = T) ∧ Hid (∀ i, i < k → 1 ≤ nth ys i ∧ nth ys i ≤ 50) ∧
      Hid (Fr w wr [⟨3, .slice ad m cp, ints ys⟩])) (fun _ s _ => m - (intOf s).toNat)
    case atStart => exact ⟨0, l, 0, by omega, rfl, rfl, by omega, by omega, HN, Lib.hid rfl, Lib.hid (fun i hi => by omega), HF2⟩
    case round =>
      obtain ⟨k, ys, T, hk, rfl, rfl, t1, t2, HL, HT, HB, HF⟩ := hrel
      by_cases hlt : k < m
      · obtain ⟨g, rfl, hg, cs, fs⟩ := HF.out.openI k (by rw [HL.out]; exact hlt)
        obtain ⟨x, hx⟩ : ∃ x, nth ys k = x := ⟨_, rfl⟩
        rw [hx] at cs
        have e1 : (0 : Int) ≤ (k : Int) := by omega
        have e2 : (k : Int) < (m : Int) := by omega
        have r1 := Int.emod_nonneg x (b := 50) (by omega)
        have r2 := Int.emod_lt_of_pos x (b := 50) (by omega)
        obtain ⟨r, hr⟩ : ∃ r, x % 50 = r := ⟨_, rfl⟩
        rw [hr] at r1 r2
        have HR := Lib.hid hr
        have HF5 := Lib.hid (HF.out.setInt k (1 + r))
        have HL5 : Hid ((ys.set k (1 + r)).length = m) := Lib.hid (by rw [List.length_set]; exact HL.out)
        have HT5 : Hid (isum ((ys.set k (1 + r)).take (k + 1)) = T + (1 + r)) := Lib.hid (by
          rw [take_nth _ k (by rw [HL5.out]; exact hlt), isum_snoc, nth_set _ _ _ _ (by rw [HL.out]; exact hlt), if_pos rfl, List.take_set_of_le (Nat.le_refl _), HT.out])
        have HB5 : Hid (∀ i, i < k + 1 → 1 ≤ nth (ys.set k (1 + r)) i ∧ nth (ys.set k (1 + r)) i ≤ 50) := Lib.hid (fun i hi => by
          rw [nth_set _ _ _ _ (by rw [HL.out]; exact hlt)]
          by_cases c : i = k
          · rw [if_pos c]; omega
          · rw [if_neg c]; exact HB.out i (by omega))
        clear hx hr hg
        go_wp2_with (go_at_call 27; refine (within_any _ _ _ (by omega) (by omega)).mono ?_; rintro e w' ⟨rfl, rfl⟩; rw [HR.out])
        exact ⟨⟨k + 1, ys.set k (1 + r), T + (1 + r), by omega, by simp, rfl, by omega, by omega, HL5, HT5, HB5, HF5⟩, by simp only [intOf]; omega⟩
      · obtain rfl : k = m := by omega
        have hts : isum ys = T := by rw [← HT.out, List.take_of_length_le (by rw [HL.out]; exact Nat.le_refl _)]
        have hps : Pos ys := fun y hy => by
          obtain ⟨i, hi, rfl⟩ := List.getElem_of_mem hy
          have := HB.out i (by rw [← HL.out]; exact hi)
          have e : nth ys i = ys[i] := by simp [nth, hi]
          rw [e] at this; omega
        have hT1 := isum_bdP ys hps (by rw [HL.out]; omega)
        rw [hts] at hT1
        have hT0 := hT1.1
        have HTS := Lib.hid hts; have HPS := Lib.hid hps
        clear hts hps hT1
        go_wp2_with fail
        refine (grayWalk_any k _ (by omega)).mono ?_; rintro e w5 ⟨adg, cpg, rfl, hf⟩
        have HF5 := Lib.hid (HF.out.call hf)
        clear hf
        have ht400 : T ≤ 400 := by omega
        have hQ256 : 2 ^ k ≤ 256 := Nat.pow_le_pow_right (n := 2) (by omega) (show k ≤ 8 by omega)
        have hgn := fun j kk => gray_next k j kk hm8
        have hgs := sumW_all k ys HL.out
        have hglen := grayL_len k
        have hglt := grayL_get_lt k
        obtain ⟨gl, hgl⟩ : ∃ gl, grayL k = gl := ⟨_, rfl⟩
        rw [hgl] at HF5 hgs hglen hglt
        simp only [hgl] at hgn
        have hP12 : ∀ s, s < 2 ^ k → chkE ys [s] = 0 := fun s hs => by
          have hp := HPS.out
          have hl := HL.out
          unfold chkE
          rw [if_neg (by omega), if_neg, if_neg]
          · simp only [List.any_cons, List.any_nil, Bool.or_false, decide_eq_true_eq, hl]; omega
          · simp only [List.any_eq_true, decide_eq_true_eq, not_exists, not_and]
            intro y hy; have := hp y hy; omega
        have HW := Lib.hid (fun s => wtL_bd ys s HPS.out)
        obtain ⟨Q, hQ⟩ : ∃ Q, 2 ^ k = Q := ⟨_, rfl⟩
        rw [hQ] at HF5 hgs hglen hglt hQ256 ⊢
        simp only [hQ] at hgn hP12
        have hQ1 : 1 ≤ Q := by rw [← hQ]; exact Nat.two_pow_pos k
        have HGS := Lib.hid hgs; have HGN := Lib.hid hgn; have HGL := Lib.hid hglen; have HGT := Lib.hid hglt; have HCK := Lib.hid hP12
        clear hgs hgn hglen hglt hP12 hQ hgl
        go_wp2_with fail
        go_loopw [7, 8, 61] (fun s7 s8 s61 wr => ∃ (i : Nat) (V S : Int), i ≤ Q ∧ s61 = .int .i64 i ∧ s7 = .int .i64 V ∧ s8 = .int .i64 S ∧ 0 ≤ V ∧ V ≤ 800 ∧ 0 ≤ S ∧ S ≤ 204800 ∧ Hid (lastW ys gl i = V) ∧ Hid (sumW ys (gl.take i) = S) ∧
          Hid (Fr w wr [⟨48, .slice adg Q cpg, hws gl⟩, ⟨3, .slice ad k cp, ints ys⟩])) (fun _ _ s _ => Q - (intOf s).toNat)
        case atStart => exact ⟨0, 0, 0, by omega, rfl, rfl, rfl, by omega, by omega, by omega, by omega, Lib.hid rfl, Lib.hid rfl, HF5⟩
        case round =>
          obtain ⟨i, V, S, hi, rfl, rfl, rfl, v1, v2, s1, s2, HV, HSM, HF⟩ := hrel
          by_cases hlt2 : i < Q
          · obtain ⟨s, hs⟩ : ∃ s, gl.getD i 0 = s := ⟨_, rfl⟩
            have hsQ : s < Q := by rw [← hs]; exact HGT.out i hlt2
            have hgi := hws_get gl i (by rw [HGL.out]; exact hlt2)
            rw [hs] at hgi
            obtain ⟨bg, og, rfl, hbg, cg⟩ := (HF.out.get 0 rfl).at i (by rw [hws_len, HGL.out]; exact hlt2)
            rw [hgi] at cg
            have hstep := sumW_step ys gl i (by rw [HGL.out]; exact hlt2)
            rw [hs, HSM.out] at hstep
            have hbw := HW.out s
            have hS2 := sumW_bd ys HPS.out (gl.take (i + 1))
            rw [hstep, List.length_take, HGL.out, HL.out] at hS2
            have hS3 : 100 * k * min (i + 1) Q ≤ 100 * 8 * 256 := Nat.mul_le_mul (by omega) (by omega)
            obtain ⟨V', hV'⟩ : ∃ V', wtL ys s = V' := ⟨_, rfl⟩
            rw [HL.out] at hbw
            obtain ⟨X, Y, hXY⟩ : ∃ X Y, RedIs (wtL ys s) (isum ys) X Y := ⟨_, _, rfl, rfl⟩
            obtain ⟨D, hD, hYD, hXD, hY0⟩ := redIs_parts hXY (by rw [HTS.out]; exact hT0)
            rw [HTS.out] at hYD
            rw [hV'] at hbw hstep hXD hS2
            have s3 : 0 ≤ S + V' := by omega
            have s4 : S + V' ≤ 204800 := by
              have : ((100 * k * min (i + 1) Q : Nat) : Int) ≤ 204800 := by omega
              have e : (100 * (k : Int) * ((min (i + 1) Q : Nat) : Int)) = ((100 * k * min (i + 1) Q : Nat) : Int) := by simp
              omega
            have v3 : 0 ≤ V' := hbw.1
            have v4 : V' ≤ 800 := by omega
            have hX0 : 0 ≤ X := by
              by_cases c : X < 0
              · have := Int.mul_neg_of_neg_of_pos c hD; omega
              · omega
            have hXV : X ≤ V' := by have : X * 1 ≤ X * D := Int.mul_le_mul_of_nonneg_left (by omega) hX0; omega
            have hYT : Y ≤ T := Int.le_of_dvd hT0 ⟨D, hYD.symm⟩
            have hDT : D ≤ T := Int.le_of_dvd hT0 ⟨Y, by rw [Int.mul_comm]; exact hYD.symm⟩
            have q1 : T.tmod Y = 0 := by rw [← hYD]; exact Int.mul_tmod_right Y D
            have q2 : T.tdiv Y = D := by rw [← hYD]; exact Int.mul_tdiv_cancel_left D (by omega)
            have q3 : T % Y = 0 := by rw [← hYD]; exact Int.mul_emod_right Y D
            have q4 : T / Y = D := by rw [← hYD]; exact Int.mul_ediv_cancel_left D (by omega)
            have q5 : IntKind.i64.wrap (T.tdiv Y) = D := by rw [q2, IntKind.wrap_i64]; omega
            have q6 : decide (Y < 1) = false := decide_eq_false (by omega)
            have HXY := Lib.hid hXY; have HST := Lib.hid hstep; have HVV := Lib.hid hV'; have HSS := Lib.hid hs
            have e1 : (0 : Int) ≤ (i : Int) := by omega
            have e2 : (i : Int) < (Q : Int) := by omega
            clear hgi hbg hstep hbw hS2 hS3 hXY hYD hV' hs
            go_wp2_with fail
            refine (evChance ys k _ _ s _ (HF.out.get 1 rfl) HL.out (by omega) X Y (HCK.out s hsQ) HXY.out).mono ?_; rintro e w6 ⟨rfl, hb⟩
            have hf6 := (HF.out.keep hb).new 40 #[.int .i64 X, .int .i64 Y] [.int .i64 X, .int .i64 Y] rfl 2 rfl (by omega)
            obtain ⟨_, e, _, _, hcr, _⟩ := hf6.open (by simp)
            cases e
            have c0 := hcr 0 (by simp)
            have c1 := hcr 1 (by simp)
            have HF6 := Lib.hid hf6
            clear hcr hf6 hb cg
            by_cases hi0 : i = 0
            · subst hi0
              have g1 : decide ((0 : Int) < ((0 : Nat) : Int)) = false := rfl
              go_wp2_with fail
              go_quiet (fail)
              have HF7 : Hid (Fr w ((w6.alloc (.cells #[.int .i64 X, .int .i64 Y] 40)).drewN nq) [⟨48, .slice (some ⟨bg, og, .none⟩) Q cpg, hws gl⟩, ⟨3, .slice ad k cp, ints ys⟩]) := Lib.hid (HF6.out.tail.drewN nq)
              go_wp2_with fail
              exact ⟨⟨1, V', S + V', by omega, by simp, rfl, rfl, v3, v4, s3, s4, Lib.hid (by rw [← HVV.out, ← HSS.out]; rfl), HST, HF7⟩, by simp only [intOf]; omega⟩
            · obtain ⟨j, hj⟩ : ∃ j, i = j + 1 := ⟨i - 1, by omega⟩
              have hV : V = wtL ys (gl.getD j 0) := by rw [← HV.out, hj]; rfl
              obtain ⟨sj, hsj⟩ : ∃ sj, gl.getD j 0 = sj := ⟨_, rfl⟩
              have hsjQ : sj < Q := by rw [← hsj]; exact HGT.out j (by omega)
              have hgj := hws_get gl j (by rw [HGL.out]; omega)
              rw [hsj] at hgj hV
              have HJ := Lib.hid hj; have HVJ := Lib.hid hV; have HSJ := Lib.hid hsj; have HGJ := Lib.hid hgj
              have g1 : decide ((0 : Int) < (i : Int)) = true := decide_eq_true (by omega)
              have g2 : (i : Int) - 1 = (j : Int) := by omega
              have g3 : IntKind.u16.wrap (j : Int) = (j : Int) := by rw [IntKind.wrap_u16]; omega
              have g4 : (0 : Int) ≤ (j : Int) := by omega
              have g5 : (j : Int) < (Q : Int) := by omega
              have hjQ : j < Q := by omega
              clear hj hV hsj hgj
              go_wp2_with fail
              go_quiet (fail)
              have HF7 : Hid (Fr w ((w6.alloc (.cells #[.int .i64 X, .int .i64 Y] 40)).drewN nq) [⟨48, .slice (some ⟨bg, og, .none⟩) Q cpg, hws gl⟩, ⟨3, .slice ad k cp, ints ys⟩]) := Lib.hid (HF6.out.tail.drewN nq)
              go_wp2_with fail
              refine (grayBit_any j _ (by omega) (by omega)).mono ?_; rintro e w7 ⟨kk, hz, rfl, rfl⟩
              have hg := HGN.out j kk (by have := HJ.out; omega) hz
              have hkk := hg.1
              rw [← HJ.out, HSS.out, HSJ.out] at hg
              have hfl := wtL_flip ys sj kk (by rw [HL.out]; exact hkk)
              rw [← hg.2, HVV.out, ← HVJ.out] at hfl
              have hv := HPS.out (nth ys kk) (by
                have hi : kk < ys.length := by rw [HL.out]; exact hkk
                have e : nth ys kk = ys[kk] := by simp [nth, hi]
                rw [e]; exact List.getElem_mem hi)
              have hxor : bits .xor .u16 (s : Int) (sj : Int) = ((2 ^ kk : Nat) : Int) := by
                rw [u16xor s sj (by omega) (by omega), hg.2, Nat.xor_comm sj, Nat.xor_assoc, Nat.xor_self, Nat.xor_zero]
              have h16 : 2 ^ kk < 65536 := Nat.pow_lt_pow_right (a := 2) (m := kk) (n := 16) (by omega) (by omega)
              have hone := ones_pow kk (by omega)
              obtain ⟨p, hp⟩ : ∃ p, 2 ^ kk = p := ⟨_, rfl⟩
              rw [hp] at hxor h16 hone
              have HSZ := Lib.hid (fun W => Size_nat p W h16)
              have HONE := Lib.hid hone
              obtain ⟨_, _, e, _, cj⟩ := (HF7.out.get 0 rfl).at j (by rw [hws_len, HGL.out]; exact hjQ)
              cases e
              rw [HGJ.out] at cj
              obtain ⟨by_, oy, rfl, _, cy⟩ := (HF7.out.get 1 rfl).int kk (by rw [HL.out]; exact hkk)
              obtain ⟨v, hvv⟩ : ∃ v, nth ys kk = v := ⟨_, rfl⟩
              rw [hvv] at cy hv hfl
              have f1 : (0 : Int) ≤ (kk : Int) := by omega
              have f2 : (kk : Int) < (k : Int) := by omega
              have f3 : decide ((k : Int) ≤ (kk : Int)) = false := decide_eq_false (by omega)
              have f4 : decide (k ≤ kk) = false := decide_eq_false (by omega)
              have hcase : V' - V = v ∨ (V - V' = v ∧ (V' - V == v) = false) := by
                split at hfl
                · exact .inr ⟨by omega, by rw [beq_eq_false_iff_ne]; omega⟩
                · exact .inl (by omega)
              clear hz hg hfl hp hvv hone
              rcases hcase with hA | ⟨hA, hB⟩
              · go_wp2_with fail
                refine (HSZ.out _).mono ?_; rintro e w' ⟨rfl, rfl⟩
                rw [HONE.out]
                go_wp2_with fail
                exact ⟨⟨i + 1, V', S + V', by omega, by simp, rfl, rfl, v3, v4, s3, s4, Lib.hid (by rw [← HVV.out, ← HSS.out]; rfl), HST, HF7⟩, by simp only [intOf]; omega⟩
              · go_wp2_with fail
                refine (HSZ.out _).mono ?_; rintro e w' ⟨rfl, rfl⟩
                rw [HONE.out]
                go_wp2_with fail
                exact ⟨⟨i + 1, V', S + V', by omega, by simp, rfl, rfl, v3, v4, s3, s4, Lib.hid (by rw [← HVV.out, ← HSS.out]; rfl), HST, HF7⟩, by simp only [intOf]; omega⟩
          · obtain rfl : i = Q := by omega
            have hfin := HGS.out
            have hS := HSM.out
            rw [List.take_of_length_le (by rw [HGL.out]; exact Nat.le_refl _)] at hS
            rw [hS, HTS.out] at hfin
            have hz1 : T * (i : Int) ≤ 400 * 256 := Int.mul_le_mul ht400 (by omega) (by omega) (by omega)
            have hz0 : 0 ≤ T * (i : Int) := Int.mul_nonneg t1 (by omega)
            obtain ⟨Z, hZ⟩ : ∃ Z, T * (i : Int) = Z := ⟨_, rfl⟩
            rw [hZ] at hfin hz1 hz0
            have g1 : (2 * S == Z) = true := beq_iff_eq.2 hfin
            clear hfin hS
            go_wp2_with fail
            go_ret
            exact ⟨by simp, HF.out.bel⟩
end Go.Proofs.Ytdabgibmbmhmdaa
