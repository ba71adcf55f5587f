/- The walk of the law AliasOne. -/
import Derived.Test.YtgblmbhbbjgdiaaWAlias
namespace Go.Proofs.Ytgblmbhbbjgdiaa
open Go.RowKit

theorem sumA_addAt (l : List Int) (n i : Nat) (x : Int) (hl : l.length = n) (hi : i < n) : sumA (nth (addAt l i x)) n = sumA (nth l) n + x := by
  have := sumA_upd (f := nth l) (g := nth (addAt l i x)) i n (fun t _ hne => by rw [addAt_nth _ _ _ _ (by omega), if_neg hne]; omega)
  rw [this, if_pos hi, addAt_nth _ _ _ _ (by omega), if_pos rfl]; omega
theorem other_same {l : List Int} {n : Nat} (hl : l.length = n) (hn : 1 ≤ n) (I K : Nat) (hI : I < n) (hK : K < n) {C : List Int} {S : Int} (acc : ∀ i, i < n → sumA (givesC C S i) n = nth l i * n) :
    decide (∀ i, i < n → sumA (givesC C S i) n = nth (addAt (addAt l I (-1)) K 1) i * n) = decide (I = K) := by
  have hv : ∀ i, nth (addAt (addAt l I (-1)) K 1) i = nth l i + (if i = I then -1 else 0) + if i = K then 1 else 0 := fun i => by
    rw [addAt_nth _ _ _ _ (by rw [addAt_len]; omega), addAt_nth _ _ _ _ (by omega)]
  by_cases e : I = K
  · rw [decide_eq_true e]
    refine decide_eq_true (fun i hi => ?_)
    rw [acc i hi, hv, e]
    by_cases h : i = K
    · rw [if_pos h, if_pos h]; congr 1; omega
    · rw [if_neg h, if_neg h]; congr 1; omega
  · rw [decide_eq_false e]
    refine decide_eq_false (fun hall => ?_)
    have := hall I hI
    rw [acc I hI, hv, if_pos rfl, if_neg e, Int.add_zero, Int.add_mul] at this
    omega

set_option maxRecDepth 100000 in
set_option maxHeartbeats 8000000 in
theorem aliasOne_any (l : List Int) (n : Nat) (a : Option Addr) (ca : Nat) (i0 k0 : Int) (w : World) (h : Sa w a (ints l)) (hn : l.length = n) :
    Calls Try.prog 5 #[.slice a n ca, .int .i64 i0, .int .i64 k0] w fun e w' => e = .returned (.bool true) ∧ Below w.heap.size w w' := by
  have HN := Lib.hid hn; have HS := Lib.hid h
  clear h
  go_enter Try.func5, Try.ntmps5
  go_wp2_with fail
  refine (tables_any _).mono ?_; rintro e w1 ⟨rfl, hb⟩
  have F1 := (Fr.start w).keep hb
  clear hb
  go_wp2_with fail
  refine (aliasBuild l n _ _ _ (F1.old HS.out) HN.out).mono ?_; rintro e w2 hx
  rcases hx with ⟨hne, rfl, hf⟩ | ⟨C, O, hc, hT, rfl, hf⟩
  · have F2 := F1.call hf
    have z : (chkA l != 0) = true := bne_iff_ne.2 hne
    go_wp2_with fail
    go_ret
    exact ⟨rfl, F2.bel⟩
  · have F2 := F1.call hf
    clear F1 hf
    have ok := chkA_ok hc
    rw [hn] at ok
    obtain ⟨S, hS⟩ : ∃ S, sumA (nth l) n = S := ⟨_, rfl⟩
    rw [hS] at ok hT
    have OK' := Lib.hid ok
    have n1 := ok.n1
    have n12 := ok.n12
    have s0 := ok.pos
    have s12 := ok.s12
    have HC := Lib.hid hc; have HSS := Lib.hid hS; have HT := Lib.hid hT
    have zn : ((n : Int) != (n : Int)) = false := by simp
    have zn0 : ((n : Int) == 0) = false := beq_eq_false_iff_ne.2 (by omega)
    clear hc hn ok hS hT
    go_wp2_with fail
    clear zn zn0
    go_loop [9, 47] (fun s i => ∃ k : Nat, k ≤ n ∧ i = .int .i64 k ∧ ∃ z : Int, s = .int .i64 z ∧ 0 ≤ z ∧ z ≤ k * 100 ∧ Hid (z = sumA (nth l) k)) (fun _ i => n - (intOf i).toNat)
    case atStart => exact ⟨0, by omega, rfl, 0, rfl, by omega, by omega, Lib.hid rfl⟩
    case round =>
      obtain ⟨k, hk, rfl, z, rfl, z1, z2, HZ⟩ := hrel
      by_cases hlt : k < n
      · obtain ⟨b', off, rfl, hb, hc⟩ := (F2.old HS.out).int k (by rw [HN.out]; exact hlt)
        have hbd := OK'.out.bd k hlt
        have hst : sumA (nth l) (k + 1) = sumA (nth l) k + nth l k := rfl
        obtain ⟨x, hx⟩ : ∃ x, nth l k = x := ⟨_, rfl⟩
        rw [hx] at hc hbd hst
        have HZ2 : Hid (z + x = sumA (nth l) (k + 1)) := Lib.hid (by rw [hst, HZ.out])
        obtain ⟨x1, x2⟩ := hbd
        clear hx hst HZ
        go_wp2_with fail
        go_round
        case rel => exact ⟨k + 1, by omega, by go_num, _, rfl, by omega, by omega, HZ2⟩
        case measure => simp only [intOf]; omega
      · obtain rfl : k = n := by omega
        obtain rfl : z = S := by rw [HZ.out, HSS.out]
        clear HZ z1 z2
        go_wp2_with fail
        go_loopw [57] (fun i wr => ∃ c : Nat, c ≤ k ∧ i = .int .i64 c ∧ Fr w wr [colE O C k]) (fun i _ => k - (intOf i).toNat)
        case atStart => exact ⟨0, by omega, rfl, F2⟩
        case round =>
          obtain ⟨c, hc, rfl, hfr⟩ := hrel
          clear F2
          by_cases hlt : c < k
          · obtain ⟨⟨q1, q2⟩, q3, q4⟩ := HT.out.cb c hlt
            obtain ⟨nd1, nd2⟩ := never_drawn HT.out c hlt
            obtain ⟨o, ho⟩ : ∃ o : Nat, oth C c = o := ⟨(oth C c).toNat, by omega⟩
            have hon : o < k := by omega
            have nd3 := nd2 o ho
            obtain ⟨_, e, _, c1, -⟩ := hfr.openI (c * 2) (by rw [HT.out.len]; omega)
            cases e
            obtain ⟨_, e, _, c2, -⟩ := hfr.openI (c * 2 + 1) (by rw [HT.out.len]; omega)
            cases e
            rw [show nth C (c * 2) = cut C c from rfl] at c1
            rw [show nth C (c * 2 + 1) = oth C c from rfl, ho] at c2
            obtain ⟨b', off, rfl, hb, c3⟩ := (hfr.old HS.out).int c (by rw [HN.out]; exact hlt)
            obtain ⟨_, _, e, _, c4⟩ := (hfr.old HS.out).int o (by rw [HN.out]; exact hon)
            cases e
            obtain ⟨y, hy⟩ : ∃ y, cut C c = y := ⟨_, rfl⟩
            obtain ⟨p, hp⟩ : ∃ y, nth l c = y := ⟨_, rfl⟩
            obtain ⟨q, hq⟩ : ∃ y, nth l o = y := ⟨_, rfl⟩
            rw [hy] at c1 nd1 nd3 q1 q2
            rw [hp] at c3 nd1
            rw [hq] at c4 nd3
            have F3 := Lib.hid (hfr.alloc (.cells #[.int .i64 y, .int .i64 (o : Int)] 41))
            have d1 : decide ((o : Int) < 0) = false := decide_eq_false (by omega)
            have d2 : decide ((k : Int) ≤ (o : Int)) = false := decide_eq_false (by omega)
            have d3 : (0 : Int) ≤ (o : Int) := by omega
            have d4 : (o : Int) < (k : Int) := by omega
            have d5 : (0 : Int) ≤ (c : Int) := by omega
            have d6 : (c : Int) < (k : Int) := by omega
            have HND1 := Lib.hid nd1; have HND3 := Lib.hid nd3
            clear hy hp hq nd1 nd2 nd3 ho hfr q3 q4
            by_cases hp0 : p = 0
            · have hy0 := HND1.out hp0
              subst hp0 hy0
              by_cases hlt2 : (0 : Int) < z
              · have hq0 : (q == 0) = false := beq_eq_false_iff_ne.2 (HND3.out hlt2)
                have d7 : decide ((0 : Int) < z) = true := decide_eq_true hlt2
                go_wp2_with fail
                exact ⟨⟨c + 1, by omega, by simp, F3.out⟩, by simp only [intOf]; omega⟩
              · omega
            · have hp1 : (p == 0) = false := beq_eq_false_iff_ne.2 hp0
              by_cases hlt2 : y < z
              · have hq0 : (q == 0) = false := beq_eq_false_iff_ne.2 (HND3.out hlt2)
                have d7 : decide (y < z) = true := decide_eq_true hlt2
                go_wp2_with fail
                exact ⟨⟨c + 1, by omega, by simp, F3.out⟩, by simp only [intOf]; omega⟩
              · have d7 : decide (y < z) = false := decide_eq_false hlt2
                go_wp2_with fail
                exact ⟨⟨c + 1, by omega, by simp, F3.out⟩, by simp only [intOf]; omega⟩
          · obtain rfl : c = k := by omega
            obtain ⟨I, hI, hIn⟩ : ∃ i : Nat, i0 % (c : Int) = i ∧ i < c := ⟨(i0 % (c : Int)).toNat, by have := Int.emod_nonneg i0 (b := (c : Int)) (by omega); omega, by have := Int.emod_nonneg i0 (b := (c : Int)) (by omega); have := Int.emod_lt_of_pos i0 (b := (c : Int)) (by omega); omega⟩
            obtain ⟨K, hK, hKn⟩ : ∃ i : Nat, k0 % (c : Int) = i ∧ i < c := ⟨(k0 % (c : Int)).toNat, by have := Int.emod_nonneg k0 (b := (c : Int)) (by omega); omega, by have := Int.emod_nonneg k0 (b := (c : Int)) (by omega); have := Int.emod_lt_of_pos k0 (b := (c : Int)) (by omega); omega⟩
            have HI := Lib.hid hI; have HK := Lib.hid hK
            clear hI hK
            go_wp2_with fail
            refine (within_any _ _ _ (by omega) (by omega)).mono ?_; rintro e w' ⟨rfl, rfl⟩
            rw [HI.out]
            go_wp2_with fail
            refine (within_any _ _ _ (by omega) (by omega)).mono ?_; rintro e w' ⟨rfl, rfl⟩
            rw [HK.out]
            go_wp2_with fail
            refine (slClone l c _ _ _ (hfr.old HS.out) HN.out (by omega)).mono ?_; rintro e w4 ⟨ad3, cp3, rfl, hc3, hf⟩
            have F4 := hfr.call hf
            clear hfr hf
            obtain ⟨g3, rfl, -⟩ := F4.open (by rw [ints_len, HN.out]; omega)
            obtain ⟨_, e, _, c1, f1⟩ := F4.openI I (by rw [HN.out]; exact hIn)
            cases e
            have bI := OK'.out.bd I hIn
            have bK := OK'.out.bd K hKn
            obtain ⟨x, hx⟩ : ∃ x, nth l I = x := ⟨_, rfl⟩
            rw [hx] at c1 bI
            have F5 := F4.setInt I (x - 1)
            have e1 : l.set I (x - 1) = addAt l I (-1) := by unfold addAt; rw [hx]; rfl
            rw [e1] at F5
            obtain ⟨_, e, _, c2, f2⟩ := F5.openI K (by rw [addAt_len, HN.out]; exact hKn)
            cases e
            have hv : nth (addAt l I (-1)) K = nth l K + if K = I then -1 else 0 := addAt_nth _ _ _ _ (by rw [HN.out]; exact hIn)
            obtain ⟨v, hvv⟩ : ∃ v, nth (addAt l I (-1)) K = v := ⟨_, rfl⟩
            rw [hvv] at c2 hv
            have v1 : -1 ≤ v := by rw [hv]; split <;> omega
            have v2 : v ≤ 100 := by rw [hv]; split <;> omega
            have F6 := F5.setInt K (v + 1)
            have e2 : (addAt l I (-1)).set K (v + 1) = addAt (addAt l I (-1)) K 1 := by rw [← hvv]; rfl
            rw [e2] at F6
            have HF6 := Lib.hid F6
            have HLO : Hid ((addAt (addAt l I (-1)) K 1).length = c) := Lib.hid (by rw [addAt_len, addAt_len, HN.out])
            have HSO : Hid (sumA (nth (addAt (addAt l I (-1)) K 1)) c = z) := Lib.hid (by rw [sumA_addAt _ _ _ _ (by rw [addAt_len, HN.out]) hKn, sumA_addAt _ _ _ _ HN.out hIn, HSS.out]; omega)
            have HSM := Lib.hid (other_same HN.out n1 I K hIn hKn HT.out.acc)
            obtain ⟨x1, x2⟩ := bI
            have d1 : (0 : Int) ≤ (I : Int) := by omega
            have d2 : (I : Int) < (c : Int) := by omega
            have d3 : (0 : Int) ≤ (K : Int) := by omega
            have d4 : (K : Int) < (c : Int) := by omega
            clear F4 F5 F6 e1 e2 hx hvv hv bK
            go_wp2_with fail
            by_cases hco : chkA (addAt (addAt l I (-1)) K 1) = 0
            · refine (aliasTest (addAt (addAt l I (-1)) K 1) C c z _ _ _ _ _ (HF6.out.get 0 rfl) HLO.out (HF6.out.get 1 rfl) hco HSO.out HT.out.col).mono ?_; rintro e w5 ⟨rfl, hb⟩
              rw [HSM.out]
              have F7 := Lib.hid (HF6.out.keep hb)
              clear hb hco
              by_cases eIK : I = K
              · subst eIK
                rw [decide_eq_true rfl]
                go_wp2_with fail
                go_ret
                exact ⟨by simp, F7.out.bel⟩
              · rw [decide_eq_false eIK]
                have zz : ((I : Int) == (K : Int)) = false := beq_eq_false_iff_ne.2 (by omega)
                go_wp2_with fail
                go_ret
                exact ⟨by simp, F7.out.bel⟩
            · refine (aliasTest_bad (addAt (addAt l I (-1)) K 1) c _ _ _ _ (HF6.out.get 0 rfl) HLO.out hco).mono ?_; rintro e w' ⟨rfl, rfl⟩
              have zz : (chkA (addAt (addAt l I (-1)) K 1) != 0) = true := bne_iff_ne.2 hco
              go_wp2_with fail
              go_ret
              exact ⟨by simp, HF6.out.bel⟩
end Go.Proofs.Ytgblmbhbbjgdiaa
