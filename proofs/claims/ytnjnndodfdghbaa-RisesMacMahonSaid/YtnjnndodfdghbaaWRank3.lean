/- The walks of the laws RankRises and RankWalk. -/
import Derived.Test.YtnjnndodfdghbaaWRank2
import Derived.Test.YtnjnndodfdghbaaNext
import Derived.Test.YtnjnndodfdghbaaSlFn2
namespace Go.Proofs.Ytnjnndodfdghbaa
open Go.RowKit

theorem dec_back {p : List Int} (n : Nat) (hn : p.length = n) (h : DecF p 0) : ∀ i, i + 1 < n → nth p.reverse i ≤ nth p.reverse (i + 1) := fun i hi => by
  rw [← revSeg_all p, revSeg_nth _ _ _ _ (by omega), revSeg_nth _ _ _ _ (by omega), if_pos (by omega), if_pos (by omega)]
  have := h (0 + 0 + p.length - 1 - (i + 1)) (0 + 0 + p.length - 1 - i) (by omega) (by omega) (by omega)
  omega

set_option maxRecDepth 100000 in
set_option maxHeartbeats 8000000 in
theorem rankRises_any (x y : List Int) (nx ny : Nat) (a b : Option Addr) (ca cb : Nat) (w : World) (h : Sa w a (ints x)) (hn : x.length = nx) (hc : nx ≤ ca) (hm : nx ≤ maxLen)
    (h' : Sa w b (ints y)) (hn' : y.length = ny) (hc' : ny ≤ cb) (hm' : ny ≤ maxLen) :
    Calls Try.prog 6 #[.slice a nx ca, .slice b ny cb] w fun e w' => e = .returned (.bool true) ∧ Below w.heap.size w w' := by
  have HN := Lib.hid hn; have HS := Lib.hid h; have HM := Lib.hid hm; have HN' := Lib.hid hn'; have HS' := Lib.hid h'; have HM' := Lib.hid hm'
  unfold maxLen at hm hm'
  obtain ⟨m, m1, m2, m3, m4⟩ : ∃ m : Nat, m ≤ nx ∧ m ≤ ny ∧ (m : Int) ≤ 10 ∧ (m = nx ∨ m = ny ∨ (m : Int) = 10) := ⟨min (min nx ny) 10, by omega, by omega, by omega, by omega⟩
  have HMIN := Lib.hid (run_min3 #[3, 3, 3] 3 nx ny 10 m m1 m2 m3 m4)
  clear hn h hn' h' m4 hm hm'
  go_enter Try.func6, Try.ntmps6
  go_wp2_with fail
  refine (ranks_any _).mono ?_; rintro e w1 ⟨rfl, hb⟩
  have F4 := (Fr.start w).keep hb
  clear hb
  have hmin := HMIN.out
  go_wp2_with fail
  clear hmin
  refine (permOf_any x nx _ _ m _ (F4.old HS.out) HN.out hc HM.out (by omega)).mono ?_; rintro e w3 ⟨ad3, n3, cp3, rfl, hn3, hc3, hf⟩
  have F5 := F4.call hf
  clear F4 hf
  go_wp2_with fail
  refine (permOf_any y ny _ _ m _ (F5.old HS'.out) HN'.out hc' HM'.out (by omega)).mono ?_; rintro e w4 ⟨ad4, n4, cp4, rfl, hn4, hc4, hf⟩
  have F6 := F5.call hf
  clear F5 hf
  obtain ⟨lA, pA⟩ := permL_ok x m
  obtain ⟨lB, pB⟩ := permL_ok y m
  rw [HN.out, Nat.min_eq_left m1] at lA
  rw [HN'.out, Nat.min_eq_left m2] at lB
  obtain rfl : n3 = m := by rw [← hn3, lA]
  obtain rfl : n4 = n3 := by rw [← hn4, lB]
  have PA := Lib.hid pA; have PB := Lib.hid pB; have LA := Lib.hid lA; have LB := Lib.hid lB
  clear pA pB lA lB hn3 hn4
  generalize permL x n4 = A at *
  generalize permL y n4 = B at *
  have hlr := lex_rank PA.out PB.out (by rw [LA.out, LB.out])
  have rbA := rank_bd A
  have rbB := rank_bd B
  have f10 := facN_10 n4 (by omega)
  rw [LA.out] at rbA
  rw [LB.out] at rbB
  obtain ⟨ra, hra⟩ : ∃ z, ofC (codeL A) = z := ⟨_, rfl⟩
  obtain ⟨rb, hrb⟩ : ∃ z, ofC (codeL B) = z := ⟨_, rfl⟩
  obtain ⟨t, ht⟩ : ∃ t, decide (ra < rb) = t := ⟨_, rfl⟩
  obtain ⟨c, hcc⟩ : ∃ c, lexC A B = c := ⟨_, rfl⟩
  rw [hra, hrb, ht, hcc] at hlr
  rw [hra] at rbA
  obtain ⟨rA0, rA1⟩ := rbA
  have rA2 : ra ≤ 3628800 := by omega
  have HRA := Lib.hid hra; have HRB := Lib.hid hrb; have HCC := Lib.hid hcc
  clear hra hrb hcc rbB f10 rA1
  go_wp2_with fail
  refine (rankOf A n4 _ _ _ (F6.get 1 rfl) LA.out PA.out (by omega) hc3).mono ?_; rintro e w5 ⟨rfl, hb⟩
  rw [HRA.out]
  have F7 := F6.keep hb
  clear F6 hb
  go_wp2_with fail
  refine (rankOf B n4 _ _ _ (F7.get 0 rfl) LB.out PB.out (by omega) hc4).mono ?_; rintro e w6 ⟨rfl, hb⟩
  rw [HRB.out]
  have F8 := F7.keep hb
  clear F7 hb
  go_wp2_with fail
  refine (good2b _ w6.heap.size _ rfl).mono ?_; rintro e w' ⟨rfl, rfl⟩
  have F9 := F8.alloc (.cells #[.int .i64 0, .int .i64 0] 23)
  clear F8
  have tt : (t != t) = false := by simp
  go_wp2_with fail
  refine (slCompare A B _ _ _ ((F9.get 1 rfl).sl' n4 _ LA.out) ((F9.get 0 rfl).sl' n4 _ LB.out) (by rw [LA.out, LB.out]) (by rw [LA.out]; omega)).mono ?_; rintro e w' ⟨rfl, rfl⟩
  rw [HCC.out]
  go_wp2_with fail
  refine (rankNext A n4 _ _ _ (F9.get 1 rfl) LA.out PA.out (by omega)).mono ?_; rintro e w7 hx
  rcases hx with ⟨hd, rfl, hf⟩ | ⟨q, i, ad7, cp7, hq, rfl, hc7, hf⟩
  · have F10 := F9.call hf
    have HD := Lib.hid (dec_back n4 LA.out hd)
    have HRL : Hid (A.reverse.length = n4) := Lib.hid (by rw [List.length_reverse, LA.out])
    clear F9 hf hd
    go_wp2_with fail
    refine (slClone A n4 _ _ _ (F10.get 1 rfl) LA.out (by omega)).mono ?_; rintro e w8 ⟨ad8, cp8, rfl, hc8, hf⟩
    have F11 := F10.call hf
    clear F10 hf
    go_wp2_with fail
    refine (slReverseAll A n4 cp8 ad8 _ _ F11 (by omega)).mono ?_; rintro e w9 ⟨rfl, F12⟩
    clear F11
    go_wp2_with fail
    refine (slSorted A.reverse n4 _ _ _ (F12.get 0 rfl) HRL.out (by omega) HD.out).mono ?_; rintro e w10 ⟨rfl, hf⟩
    have F13 := F12.call hf
    clear F12 hf
    go_wp2_with fail
    go_ret
    exact ⟨rfl, F13.bel⟩
  · have F10 := F9.call hf
    have QL : Hid (q.length = n4) := Lib.hid (by rw [hq.len, LA.out])
    have HR := Lib.hid (next_rank PA.out hq)
    have HLX := Lib.hid (next_lex hq)
    have HIQ := Lib.hid hq.isP
    clear F9 hf hq
    go_wp2_with fail
    refine (rankOf q n4 _ _ _ (F10.get 0 rfl) QL.out HIQ.out (by omega) hc7).mono ?_; rintro e w8 ⟨rfl, hb⟩
    rw [HR.out, HRA.out]
    have F11 := F10.keep hb
    clear F10 hb
    have e1 : (ra + 1 == ra + 1) = true := beq_self_eq_true _
    go_wp2_with fail
    refine (slCompare A q _ _ _ ((F11.get 2 rfl).sl' n4 _ LA.out) ((F11.get 0 rfl).sl' n4 _ QL.out) (by rw [LA.out, QL.out]) (by rw [LA.out]; omega)).mono ?_; rintro e w' ⟨rfl, rfl⟩
    rw [HLX.out]
    go_wp2_with fail
    go_ret
    exact ⟨rfl, F11.bel⟩

set_option maxRecDepth 100000 in
set_option maxHeartbeats 8000000 in
theorem rankWalk_any (n0 : Int) (w : World) :
    Calls Try.prog 7 #[.int .i64 n0] w fun e w' => e = .returned (.bool true) ∧ Below w.heap.size w w' := by
  obtain ⟨n, hn, h7⟩ : ∃ n : Nat, n0 % 7 = n ∧ n < 7 := ⟨(n0 % 7).toNat, by have := Int.emod_nonneg n0 (b := 7) (by omega); omega, by have := Int.emod_nonneg n0 (b := 7) (by omega); have := Int.emod_lt_of_pos n0 (b := 7) (by omega); omega⟩
  have HN := Lib.hid hn
  have hst : ∀ n, n < 7 → atS n (upTo n) 0 = upTo n := by decide
  have HST := Lib.hid (hst n h7)
  obtain ⟨M, hM⟩ : ∃ M, facN n = M + 1 := ⟨facN n - 1, by have := facN_pos n; omega⟩
  have HM := Lib.hid hM
  have f10 := facN_10 n (by omega)
  have m10 : M + 1 ≤ 3628800 := by omega
  have HP : Hid (IsP (upTo n)) := Lib.hid (by rw [← HST.out]; exact at_isP n 0 (facN_pos n))
  have HR : Hid (ofC (codeL (upTo n)) = 0) := Lib.hid (by rw [← HST.out]; exact atS_code n (upTo n) 0 (upTo_len n) (facN_pos n) (upTo_incr n))
  have f0 := Lib.hid (facN_pos n)
  clear hn hst hM f10
  go_enter Try.func7, Try.ntmps7
  go_wp2_with fail
  refine (ranks_any _).mono ?_; rintro e w1 ⟨rfl, hb⟩
  have F1 := (Fr.start w).keep hb
  clear hb
  go_wp2_with fail
  refine (within_any _ _ _ (by omega) (by omega)).mono ?_; rintro e w' ⟨rfl, rfl⟩
  rw [HN.out]
  go_wp2_with fail
  refine (rankAt n 0 _ (by omega) f0.out).mono ?_; rintro e w2 ⟨ad2, cp2, rfl, hc2, hf⟩
  rw [HST.out] at hf
  have F2 := F1.call hf
  clear F1 hf
  go_wp2_with fail
  refine (rankCount n _ (by omega)).mono ?_; rintro e w' ⟨rfl, rfl⟩
  rw [HM.out]
  go_wp2_with fail
  refine (good2b _ w2.heap.size _ rfl).mono ?_; rintro e w' ⟨rfl, rfl⟩
  have F3 := F2.alloc (.cells #[.int .i64 0, .int .i64 0] 23)
  clear F2
  go_wp2_with fail
  refine (slSorted (upTo n) n _ _ _ (F3.get 0 rfl) (upTo_len n) (by omega) (fun i hi => by rw [upTo_nth _ _ (by omega), upTo_nth _ _ hi]; omega)).mono ?_; rintro e w4 ⟨rfl, hf⟩
  have F4 := F3.call hf
  clear F3 hf
  go_wp2_with fail
  go_loopw [3, 37] (fun o i wr => ∃ (t : Nat) (q : List Int) (ad : Option Addr) (cp : Nat), t ≤ M ∧ i = .int .i64 t ∧ o = .slice ad n cp ∧ Hid (IsP q ∧ q.length = n ∧ ofC (codeL q) = t) ∧ Fr w wr [⟨3, .slice ad n cp, ints q⟩]) (fun _ i _ => M - (intOf i).toNat)
  case atStart => exact ⟨0, upTo n, ad2, cp2, by omega, rfl, rfl, Lib.hid ⟨HP.out, upTo_len n, HR.out⟩, F4⟩
  case round =>
    obtain ⟨t, q, ad, cp, ht, rfl, rfl, HQ, hfr⟩ := hrel
    clear F4
    by_cases hlt : t < M
    · go_wp2_with fail
      refine (rankNext q n _ _ _ (hfr.get 0 rfl) HQ.out.2.1 HQ.out.1 (by omega)).mono ?_; rintro e w5 hx
      rcases hx with ⟨hd, rfl, hf⟩ | ⟨q', i, ad7, cp7, hq, rfl, hc7, hf⟩
      · exfalso
        have := last_rank hd
        rw [HQ.out.2.2, HQ.out.2.1, HM.out] at this
        omega
      · have F5 := hfr.call hf
        have HLX := Lib.hid (next_lex hq)
        have HQ2 : Hid (IsP q' ∧ q'.length = n ∧ ofC (codeL q') = ((t + 1 : Nat) : Int)) := Lib.hid ⟨hq.isP, by rw [hq.len, HQ.out.2.1], by rw [next_rank HQ.out.1 hq, HQ.out.2.2]; rfl⟩
        clear hfr hf hq
        go_wp2_with fail
        refine (slCompare q q' _ _ _ ((F5.get 1 rfl).sl' n _ HQ.out.2.1) ((F5.get 0 rfl).sl' n _ HQ2.out.2.1) (by rw [HQ.out.2.1, HQ2.out.2.1]) (by rw [HQ.out.2.1]; omega)).mono ?_; rintro e w' ⟨rfl, rfl⟩
        rw [HLX.out]
        go_wp2_with fail
        exact ⟨⟨t + 1, q', ad7, cp7, by omega, by simp, rfl, HQ2, F5.sub (by simp)⟩, by simp only [intOf]; omega⟩
    · obtain rfl : t = M := by omega
      go_wp2_with fail
      refine (rankNext q n _ _ _ (hfr.get 0 rfl) HQ.out.2.1 HQ.out.1 (by omega)).mono ?_; rintro e w5 hx
      rcases hx with ⟨hd, rfl, hf⟩ | ⟨q', i, ad7, cp7, hq, rfl, hc7, hf⟩
      · have F5 := hfr.call hf
        clear hfr hf hd
        go_wp2_with fail
        go_ret
        exact ⟨rfl, F5.bel⟩
      · exfalso
        have h1 := next_rank HQ.out.1 hq
        have h2 := rank_bd q'
        rw [hq.len, HQ.out.2.1, HM.out, h1, HQ.out.2.2] at h2
        omega
end Go.Proofs.Ytnjnndodfdghbaa
