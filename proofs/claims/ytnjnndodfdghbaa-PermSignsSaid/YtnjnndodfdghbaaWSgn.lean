/- The walk of the law PermSigns. -/
import Derived.Test.YtnjnndodfdghbaaCyc2
import Derived.Test.YtnjnndodfdghbaaWGrp
namespace Go.Proofs.Ytnjnndodfdghbaa
open Go.RowKit

theorem sgP_two (p : List Int) : sgP p = 1 ∨ sgP p = -1 := by unfold sgP; split <;> omega
theorem sgP_tm {a b : List Int} (ha : IsP a) (hb : IsP b) (hl : a.length = b.length) : sgP a * sgP b = sgP (tmL a b) := by
  have := inv_tm_par ha hb hl
  unfold sgP
  have h1 : invN a % 2 = 0 ∨ invN a % 2 = 1 := by omega
  have h2 : invN b % 2 = 0 ∨ invN b % 2 = 1 := by omega
  rcases h1 with h1 | h1 <;> rcases h2 with h2 | h2
  · rw [if_neg (by omega), if_neg (by omega), if_neg (by omega)]; rfl
  · rw [if_neg (by omega), if_pos h2, if_pos (by omega)]; rfl
  · rw [if_pos h1, if_neg (by omega), if_pos (by omega)]; rfl
  · rw [if_pos h1, if_pos h2, if_neg (by omega)]; rfl
theorem sgP_inv {a : List Int} (ha : IsP a) : sgP (invL a) = sgP a := by
  have := inv_inv_par ha
  unfold sgP
  by_cases h : invN a % 2 = 1
  · rw [if_pos h, if_pos (by omega)]
  · rw [if_neg h, if_neg (by omega)]
theorem sgP_swp {p : List Int} (h : IsP p) {a b : Nat} (ha : a < p.length) (hb : b < p.length) (hne : a ≠ b) : sgP (swp p a b) = -sgP p := by
  have := inv_swp h ha hb hne
  unfold sgP
  by_cases h : invN p % 2 = 1
  · rw [if_pos h, if_neg (by omega)]; rfl
  · rw [if_neg h, if_pos (by omega)]
theorem swp_same (p : List Int) (a : Nat) (ha : a < p.length) : swp p a a = p := ext_nth (by rw [swp_len]) fun i hi => by
  rw [swp_len] at hi
  rw [swp_nth _ _ _ _ ha ha]; split
  · next e => rw [e]
  · rfl
theorem sgP_small {p : List Int} (h : p.length < 2) : sgP p = 1 := by
  have : invN p = 0 := by
    match p, h with
    | [], _ => rfl
    | [x], _ => rfl
    | _ :: _ :: _, h => simp only [List.length_cons] at h; omega
  unfold sgP; rw [this]; rfl

set_option maxRecDepth 100000 in
set_option maxHeartbeats 8000000 in
theorem permSigns_any (x y : List Int) (nx ny : Nat) (a b : Option Addr) (ca cb : Nat) (i0 k0 : Int) (w : World) (h : Sa w a (ints x)) (hn : x.length = nx) (hc : nx ≤ ca) (hm : nx ≤ maxLen)
    (h' : Sa w b (ints y)) (hn' : y.length = ny) (hc' : ny ≤ cb) (hm' : ny ≤ maxLen) :
    Calls Try.prog 13 #[.slice a nx ca, .slice b ny cb, .int .i64 i0, .int .i64 k0] w fun e w' => e = .returned (.bool true) ∧ Below w.heap.size w w' := by
  have HN := Lib.hid hn; have HS := Lib.hid h; have HM := Lib.hid hm; have HN' := Lib.hid hn'; have HS' := Lib.hid h'; have HM' := Lib.hid hm'
  have HP := Lib.hid (show IsP [1, 0] from isP_lit _ (by decide) (by decide))
  have hs10 : sgP [1, 0] = -1 := by decide
  have HS10 := Lib.hid hs10
  unfold maxLen at hm hm'
  obtain ⟨m, m1, m2, m4, m5⟩ : ∃ m : Nat, m ≤ nx ∧ m ≤ ny ∧ (m : Int) ≤ 10 ∧ (m = nx ∨ m = ny ∨ (m : Int) = 10) := ⟨min (min nx ny) 10, by omega, by omega, by omega, by omega⟩
  have HMIN := Lib.hid (run_min3 #[3, 3, 3] 3 nx ny 10 m m1 m2 m4 m5)
  clear hn h hn' h' m5 hm hm' hs10
  go_enter Try.func13, Try.ntmps13
  go_wp2_with fail
  have F1 := (Fr.start w).lit [1, 0] #[.int .i64 1, .int .i64 0] rfl 2 rfl (by omega) 3
  refine (sign_any [1, 0] 2 _ _ _ (F1.get 0 rfl) rfl HP.out (by omega)).mono ?_; rintro e w0 ⟨rfl, hb⟩
  rw [HS10.out]
  have F2 := F1.below.keep hb
  clear F1 hb
  go_wp2_with fail
  refine (perms_any _).mono ?_; rintro e w1 ⟨rfl, hb⟩
  have F4 := F2.keep hb
  clear hb F2
  have hmin := HMIN.out
  go_wp2_with fail
  clear hmin
  refine (permOf_any x nx _ _ m _ (F4.old HS.out) HN.out hc HM.out (by omega)).mono ?_; rintro e w3 ⟨ad3, n3, cp3, rfl, hn3, hc3, hf⟩
  have F5 := F4.call hf
  clear F4 hf
  go_wp2_with fail
  refine (permOf_any y ny _ _ m _ (F5.old HS'.out) HN'.out hc' HM'.out (by omega)).mono ?_; rintro e w4 ⟨ad4, n4, cp4, rfl, hn4, hc4, hf⟩
  have F6 := Lib.hid (F5.call hf)
  clear F5 hf
  obtain ⟨lA, pA⟩ := permL_ok x m
  obtain ⟨lB, pB⟩ := permL_ok y m
  rw [HN.out, Nat.min_eq_left m1] at lA
  rw [HN'.out, Nat.min_eq_left m2] at lB
  obtain rfl : n3 = m := by rw [← hn3, lA]
  obtain rfl : n4 = n3 := by rw [← hn4, lB]
  have n10 : n4 ≤ 10 := by omega
  have PA := Lib.hid pA; have PB := Lib.hid pB; have LA := Lib.hid lA; have LB := Lib.hid lB
  clear pA pB lA lB hn3 hn4 m1 m2 m4
  generalize permL x n4 = A at *
  generalize permL y n4 = B at *
  have PAB := Lib.hid (tm_isP PA.out PB.out (by rw [LA.out, LB.out])); have LAB : Hid ((tmL A B).length = n4) := Lib.hid (by rw [tmL_len, LB.out])
  have VA := Lib.hid (inv_isP PA.out); have LVA : Hid ((invL A).length = n4) := Lib.hid (by rw [invL_len, LA.out])
  have hP := sgP_tm PA.out PB.out (by rw [LA.out, LB.out])
  have hV := Lib.hid (sgP_inv PA.out)
  have hS2 := sgP_two A; have hT2 := sgP_two B; have hU2 := sgP_two (tmL A B)
  go_wp2_with fail
  refine (permTimes A B n4 _ _ _ _ _ (F6.out.get 1 rfl) LA.out PA.out (F6.out.get 0 rfl) LB.out PB.out n10).mono ?_; rintro e w6 ⟨ad6, cp6, rfl, hc6, hf⟩
  have F8 := Lib.hid (F6.out.call hf)
  clear F6 hf
  go_wp2_with fail
  refine (permInv A n4 _ _ _ (F8.out.get 2 rfl) LA.out PA.out n10).mono ?_; rintro e w7 ⟨ad7, cp7, rfl, hc7, hf⟩
  have F9 := Lib.hid (F8.out.call hf)
  clear F8 hf
  go_wp2_with fail
  refine (sign_any A n4 _ _ _ (F9.out.get 3 rfl) LA.out PA.out n10).mono ?_; rintro e w8 ⟨rfl, hb⟩
  have F10 := Lib.hid (F9.out.keep hb)
  clear F9 hb
  go_wp2_with fail
  refine (sign_any B n4 _ _ _ (F10.out.get 2 rfl) LB.out PB.out n10).mono ?_; rintro e w9 ⟨rfl, hb⟩
  have F11 := Lib.hid (F10.out.keep hb)
  clear F10 hb
  go_wp2_with fail
  refine (sign_any (tmL A B) n4 _ _ _ (F11.out.get 1 rfl) LAB.out PAB.out n10).mono ?_; rintro e w10 ⟨rfl, hb⟩
  have F12 := Lib.hid (F11.out.keep hb)
  clear F11 hb
  go_wp2_with fail
  refine (sign_any (invL A) n4 _ _ _ (F12.out.get 0 rfl) LVA.out VA.out n10).mono ?_; rintro e w11 ⟨rfl, hb⟩
  rw [hV.out]
  have F13 := Lib.hid (F12.out.keep hb)
  clear F12 hb
  go_wp2_with fail
  refine (good6b _ w11.heap.size _ rfl).mono ?_; rintro e w' ⟨rfl, rfl⟩
  have F14 := Lib.hid (F13.out.alloc (.cells #[.int .i64 0, .int .i64 0, .int .i64 0, .int .i64 0, .int .i64 0, .int .i64 0] 23))
  clear F13
  have HSS : Hid (n4 < 2 → sgP A = 1) := Lib.hid fun h => sgP_small (by rw [LA.out]; exact h)
  have HSW : Hid (∀ i k, i < n4 → k < n4 → i ≠ k → sgP (swp A i k) = -sgP A) := Lib.hid fun i k hi hk hne => sgP_swp PA.out (by rw [LA.out]; exact hi) (by rw [LA.out]; exact hk) hne
  obtain ⟨s, hs⟩ : ∃ s, sgP A = s := ⟨_, rfl⟩
  obtain ⟨t, ht⟩ : ∃ t, sgP B = t := ⟨_, rfl⟩
  obtain ⟨u, hu⟩ : ∃ u, sgP (tmL A B) = u := ⟨_, rfl⟩
  rw [hs] at hP hS2 HSS HSW ⊢
  rw [ht] at hP hT2 ⊢
  rw [hu] at hP hU2 ⊢
  have HSA := Lib.hid hs
  have b1 : -1 ≤ u := by omega
  have b2 : u ≤ 1 := by omega
  have b3 : -1 ≤ s := by omega
  have b4 : s ≤ 1 := by omega
  have q1 : (u != u) = false := by simp
  have q2 : (s != s) = false := by simp
  have HS2 := Lib.hid hS2
  clear hs ht hu hT2 hU2 hS2
  by_cases hlt : n4 < 2
  · have d1 : decide ((n4 : Int) < 2) = true := decide_eq_true (by omega)
    obtain rfl : s = 1 := HSS.out hlt
    go_wp2_with fail
    go_ret
    exact ⟨rfl, F14.out.bel⟩
  · have d1 : decide ((n4 : Int) < 2) = false := decide_eq_false (by omega)
    obtain ⟨i, hi⟩ : ∃ i : Nat, i0 % (n4 : Int) = i := ⟨(i0 % (n4 : Int)).toNat, by have := Int.emod_nonneg i0 (show (n4 : Int) ≠ 0 by omega); omega⟩
    obtain ⟨k, hk⟩ : ∃ k : Nat, k0 % (n4 : Int) = k := ⟨(k0 % (n4 : Int)).toNat, by have := Int.emod_nonneg k0 (show (n4 : Int) ≠ 0 by omega); omega⟩
    have hil : i < n4 := by have := Int.emod_lt_of_pos i0 (show 0 < (n4 : Int) by omega); omega
    have hkl : k < n4 := by have := Int.emod_lt_of_pos k0 (show 0 < (n4 : Int) by omega); omega
    have HI := Lib.hid hi; have HK := Lib.hid hk
    clear hi hk
    go_wp2_with fail
    refine (within_any _ _ _ (by omega) (by omega)).mono ?_; rintro e w' ⟨rfl, rfl⟩
    rw [HI.out]
    go_wp2_with fail
    refine (within_any _ _ _ (by omega) (by omega)).mono ?_; rintro e w' ⟨rfl, rfl⟩
    rw [HK.out]
    go_wp2_with fail
    refine (slClone A n4 _ _ _ (F14.out.get 3 rfl) LA.out (by omega)).mono ?_; rintro e w12 ⟨ad, cp, rfl, hcp, hf⟩
    have hfr := (F14.out.call hf).sub (M := [⟨3, .slice ad n4 cp, ints A⟩]) (List.singleton_sublist.2 List.mem_cons_self)
    clear hf F14
    obtain ⟨g, rfl, hg, c1, f1⟩ := hfr.openI i (by rw [LA.out]; exact hil)
    obtain ⟨_, e, _, c2, f2⟩ := hfr.openI k (by rw [LA.out]; exact hkl)
    cases e
    have hsw : (A.set i (nth A k)).set k (nth A i) = swp A i k := rfl
    obtain ⟨p, hp⟩ : ∃ p, nth A i = p := ⟨_, rfl⟩
    obtain ⟨q, hq⟩ : ∃ q, nth A k = q := ⟨_, rfl⟩
    rw [hp] at c1 hsw
    rw [hq] at c2 hsw
    have F5 := hfr.setInt i q
    obtain ⟨_, e, _, c3, f3⟩ := F5.openI k (by rw [List.length_set, LA.out]; exact hkl)
    cases e
    obtain ⟨v, hv⟩ : ∃ v, nth (A.set i q) k = v := ⟨_, rfl⟩
    rw [hv] at c3
    have F6 := (F5.setInt k p).drew
    rw [hsw] at F6
    have HF6 := Lib.hid F6
    have d2 : (0 : Int) ≤ (i : Int) := by omega
    have d3 : (i : Int) < (n4 : Int) := by omega
    have d4 : (0 : Int) ≤ (k : Int) := by omega
    have d5 : (k : Int) < (n4 : Int) := by omega
    have PSW := Lib.hid (PA.out.swp (a := i) (b := k) (by rw [LA.out]; exact hil) (by rw [LA.out]; exact hkl))
    have LSW : Hid ((swp A i k).length = n4) := Lib.hid (by rw [swp_len, LA.out])
    clear F5 F6 hv hp hq hsw hfr hg
    go_wp2_with fail
    go_region
    all_goals
      go_wp2_with fail
      refine (sign_any (swp A i k) n4 _ _ _ (HF6.out.get 0 rfl) LSW.out PSW.out n10).mono ?_; rintro e w13 ⟨rfl, hb⟩
      have HF7 := Lib.hid (HF6.out.keep hb)
      clear hb c1 c2 c3 f1 f2 f3
      by_cases hik : i = k
      · subst hik
        rw [swp_same A i (by rw [LA.out]; exact hil), HSA.out]
        have q3 : (s == -s) = false := by rcases HS2.out with rfl | rfl <;> rfl
        have q4 : ((i : Int) != (i : Int)) = false := by simp
        go_wp2_with fail
        go_ret
        exact ⟨rfl, HF7.out.bel⟩
      · rw [HSW.out i k hil hkl hik]
        have q3 : (-s == -s) = true := by simp
        have q4 : ((i : Int) != (k : Int)) = true := by rw [bne_iff_ne]; omega
        go_wp2_with fail
        go_ret
        exact ⟨rfl, HF7.out.bel⟩
end Go.Proofs.Ytnjnndodfdghbaa
