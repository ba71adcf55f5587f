/- The walk of the law DerangeOwn. -/
import Derived.Test.YtdabgibmbmhmdaaCycE
import Derived.Test.YtdabgibmbmhmdaaGood
namespace Go.Proofs.Ytdabgibmbmhmdaa
open Go.RowKit

theorem pf_nth {p : List Int} (h : IsP p) {v : Nat} (hv : v < p.length) : nth p v = (pf p v : Nat) := ((h.at v hv).2).symm
set_option maxRecDepth 100000 in
set_option maxHeartbeats 1000000 in
theorem own_any (p : List Int) (n : Nat) (a : Option Addr) (cap : Nat) (w : World) (h : Sa w a (ints p)) (hn : p.length = n) (hp : IsP p) (h10 : n ≤ 10) :
    Calls Try.prog 21 #[.slice a n cap] w fun e w' => e = .returned (.tuple #[.int .i64 (ownN p : Nat), .int .i64 0]) ∧ Below w.heap.size w w' := by
  have HS := Lib.hid h; have HN := Lib.hid hn; have HP := Lib.hid hp
  have HE : Hid (ownN p = sumN (fun v => if pf p v = v then 1 else 0) n) := Lib.hid (by unfold ownN; rw [hn])
  clear h hn hp
  go_enter Try.func21, Try.ntmps21
  go_wp2_with fail
  refine (permChk p n _ _ _ HS.out HN.out HP.out h10).mono ?_; rintro e w1 ⟨rfl, F1⟩
  go_wp2_with fail
  go_loopw [5, 15] (fun s i wr => ∃ j : Nat, j ≤ n ∧ i = .int .i64 j ∧ s = .int .i64 (sumN (fun v => if pf p v = v then 1 else 0) j : Nat) ∧ wr = w1) (fun _ i _ => n - (intOf i).toNat)
  case atStart => exact ⟨0, by omega, rfl, rfl, rfl⟩
  case round =>
    obtain ⟨j, hj, rfl, rfl, rfl⟩ := hrel
    by_cases hlt : j < n
    · obtain ⟨b1, o1, rfl, hb1, c1⟩ := (F1.old HS.out).int j (by rw [HN.out]; exact hlt)
      rw [pf_nth HP.out (by rw [HN.out]; exact hlt)] at c1
      have hst : sumN (fun v => if pf p v = v then 1 else 0) (j + 1) = sumN (fun v => if pf p v = v then 1 else 0) j + if pf p j = j then 1 else 0 := rfl
      have hb := sumN_le (F := fun v => if pf p v = v then 1 else 0) (G := fun _ => 1) j (fun i _ => by show (if pf p i = i then 1 else 0) ≤ 1; split <;> omega)
      rw [sumN_one] at hb
      generalize sumN (fun v => if pf p v = v then 1 else 0) j = S at *
      have e1 : (0 : Int) ≤ (j : Int) := by omega
      have e2 : (j : Int) < (n : Int) := by omega
      by_cases hpf : pf p j = j
      · rw [if_pos hpf] at hst
        rw [hpf] at c1
        have HST := Lib.hid hst
        have q : ((j : Int) == (j : Int)) = true := by simp
        clear hst hpf
        go_wp2_with fail
        exact ⟨⟨j + 1, by omega, by simp, by rw [HST.out]; simp, trivial⟩, by simp only [intOf]; omega⟩
      · rw [if_neg hpf] at hst
        obtain ⟨u, hu⟩ : ∃ u, pf p j = u := ⟨_, rfl⟩
        rw [hu] at c1 hpf
        have HST := Lib.hid hst
        have q : ((j : Int) == (u : Int)) = false := by rw [beq_eq_false_iff_ne]; omega
        have q2 : (j == u) = false := by rw [beq_eq_false_iff_ne]; omega
        have q3 : ¬ j = u := by omega
        clear hst hu hpf
        go_wp2_with fail
        exact ⟨⟨j + 1, by omega, by simp, by rw [HST.out]; simp, trivial⟩, by simp only [intOf]; omega⟩
    · obtain rfl : j = n := by omega
      have HB := Lib.hid F1.bel
      go_wp2_with fail
      go_ret2
      exact ⟨by rw [HE.out]; rfl, HB.out⟩
set_option maxRecDepth 100000 in
set_option maxHeartbeats 8000000 in
theorem derangeOwn_any (x y : List Int) (nx ny : Nat) (a b : Option Addr) (ca cb : Nat) (w : World) (h : Sa w a (ints x)) (hn : x.length = nx) (hc : nx ≤ ca) (hm : nx ≤ maxLen)
    (h' : Sa w b (ints y)) (hn' : y.length = ny) (hc' : ny ≤ cb) (hm' : ny ≤ maxLen) :
    Calls Try.prog 4 #[.slice a nx ca, .slice b ny cb] w fun e w' => e = .returned (.bool true) ∧ Below w.heap.size w w' := by
  have HN := Lib.hid hn; have HS := Lib.hid h; have HM := Lib.hid hm; have HN' := Lib.hid hn'; have HS' := Lib.hid h'; have HM' := Lib.hid hm'
  unfold maxLen at hm hm'
  obtain ⟨m, m1, m2, m4, m5⟩ : ∃ m : Nat, m ≤ nx ∧ m ≤ ny ∧ (m : Int) ≤ 10 ∧ (m = nx ∨ m = ny ∨ (m : Int) = 10) := ⟨min (min nx ny) 10, by omega, by omega, by omega, by omega⟩
  have HMIN := Lib.hid (run_min3 #[3, 3, 3] 3 nx ny 10 m m1 m2 m4 m5)
  have HP := Lib.hid (show IsP [0, 2, 1] from isP_lit _ (by decide) (by decide))
  have E1 : Hid (ownN [0, 2, 1] = 1) := Lib.hid (by decide)
  clear hn h hn' h' m5 hm hm'
  go_enter Try.func4, Try.ntmps4
  go_wp2_with fail
  have F1 := (Fr.start w).lit [0, 2, 1] #[.int .i64 0, .int .i64 2, .int .i64 1] rfl 3 rfl (by omega) 3
  refine (own_any [0, 2, 1] 3 _ _ _ (F1.get 0 rfl) rfl HP.out (by omega)).mono ?_; rintro e w0 ⟨rfl, hb⟩
  rw [E1.out]
  have F4 := F1.below.keep hb
  clear F1 hb
  have hmin := HMIN.out
  go_wp2_with fail
  clear hmin
  refine (permOf_any x nx _ _ m _ (F4.old HS.out) HN.out hc HM.out (by omega)).mono ?_; rintro e w3 ⟨ad3, n3, cp3, rfl, hn3, hc3, hf⟩
  have F5 := F4.call hf
  clear F4 hf
  go_wp2_with fail
  refine (permOf_any y ny _ _ m _ (F5.old HS'.out) HN'.out hc' HM'.out (by omega)).mono ?_; rintro e w4 ⟨ad4, n4, cp4, rfl, hn4, hc4, hf⟩
  have F6 := Lib.hid (F5.call hf)
  clear F5 hf
  obtain ⟨lA, pA⟩ := permL_ok x m
  obtain ⟨lB, pB⟩ := permL_ok y m
  rw [HN.out, Nat.min_eq_left m1] at lA
  rw [HN'.out, Nat.min_eq_left m2] at lB
  obtain rfl : n3 = m := by rw [← hn3, lA]
  obtain rfl : n4 = n3 := by rw [← hn4, lB]
  have n10 : n4 ≤ 10 := by omega
  have PA := Lib.hid pA; have PB := Lib.hid pB; have LA := Lib.hid lA; have LB := Lib.hid lB
  clear pA pB lA lB hn3 hn4 m1 m2 m4
  generalize permL x n4 = A at *
  generalize permL y n4 = B at *
  have VA := Lib.hid (inv_isP PA.out); have LVA : Hid ((invL A).length = n4) := Lib.hid (by rw [invL_len, LA.out])
  have VB := Lib.hid (inv_isP PB.out); have LVB : Hid ((invL B).length = n4) := Lib.hid (by rw [invL_len, LB.out])
  have PU := Lib.hid (tm_isP PA.out VB.out (by rw [LA.out, LVB.out])); have LU : Hid ((tmL A (invL B)).length = n4) := Lib.hid (by rw [tmL_len, LVB.out])
  have PW := Lib.hid (tm_isP PB.out PU.out (by rw [LB.out, LU.out])); have LW : Hid ((tmL B (tmL A (invL B))).length = n4) := Lib.hid (by rw [tmL_len, LU.out])
  have OI := Lib.hid (own_inv PA.out)
  have OC := Lib.hid (own_conj PA.out PB.out (by rw [LA.out, LB.out]))
  go_wp2_with fail
  refine (permInv A n4 _ _ _ (F6.out.get 1 rfl) LA.out PA.out n10).mono ?_; rintro e w7 ⟨ad7, cp7, rfl, hc7, hf⟩
  have F8 := Lib.hid (F6.out.call hf)
  clear F6 hf
  go_wp2_with fail
  refine (permInv B n4 _ _ _ (F8.out.get 1 rfl) LB.out PB.out n10).mono ?_; rintro e w9 ⟨ad9, cp9, rfl, hc9, hf⟩
  have F10 := Lib.hid (F8.out.call hf)
  clear F8 hf
  go_wp2_with fail
  refine (permTimes A (invL B) n4 _ _ _ _ _ (F10.out.get 3 rfl) LA.out PA.out (F10.out.get 0 rfl) LVB.out VB.out n10).mono ?_; rintro e w10 ⟨ad10, cp10, rfl, hc10, hf⟩
  have F11 := Lib.hid (F10.out.call hf)
  clear F10 hf
  go_wp2_with fail
  refine (permTimes B (tmL A (invL B)) n4 _ _ _ _ _ (F11.out.get 3 rfl) LB.out PB.out (F11.out.get 0 rfl) LU.out PU.out n10).mono ?_; rintro e w11 ⟨ad11, cp11, rfl, hc11, hf⟩
  have F12 := Lib.hid (F11.out.call hf)
  clear F11 hf
  go_wp2_with fail
  refine (own_any A n4 _ _ _ (F12.out.get 5 rfl) LA.out PA.out n10).mono ?_; rintro e w12 ⟨rfl, hb⟩
  have F13 := Lib.hid (F12.out.keep hb)
  clear F12 hb
  go_wp2_with fail
  refine (own_any (invL A) n4 _ _ _ (F13.out.get 3 rfl) LVA.out VA.out n10).mono ?_; rintro e w13 ⟨rfl, hb⟩
  rw [OI.out]
  have F14 := Lib.hid (F13.out.keep hb)
  clear F13 hb
  go_wp2_with fail
  refine (own_any (tmL B (tmL A (invL B))) n4 _ _ _ (F14.out.get 0 rfl) LW.out PW.out n10).mono ?_; rintro e w14 ⟨rfl, hb⟩
  rw [OC.out]
  have F15 := Lib.hid (F14.out.keep hb)
  clear F14 hb
  go_wp2_with fail
  refine (cycles_any A n4 _ _ _ (F15.out.get 5 rfl) LA.out PA.out n10).mono ?_; rintro e w15 ⟨ad15, cp15, o1, rfl, hk1, hf⟩
  have F16 := Lib.hid (F15.out.call hf)
  have HOW := Lib.hid (own_cyc PA.out hk1)
  have HL := Lib.hid (cycL_len o1)
  have hle := hk1.le
  rw [LA.out] at hle
  have HBD := Lib.hid (cycL_bd hk1 (by rw [LA.out]; exact n10))
  obtain ⟨M, hM⟩ : ∃ M, o1.length = M := ⟨_, rfl⟩
  rw [hM] at F16 HL hle ⊢
  clear F15 hf hk1 hM OI OC
  generalize cycL o1 = L at *
  obtain ⟨N, hN⟩ : ∃ N, ownN A = N := ⟨_, rfl⟩
  rw [hN] at HOW ⊢
  clear hN
  have hNle : N ≤ M := by rw [HOW.out, ← HL.out]; exact List.count_le_length
  have q1 : ((N : Int) == (N : Int)) = true := by simp
  go_wp2_with fail
  go_loopw [26, 95] (fun s i wr => ∃ j : Nat, j ≤ M ∧ i = .int .i64 j ∧ s = .int .i64 ((L.take j).count 1 : Nat) ∧ wr = w15) (fun _ i _ => M - (intOf i).toNat)
  case atStart => exact ⟨0, by omega, rfl, rfl, rfl⟩
  case round =>
    obtain ⟨j, hj, rfl, rfl, rfl⟩ := hrel
    by_cases hlt : j < M
    · obtain ⟨b1, o1, rfl, hb1, c1⟩ := (F16.out.get 0 rfl).int j (by rw [HL.out]; exact hlt)
      have hst : (L.take (j + 1)).count 1 = (L.take j).count 1 + if nth L j = 1 then 1 else 0 := by
        rw [take_nth L j (by rw [HL.out]; exact hlt), List.count_append]
        by_cases c : nth L j = 1 <;> simp [c]
      have hb : (L.take j).count 1 ≤ j := Nat.le_trans List.count_le_length (by rw [List.length_take]; omega)
      generalize (L.take j).count 1 = S at *
      generalize nth L j = z at *
      have e1 : (0 : Int) ≤ (j : Int) := by omega
      have e2 : (j : Int) < (M : Int) := by omega
      by_cases hz : z = 1
      · subst hz
        rw [if_pos rfl] at hst
        have HST := Lib.hid hst
        clear hst
        go_wp2_with fail
        exact ⟨⟨j + 1, by omega, by simp, by rw [HST.out]; simp, trivial⟩, by simp only [intOf]; omega⟩
      · rw [if_neg hz] at hst
        have HST := Lib.hid hst
        have q : (z == 1) = false := by rw [beq_eq_false_iff_ne]; exact hz
        clear hst
        go_wp2_with fail
        exact ⟨⟨j + 1, by omega, by simp, by rw [HST.out]; simp, trivial⟩, by simp only [intOf]; omega⟩
    · obtain rfl : j = M := by omega
      have hall : (L.take j).count 1 = N := by rw [List.take_of_length_le (by rw [HL.out]; exact Nat.le_refl _)]; exact HOW.out.symm
      rw [hall]
      clear hall
      go_wp2_with fail
      refine (good8b _ wr.heap.size _ rfl).mono ?_; rintro e w' ⟨rfl, rfl⟩
      have F17 := Lib.hid (F16.out.alloc (.cells #[.int .i64 0, .int .i64 0, .int .i64 0, .int .i64 0, .int .i64 0, .int .i64 0, .int .i64 0, .int .i64 0] 23))
      go_wp2_with fail
      go_ret
      exact ⟨by simp, F17.out.bel⟩
end Go.Proofs.Ytdabgibmbmhmdaa
