/- The walk of the law ChainStep. -/
import Derived.Test.YtghobphnjfgjeaaWCha3
namespace Go.Proofs.Ytghobphnjfgjeaa
open Go.RowKit

set_option maxHeartbeats 400000 in
theorem restBig (k n : Int) (w : World) (h : 1 ≤ n) (h2 : n ≤ 4000000000000000000) :
    Calls Try.prog 43 #[.int .i64 k, .int .i64 n] w fun e w' => e = .returned (.int .i64 (k % n)) ∧ w = w' := by
  have he := emod_of_tmod k n h
  have h1 : -n < k.tmod n := by
    rcases Int.le_total 0 k with hk | hk
    · have := Int.tmod_nonneg n hk; omega
    · have := Int.lt_tmod_of_pos k (by omega : 0 < n); omega
  have h3 : k.tmod n < n := Int.tmod_lt_of_pos k (by omega)
  have hne : (n == 0) = false := by simp; omega
  by_cases hlt : k.tmod n < 0
  · rw [if_pos hlt] at he
    have HE := Lib.hid he; clear he
    go_enter Try.func43, Try.ntmps43
    go_wp2_with fail
    go_ret
    exact ⟨ret_int HE.out.symm, rfl⟩
  · rw [if_neg hlt] at he
    have HE := Lib.hid he; clear he
    go_enter Try.func43, Try.ntmps43
    go_wp2_with fail
    go_ret
    exact ⟨ret_int HE.out.symm, rfl⟩
theorem withinBig (k n : Int) (w : World) (h : 1 ≤ n) (h2 : n ≤ 4000000000000000000) :
    Calls Try.prog 17 #[.int .i64 k, .int .i64 n] w fun e w' => e = .returned (.int .i64 (k % n)) ∧ w = w' := by
  have h4 := Int.emod_nonneg k (b := n) (by omega)
  have h5 := Int.emod_lt_of_pos k (b := n) (by omega)
  go_enter Try.func17, Try.ntmps17
  go_wp2_with (go_at_call 43; refine (restBig _ _ _ h h2).mono ?_; rintro e w' ⟨rfl, rfl⟩)
  go_ret
  exact ⟨rfl, rfl⟩
theorem make_ratsB (n : Nat) (h : n ≤ 10000000000000) (w : World) : Sem.run Try.prog (Instr.makeSlice 49 (.int .i64 (n : Int)) (.int .i64 (n : Int))) w = .ok (.slice (some ⟨w.heap.size, 0, none⟩) n n) (w.alloc (.cells (rowCells (n * 2) (fun _ => 0)) 25)) := by
  cases hi : Try.prog.info? 25 with
  | none => have := ratInfo; rw [hi] at this; cases this
  | some i0 =>
    have hci := ratInfo
    rw [hi] at hci
    simp only [Option.map_some, Option.some.injEq, Prod.mk.injEq] at hci
    obtain ⟨hz0, hz1, hz2⟩ := hci
    have := run_make (P := Try.prog) w 49 25 i0 (.agg #[.int .i64 0, .int .i64 0]) Try.underlying49 hi hz0 .i64 .i64 n n (by omega) (by omega) (by rw [hz2]; omega) (by omega)
    rw [this, hz1, Int.toNat_natCast, madeRats]
theorem Fr.newBig {w0 w : World} {L : List Ent} (h : Fr w0 w L) (T : TypeId) (cs : Array Value) (xs : List Value) (e : cs.toList = xs) (n : Nat) (hn : n = xs.length) (hl : n ≤ maxLen) :
    Fr w0 (w.alloc (.cells cs T)) (⟨T, .slice (some ⟨w.heap.size, 0, .none⟩) n n, xs⟩ :: L) := by
  subst e hn
  have ha := h.alloc (.cells cs T)
  refine ⟨ha.bel, ⟨fun e he => ?_, List.pairwise_cons.2 ⟨fun b hb => .inr ?_, h.os.far⟩⟩⟩
  · rcases List.mem_cons.1 he with rfl | he
    · have := World.ownsRow_lit (size := 1) (e := T) w cs cs.toList.length h.bel.size hl (by simp)
      exact this
    · exact ha.os.own e he
  · intro e
    have := (Ent.own.lt (h.os.own b hb) _ e.symm).2
    simp only at this
    omega
theorem Fr.makeRatsB {w0 w : World} {L : List Ent} (h : Fr w0 w L) (n : Nat) (hl : n ≤ 10000000000000) : Fr w0 (w.alloc (.cells (rowCells (n * 2) (fun _ => 0)) 25)) (colR w.heap.size (List.replicate (n * 2) 0) n :: L) :=
  h.newBig 25 (rowCells (n * 2) (fun _ => 0)) (ints (List.replicate (n * 2) 0)) (by simp [rowCells, ints, List.map_const']) (n * 2) (by simp [ints_len]) (by unfold maxLen; omega)
/-- all of it at one node -/
def oneL (n at' : Nat) : List Int := (oneQ n n).set (at' * 2) 1
theorem oneL_len (n at' : Nat) : (oneL n at').length = n * 2 := by simp [oneL, oneQ]
theorem oneL_num (n at' i : Nat) (h : at' < n) (hi : i < n) : nth (oneL n at') (i * 2) = if i = at' then 1 else 0 := by
  unfold oneL
  rw [nth_set _ _ _ _ (by rw [oneQ_len]; omega), oneQ_nth _ _ _ (by omega)]
  by_cases e : i = at'
  · rw [if_pos (by omega), if_pos e]
  · rw [if_neg (by omega), if_neg e, if_neg (by omega)]
theorem oneL_den (n at' i : Nat) (h : at' < n) (hi : i < n) : nth (oneL n at') (i * 2 + 1) = 1 := by
  unfold oneL
  rw [nth_set _ _ _ _ (by rw [oneQ_len]; omega), oneQ_nth _ _ _ (by omega), if_neg (by omega), if_pos (by omega)]
/-- what goes where from there -/
def goK (M : List (List Int)) (n at' i k : Nat) : Int := if i = at' ∧ k < n then pnK M n at' k else 0
theorem goK_sum (M : List (List Int)) (n at' k : Nat) (h : at' < n) (hk : k < n) : sK (fun j => goK M n at' j k) n = pnK M n at' k := by
  exact (sK_one (fun j => goK M n at' j k) at' n h (fun j _ hj => by unfold goK; exact if_neg (fun e => hj e.1))).trans (by unfold goK; exact if_pos ⟨rfl, hk⟩)
theorem pn_total (M : List (List Int)) (n at' : Nat) (h : at' < n) : sK (fun k => pnK M n at' k) n = pqK M n at' := by
  unfold pnK pqK
  by_cases e : outA M n at' = 0
  · simp only [if_pos e]
    exact (sK_one (fun k => if at' = k then (1 : Int) else 0) at' n h (fun k _ hk => if_neg (fun x => hk x.symm))).trans (if_pos rfl)
  · simp only [if_neg e]; rfl

set_option maxRecDepth 100000 in
set_option maxHeartbeats 8000000 in
theorem chainStep_any (R : List Rw) (n : Nat) (a : Option Addr) (ca : Nat) (at0 : Int) (w : World) (h : Mx w a R) (hn : R.length = n) (hl : ∀ p ∈ R, p.2.2.length ≤ maxLen) (hsz : n * 24 ≤ 140737488351232) :
    Calls Try.prog 10 #[.slice a n ca, .int .i64 at0] w fun e w' => e = .returned (.bool true) ∧ Below w.heap.size w w' := by
  have HS := Lib.hid h; have HN := Lib.hid hn; have HL := Lib.hid hl
  have n13 : n ≤ 10000000000000 := by omega
  have q1 : chkC [[1, 1], [0, 0]] = 0 := by decide +kernel
  have q2 : ∀ i, i < 2 → ∀ k, k < 2 → nth [1, 1, 0, 1] (i * 2) * pnK [[1, 1], [0, 0]] 2 i k * 2 = goK [[1, 1], [0, 0]] 2 0 i k * (nth [1, 1, 0, 1] (i * 2 + 1) * pqK [[1, 1], [0, 0]] 2 i) := by decide +kernel
  have q3 : ∀ i, i < 2 → Rat1 (nth [1, 1, 0, 1] (i * 2)) (nth [1, 1, 0, 1] (i * 2 + 1)) := by unfold Rat1; decide +kernel
  have q4 : ∀ i k, 0 ≤ goK [[1, 1], [0, 0]] 2 0 i k := fun i k => by
    unfold goK
    split
    · next hh =>
      have : k = 0 ∨ k = 1 := by omega
      rcases this with rfl | rfl <;> decide +kernel
    · omega
  have q5 : ∀ k, sK (fun j => goK [[1, 1], [0, 0]] 2 0 j k) 2 ≤ 1000000000 := fun k => by
    by_cases hk : k < 2
    · rw [goK_sum _ _ _ _ (by omega) hk]
      have : k = 0 ∨ k = 1 := by omega
      rcases this with rfl | rfl <;> decide +kernel
    · have hz : ∀ j, goK [[1, 1], [0, 0]] 2 0 j k = 0 := fun j => by unfold goK; exact if_neg (fun e => hk e.2)
      rw [sK_congr (g := fun _ => 0) 2 (fun j _ => hz j), sK_zero]; omega
  have q6 : RedIs 1 2 1 2 := ⟨by decide +kernel, by decide +kernel⟩
  have q7 : sK (fun j => goK [[1, 1], [0, 0]] 2 0 j 0) 2 = 1 := by decide +kernel
  have Q1 := Lib.hid q1; have Q2 := Lib.hid q2; have Q3 := Lib.hid q3; have Q4 := Lib.hid q4; have Q5 := Lib.hid q5; have Q6 := Lib.hid q6; have Q7 := Lib.hid q7
  clear h hn hl hsz q1 q2 q3 q4 q5 q6 q7
  go_enter Try.func10, Try.ntmps10
  go_wp2_with fail
  have hM0 := Mx.two w 1 1 0 0
  have F0 := ((((Fr.start w).alloc (.cells #[.int .i64 1, .int .i64 1] 3)).alloc (.cells #[.int .i64 0, .int .i64 0] 3)).alloc (.cells #[.slice (some ⟨w.heap.size, 0, .none⟩) 2 2, .slice (some ⟨w.heap.size + 1, 0, .none⟩) 2 2] 35)).alloc (.cells #[.int .i64 1, .int .i64 1, .int .i64 0, .int .i64 1] 25)
  have hL0 := Sa.litN' (((w.alloc (.cells #[.int .i64 1, .int .i64 1] 3)).alloc (.cells #[.int .i64 0, .int .i64 0] 3)).alloc (.cells #[.slice (some ⟨w.heap.size, 0, .none⟩) 2 2, .slice (some ⟨w.heap.size + 1, 0, .none⟩) 2 2] 35)) #[.int .i64 1, .int .i64 1, .int .i64 0, .int .i64 1] 25 (ints [1, 1, 0, 1]) rfl (w.heap.size + 1 + 1 + 1) (by simp)
  refine (chaStep_any [(some ⟨w.heap.size, 0, .none⟩, 2, [1, 1]), (some ⟨w.heap.size + 1, 0, .none⟩, 2, [0, 0])] [1, 1, 0, 1] 2 _ _ _ _ 2 (goK [[1, 1], [0, 0]] 2 0) _ (hM0.keep (kin_alloc (Below.refl _ _) _)) rfl (fun p hp => by
    rcases List.mem_cons.1 hp with rfl | hp
    · show 2 ≤ maxLen; unfold maxLen; omega
    · rw [List.mem_singleton] at hp; subst hp; show 2 ≤ maxLen; unfold maxLen; omega) Q1.out hL0 rfl Q3.out (by omega) (by omega) Q4.out Q5.out (fun i k hi hk => Q2.out i hi k hk)).mono ?_; rintro e w1 ⟨G, C, rfl, hro, hf⟩
  have hr0 := hro.rat 0 (by omega)
  have hv0 := hro.val 0 (by omega)
  simp only [Q7.out] at hv0
  have hred := redIs_of (p := 1) (q := 2) (by omega) (by have := hr0.1; omega) hr0.2.2.2.2 (show Eqv 1 2 _ _ from hv0.symm)
  have e0 : nth C 0 = 1 := by rw [← Q6.out.1, hred.1]
  have e1 : nth C 1 = 2 := by rw [← Q6.out.2, hred.2]
  obtain ⟨_, e, _, d0, _⟩ := hf.openI 0 (by rw [hro.len]; omega)
  cases e
  obtain ⟨_, e, _, d1, _⟩ := hf.openI 1 (by rw [hro.len]; omega)
  cases e
  rw [e0] at d0
  rw [e1] at d1
  have HF1 := Lib.hid (F0.keep hf.bel)
  clear hM0 F0 hL0 hro hf hr0 hv0 hred e0 e1
  go_wp2_with fail
  refine (ratios_any _).mono ?_; rintro e w2 ⟨rfl, hb⟩
  have HF2 := Lib.hid (HF1.out.keep hb)
  clear hb d0 d1 HF1
  by_cases hn0 : n = 0
  · subst hn0
    have hR : R = [] := List.eq_nil_of_length_eq_zero HN.out
    have hch : chkC (mOf R) = 2 := by rw [hR]; rfl
    have HCH := Lib.hid hch
    clear hR hch
    go_wp2_with fail
    refine (chaStep_no R 0 0 _ _ _ _ _ (HS.out.keep HF2.out.bel) HN.out HL.out 2 HCH.out (by omega)).mono ?_; rintro e w3 ⟨rfl, rfl⟩
    go_wp2_with fail
    go_ret
    exact ⟨rfl, HF2.out.bel⟩
  have z0 : ((n : Int) == 0) = false := beq_eq_false_iff_ne.2 (by omega)
  have z0' : decide (n = 0) = false := decide_eq_false hn0
  have n1 : 1 ≤ n := by omega
  have hmk := make_ratsB n n13
  have F3 := HF2.out.makeRatsB n n13
  rw [oneQ_zero n] at F3
  have HF3 := Lib.hid F3
  clear F3
  go_wp2_with fail
  clear hmk z0 z0'
  obtain ⟨G2, hG2⟩ : ∃ G, w2.heap.size = G := ⟨_, rfl⟩
  rw [hG2] at HF3 ⊢
  clear hG2
  go_loopw [61] (fun i wr => ∃ j : Nat, j ≤ n ∧ i = .int .i64 j ∧ Hid (Fr w wr [colR G2 (oneQ n j) n])) (fun i _ => n - (intOf i).toNat)
  case atStart => exact ⟨0, by omega, rfl, HF3⟩
  case round =>
    clear HF3
    obtain ⟨j, hj, rfl, HF⟩ := hrel
    by_cases hlt : j < n
    · obtain ⟨_, e, hg, cj, fj⟩ := HF.out.openI (j * 2 + 1) (by rw [oneQ_len]; omega)
      cases e
      have hf := HF.out.setInt (j * 2 + 1) 1
      rw [oneQ_step n j hlt] at hf
      have HF3 := Lib.hid hf
      have i1 : (0 : Int) ≤ (j : Int) := by omega
      have i2 : (j : Int) < (n : Int) := by omega
      clear hf
      go_wp2_with fail
      exact ⟨⟨j + 1, by omega, by simp, HF3⟩, by simp only [intOf]; omega⟩
    · obtain rfl : j = n := by omega
      have r1 := Int.emod_nonneg at0 (b := (j : Int)) (by omega)
      have r2 := Int.emod_lt_of_pos at0 (b := (j : Int)) (by omega)
      obtain ⟨κ, hκ⟩ : ∃ κ : Nat, at0 % (j : Int) = κ := ⟨(at0 % (j : Int)).toNat, by omega⟩
      have HX := Lib.hid hκ
      have hκj : κ < j := by omega
      obtain ⟨_, e, hg, cj, fj⟩ := HF.out.openI (κ * 2) (by rw [oneQ_len]; omega)
      cases e
      have hf : Fr w (wr.setCell ⟨G2, κ * 2, none⟩ (.int .i64 1)) [colR G2 (oneL j κ) j] := HF.out.setInt (κ * 2) 1
      have HF4 := Lib.hid hf
      have i1 : (0 : Int) ≤ (κ : Int) := by omega
      have i2 : (κ : Int) < (j : Int) := by omega
      clear r1 r2 hκ hf
      go_wp2_with (go_at_call 17; refine (withinBig _ _ _ (by omega) (by omega)).mono ?_; rintro e w' ⟨rfl, rfl⟩; rw [HX.out])
      obtain ⟨w4, hw4⟩ : ∃ w4, wr.setCell ⟨G2, κ * 2, none⟩ (.int .i64 1) = w4 := ⟨_, rfl⟩
      rw [hw4] at HF4 ⊢
      clear hw4 cj fj HF
      by_cases he : chkC (mOf R) ≠ 0
      · obtain ⟨er, her⟩ : ∃ er, chkC (mOf R) = er := ⟨_, rfl⟩
        rw [her] at he
        have HE := Lib.hid her
        have z : (er != 0) = true := by rw [bne_iff_ne]; exact he
        clear her
        refine (chaStep_no R j j _ _ _ _ _ (HS.out.keep HF4.out.bel) HN.out HL.out er HE.out he).mono ?_; rintro e w5 ⟨rfl, rfl⟩
        go_wp2_with fail
        go_ret
        exact ⟨rfl, HF4.out.bel⟩
      · have he : chkC (mOf R) = 0 := by omega
        have hok := chkC_ok he
        rw [show (mOf R).length = j by simp [mOf, HN.out]] at hok
        have n5 := hok.n5
        have hou : 0 ≤ outA (mOf R) j κ ∧ outA (mOf R) j κ ≤ 100 := by
          have h1 := sK_nonneg (fun k => mt (mOf R) κ k) j (fun k _ => (hok.bd κ k).1)
          have h2 := sK_le (fun k => mt (mOf R) κ k) 20 j (fun k _ => (hok.bd κ k).2)
          unfold outA; omega
        have hpq : 0 < pqK (mOf R) j κ ∧ pqK (mOf R) j κ ≤ 100 := by unfold pqK; split <;> omega
        have hpn : ∀ k, 0 ≤ pnK (mOf R) j κ k ∧ pnK (mOf R) j κ k ≤ 20 := fun k => by
          have := hok.bd κ k
          unfold pnK
          split
          · split <;> omega
          · exact this
        have hcc : ∀ i k, i < j → k < j → nth (oneL j κ) (i * 2) * pnK (mOf R) j i k * pqK (mOf R) j κ = goK (mOf R) j κ i k * (nth (oneL j κ) (i * 2 + 1) * pqK (mOf R) j i) := fun i k hi hk => by
          rw [oneL_num j κ i hκj hi, oneL_den j κ i hκj hi]
          unfold goK
          by_cases e : i = κ
          · subst e; rw [if_pos rfl, if_pos ⟨rfl, hk⟩, Int.one_mul, Int.one_mul]
          · rw [if_neg e, if_neg (fun x => e x.1)]; simp
        have hrt : ∀ i, i < j → Rat1 (nth (oneL j κ) (i * 2)) (nth (oneL j κ) (i * 2 + 1)) := fun i hi => by
          rw [oneL_num j κ i hκj hi, oneL_den j κ i hκj hi]
          split <;> (unfold Rat1; decide)
        have hg0 : ∀ i k, 0 ≤ goK (mOf R) j κ i k := fun i k => by unfold goK; split; exact (hpn k).1; omega
        have hg9 : ∀ k, sK (fun t => goK (mOf R) j κ t k) j ≤ 1000000000 := fun k => by
          by_cases hk : k < j
          · rw [goK_sum _ _ _ _ hκj hk]; have := hpn k; omega
          · have hz : ∀ t, goK (mOf R) j κ t k = 0 := fun t => by unfold goK; exact if_neg (fun e => hk e.2)
            rw [sK_congr (g := fun _ => 0) j (fun t _ => hz t), sK_zero]; omega
        have HE := Lib.hid he; have HCC := Lib.hid hcc; have HRT := Lib.hid hrt; have HG0 := Lib.hid hg0; have HG9 := Lib.hid hg9; have HPN := Lib.hid hpn; have HPQ := Lib.hid hpq
        have hol := oneL_len j κ
        have HOL := Lib.hid hol
        clear he hok hou hcc hrt hg0 hg9 hpn hpq hol
        refine (chaStep_any R (oneL j κ) j _ _ _ _ (pqK (mOf R) j κ) (goK (mOf R) j κ) _ (HS.out.keep HF4.out.bel) HN.out HL.out HE.out (HF4.out.get 0 rfl) HOL.out HRT.out HPQ.out.1 (by have := HPQ.out.2; omega) HG0.out HG9.out HCC.out).mono ?_; rintro e w5 ⟨G3, C, rfl, hro, hf⟩
        have HF5 := Lib.hid ((HF4.out.call hf).rat' 0 1 _ rfl)
        have HRO : Hid (RowOk C j (pqK (mOf R) j κ) (fun k => pnK (mOf R) j κ k)) := Lib.hid ⟨hro.len, hro.rat, fun k hk => by rw [hro.val k hk, goK_sum _ _ _ _ hκj hk]⟩
        have HT := Lib.hid (pn_total (mOf R) j κ hκj)
        obtain ⟨D, hD⟩ : ∃ D, pqK (mOf R) j κ = D := ⟨_, rfl⟩
        rw [hD] at HPQ HRO HT
        have z1 : ((j : Int) != (j : Int)) = false := by simp
        have HZ0 : Hid (Rat1 0 1 ∧ (0 : Int) * D = sK (fun k => pnK (mOf R) j κ k) 0 * 1) := Lib.hid ⟨by unfold Rat1; decide, by simp [sK]⟩
        clear hro hf hD HF4
        go_wp2_with fail
        clear z1
        obtain ⟨SB, hSB⟩ : ∃ SB, w5.heap.size = SB := ⟨_, rfl⟩
        rw [hSB] at HF5 ⊢
        clear hSB
        go_loopw [101] (fun i wr => ∃ (k : Nat) (A B : Int), k ≤ j ∧ i = .int .i64 k ∧ Hid (Rat1 A B ∧ A * D = sK (fun k => pnK (mOf R) j κ k) k * B) ∧ Hid (Fr w wr (eR SB A B :: ([colR G3 C j] ++ [colR G2 (oneL j κ) j])))) (fun i _ => j - (intOf i).toNat)
        case atStart => exact ⟨0, 0, 1, by omega, rfl, HZ0, HF5⟩
        case round =>
          clear HF5 HZ0
          obtain ⟨k, A, B, hk, rfl, HAB, HF⟩ := hrel
          by_cases hlt2 : k < j
          · obtain ⟨b3, o3, e, hb3, c0⟩ := (HF.out.get 1 rfl).int (k * 2) (by rw [HRO.out.len]; omega)
            cases e
            obtain ⟨_, _, e, _, c1⟩ := (HF.out.get 1 rfl).int (k * 2 + 1) (by rw [HRO.out.len]; omega)
            cases e
            have hxr := HRO.out.rat k hlt2
            have hxv := HRO.out.val k hlt2
            obtain ⟨X, hX⟩ : ∃ X, nth C (k * 2) = X := ⟨_, rfl⟩
            obtain ⟨Y, hY⟩ : ∃ Y, nth C (k * 2 + 1) = Y := ⟨_, rfl⟩
            rw [hX] at c0 hxr hxv
            rw [hY] at c1 hxr hxv
            rw [Nat.zero_add] at c0 c1
            have HXR := Lib.hid hxr; have HXV := Lib.hid hxv
            obtain ⟨a0, a1, al, _, af0, af1⟩ := HF.out.ratAt 0 rfl
            have hF1 := HF.out.rat X Y
            have HF1' := Lib.hid hF1
            have hX0 : 0 ≤ X := by
              have h1 := (HPN.out k).1
              have h2 := hxr.1
              have h3 : 0 ≤ pnK (mOf R) j κ k * Y := Int.mul_nonneg h1 (by omega)
              rcases Int.lt_or_le X 0 with h | h
              · have := Int.mul_neg_of_neg_of_pos h HPQ.out.1; omega
              · exact h
            have g1 : decide (X < 0) = false := decide_eq_false (by omega)
            have i3 : (0 : Int) ≤ (k : Int) := by omega
            have i4 : (k : Int) < (j : Int) := by omega
            clear hX hY hxr hxv hF1
            go_wp2_with fail
            refine (add_any A B X Y _ HAB.out.1 HXR.out).mono ?_; rintro e w6 ⟨P, Q, er, rfl, hx, hb⟩
            have hst : sK (fun k => pnK (mOf R) j κ k) (k + 1) = sK (fun k => pnK (mOf R) j κ k) k + pnK (mOf R) j κ k := rfl
            have hadd := add_to HAB.out.2 HXV.out
            have hB1 := HAB.out.1.1
            have hY1 := HXR.out.1
            have hbq : 0 < B * Y := Int.mul_pos (by omega) (by omega)
            have hsn := sK_nonneg (fun k => pnK (mOf R) j κ k) (k + 1) (fun t _ => (HPN.out t).1)
            have hsl := sK_mono (fun k => pnK (mOf R) j κ k) (k + 1) j (fun t _ => (HPN.out t).1) (by omega)
            rw [HT.out] at hsl
            have hD1 := HPQ.out.1
            have hD2 := HPQ.out.2
            rcases hx with ⟨rfl, h2, h3, -⟩ | ⟨-, -, -, h1⟩
            rotate_left
            · exact absurd (low_no hbq hD1 (by omega) (by rw [← hst]; exact hsn) (by rw [← hst]; omega) hadd) h1
            have HAB2 : Hid (Rat1 P Q ∧ P * D = sK (fun k => pnK (mOf R) j κ k) (k + 1) * Q) := Lib.hid ⟨h2, by
              have hne : B * Y ≠ 0 := by omega
              refine Int.eq_of_mul_eq_mul_right hne ?_
              rw [show P * D * (B * Y) = P * (B * Y) * D by grind, h3, hst]
              rw [show (A * Y + X * B) * Q * D = (A * Y + X * B) * D * Q by grind, hadd]; grind⟩
            have F2 := HF1'.out.keep hb
            obtain ⟨s0, s1, sl, _, -, -⟩ := F2.ratAt 0 rfl
            obtain ⟨b0, b1, bl, _, bf0, bf1⟩ := F2.ratAt 1 rfl
            have HF6 := Lib.hid ((F2.tail.ratPut P Q).alloc (.cells #[.int .i64 P, .int .i64 Q] 25))
            clear hst hadd hbq hsn hsl h2 h3 hb F2 hB1 hY1 c0 c1 a0 a1 al af0 af1 HF1'
            go_wp2_with fail
            exact ⟨⟨k + 1, P, Q, by omega, by simp, HAB2, HF6⟩, by simp only [intOf]; omega⟩
          · obtain rfl : k = j := by omega
            obtain ⟨a0, a1, al, _, af0, af1⟩ := HF.out.ratAt 0 rfl
            have hv := HAB.out.2
            rw [HT.out] at hv
            obtain ⟨e1, e2⟩ := rat_same HPQ.out.1 HAB.out.1 (by unfold Rat1; decide : Rat1 1 1) hv (Int.mul_comm 1 D)
            subst e1
            subst e2
            clear hv
            go_wp2_with fail
            go_ret
            exact ⟨rfl, HF.out.bel⟩
theorem chainStep_row (a0 : Option Addr) (len0 cap0 : Nat) (at0 : Int) (w : World) (w0 : IsMat w a0 len0 cap0) (sz0 : len0 * 24 ≤ 140737488351232) :
    Calls Try.prog 10 #[.slice a0 len0 cap0, .int .i64 at0] w fun e w' => e = .returned (.bool true) ∧ Below w.heap.size w w' := by
  obtain ⟨_, _, R, h1, h2, h3⟩ := w0
  exact chainStep_any R len0 a0 cap0 at0 w h2 h1 (fun p hp => (h3 p hp).1) sz0
end Go.Proofs.Ytghobphnjfgjeaa
