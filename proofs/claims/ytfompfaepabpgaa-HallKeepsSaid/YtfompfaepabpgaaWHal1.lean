/- The walk of HallKeeps. -/
import Derived.Test.YtfompfaepabpgaaDeedF
namespace Go.Proofs.Ytfompfaepabpgaa
open Go.RowKit

theorem tkSum_bd {s : HSt} {K : Nat} (h : HOk s K) : 0 ≤ tkSum s.M ∧ tkSum s.M ≤ 800 := by
  have := h.tk.sum (tksL s.M).length (Nat.le_refl _)
  rw [List.take_length] at this
  exact this
set_option maxRecDepth 100000 in
set_option maxHeartbeats 8000000 in
theorem keeps_row (a : Option Addr) (n cap : Nat) (w : World) (hrow : IsStr [.int, .int, .str, .str] w a n cap) (sz : n * 48 ≤ 140737488351232) :
    Calls Try.prog 3 #[.slice a n cap] w fun e w' => e = .returned (.bool true) ∧ Below w.heap.size w w' := by
  obtain ⟨D, hD⟩ := hrow.deeds
  have HD := Lib.hid hD
  clear hrow hD
  go_enter Try.func3, Try.ntmps3
  go_wp2_with fail
  refine (hallsOk w).mono ?_; rintro e w1 ⟨rfl, hb1⟩
  have HB1 := Lib.hid hb1
  clear hb1
  go_wp2_with fail
  refine (halNew w1).mono ?_; rintro e w2 ⟨H, rfl, hw2⟩
  have HW2 := Lib.hid hw2
  clear hw2
  go_wp2_with fail
  go_loopw [4, 20] (fun o q wr => ∃ k : Nat, k ≤ n ∧ q = .int .i64 k ∧ o = .int .i64 (tkSum (runD (D.take k) ⟨[], []⟩).M) ∧ Hid (Hw w1 wr H (runD (D.take k) ⟨[], []⟩) [])) (fun _ q _ => n - (intOf q).toNat)
  case atStart => exact ⟨0, by omega, rfl, rfl, HW2⟩
  case round =>
    obtain ⟨k, hk, rfl, rfl, HW⟩ := hrel
    by_cases hlt : k < n
    · obtain ⟨d, hd⟩ : ∃ d, D[k]? = some d := ⟨_, List.getElem?_eq_getElem (by rw [HD.out.len]; exact hlt)⟩
      obtain ⟨b, off, rfl, -, x1, x2, x3, x4⟩ := ((HD.out.below HB1.out).sa.keep HW.out.below).deedA k d hd
      have hok := runD_ok (D.take k) ⟨[], []⟩ 0 (hok0 0)
      rw [List.length_take, HD.out.len, Nat.min_eq_left hk, Nat.zero_add] at hok
      have HT := Lib.hid (runD_take hd ⟨[], []⟩)
      obtain ⟨s, hs⟩ : ∃ s, runD (D.take k) ⟨[], []⟩ = s := ⟨_, rfl⟩
      rw [hs] at hok HT HW ⊢
      obtain ⟨N, hN⟩ : ∃ N, wr.heap.size = N := ⟨_, rfl⟩
      have HA := Lib.hid (HW.out.newDeed d.k d.n d.nm d.to hN)
      obtain ⟨e0, e1, e2, e3, -⟩ := HA.out.deed List.mem_cons_self
      have HCT := Lib.hid (halTkW HA.out hok.l8 d.nm)
      have HOK := Lib.hid hok
      have HOK' := Lib.hid (doS_ok hok d.k d.n d.nm d.to)
      have HNZ := Lib.hid (HD.out.nm d (List.mem_of_getElem? hd))
      have d1 : (0 : Int) ≤ (k : Int) := by omega
      have d2 : (k : Int) < (n : Int) := by omega
      clear hok hd hs HW
      go_wp2_with fail
      refine HCT.out.mono ?_; rintro e w3 ⟨rfl, hw3⟩
      have HS0 := Lib.hid (fun he => doS_sum HOK.out d.k d.n d.nm d.to he)
      obtain ⟨t0, ht0⟩ : ∃ t, (tkOf d.nm s.M).getD 0 = t := ⟨_, rfl⟩
      obtain ⟨f0, hf0⟩ : ∃ f : Int, (if (tkOf d.nm s.M).isSome = true then (0 : Int) else 4) = f := ⟨_, rfl⟩
      have HF0 : Hid ((tkOf d.nm s.M).isSome = true → f0 = 0) := Lib.hid fun h => by rw [← hf0, if_pos h]
      rw [ht0] at HS0 ⊢
      rw [hf0]
      clear hf0 ht0
      have HW3 := Lib.hid hw3
      obtain ⟨e0, e1, e2, e3, -⟩ := HW3.out.deed (N := N) (k := d.k) (n := d.n) (nm := d.nm) (to := d.to) (by simp)
      have HCD := Lib.hid (halDo H s _ k d.k d.n d.nm d.to HW3.out HOK.out (by omega) HNZ.out)
      clear hw3 HCT HA x1 x2 x3 x4
      go_wp2_with fail
      refine HCD.out.mono ?_; rintro e w4 ⟨rfl, hw4⟩
      obtain ⟨e0, e1, e2, e3, -⟩ := hw4.deed (N := N) (k := d.k) (n := d.n) (nm := d.nm) (to := d.to) (by simp)
      have HS := HS0
      clear HS0
      have HR := Lib.hid (fun he => doS_refused (s := s) (k := d.k) (n := d.n) (nm := d.nm) (to := d.to) he)
      have HSD := Lib.hid (show (doD s d).s = (doS s d.k d.n d.nm d.to).s from rfl)
      rw [HSD.out] at HT
      generalize doS s d.k d.n d.nm d.to = r at *
      obtain ⟨s', nm', n', er⟩ := r
      obtain ⟨N4, hN4⟩ : ∃ N, w4.heap.size = N := ⟨_, rfl⟩
      have HW4 := Lib.hid (Hw.newTold hw4 nm' n' hN4)
      obtain ⟨e0, e1, e2, e3, -⟩ := HW4.out.deed (N := N) (k := d.k) (n := d.n) (nm := d.nm) (to := d.to) (by simp)
      have HCK := Lib.hid (ticketsOk H s' _ (k + 1) HW4.out HOK'.out)
      have hb := tkSum_bd HOK.out
      have hb' := tkSum_bd HOK'.out
      obtain ⟨T, hT⟩ : ∃ T, tkSum s.M = T := ⟨_, rfl⟩
      obtain ⟨T', hT'⟩ : ∃ T, tkSum s'.M = T := ⟨_, rfl⟩
      have HTT := Lib.hid hT'
      have HS2 := Lib.hid (HS.out)
      simp only [hT, hT'] at hb hb' HS2 HCK
      rw [hT]
      obtain ⟨b1, b2⟩ := hb
      obtain ⟨b3, b4⟩ := hb'
      have hRR : er ≠ 0 → T' = T := fun he => by rw [← hT', ← hT]; rw [show s' = s from HR.out he]
      have HRR := Lib.hid hRR
      clear hT hT' hw4 HCD HW3 HS hRR HR HSD
      by_cases he : er = 0
      · subst he
        obtain ⟨hs1, hs2⟩ := HS2.out rfl
        clear HRR HS2
        by_cases k1 : d.k = 1
        · rw [if_pos k1] at hs1
          have g1 : (d.k == 1) = true := by rw [k1]; rfl
          have g2 : T + d.n = T' := hs1.symm
          have G2 := Lib.hid g2
          clear hs1 hs2
          go_wp2_with fail
          refine HCK.out.mono ?_; rintro e w5 ⟨rfl, hw5⟩
          have HW5 := Lib.hid hw5
          clear hw5 HCK
          go_wp2_with fail
          refine ⟨⟨k + 1, by omega, by simp, by rw [HT.out, HTT.out], by rw [HT.out]; exact Lib.hid (HW5.out.sub (List.nil_sublist _))⟩, by simp only [intOf]; omega⟩
        · rw [if_neg k1] at hs1
          have g1 : (d.k == 1) = false := by rw [beq_eq_false_iff_ne]; exact k1
          by_cases k2 : d.k = 2
          · rw [if_pos k2] at hs1
            have hf0 := HF0.out (hs2 k2)
            subst hf0
            have g3 : (d.k == 2) = true := by rw [k2]; rfl
            have g2 : T - t0 = T' := by omega
            clear hs1 hs2
            go_wp2_with fail
            refine HCK.out.mono ?_; rintro e w5 ⟨rfl, hw5⟩
            have HW5 := Lib.hid hw5
            clear hw5 HCK
            go_wp2_with fail
            refine ⟨⟨k + 1, by omega, by simp, by rw [HT.out, HTT.out], by rw [HT.out]; exact Lib.hid (HW5.out.sub (List.nil_sublist _))⟩, by simp only [intOf]; omega⟩
          · rw [if_neg k2] at hs1
            have g3 : (d.k == 2) = false := by rw [beq_eq_false_iff_ne]; exact k2
            have g4 : T = T' := by omega
            subst g4
            have g5 : (T == T) = true := beq_self_eq_true _
            clear hs1 hs2
            go_wp2_with fail
            refine HCK.out.mono ?_; rintro e w5 ⟨rfl, hw5⟩
            have HW5 := Lib.hid hw5
            clear hw5 HCK
            go_wp2_with fail
            refine ⟨⟨k + 1, by omega, by simp, by rw [HT.out, HTT.out], by rw [HT.out]; exact Lib.hid (HW5.out.sub (List.nil_sublist _))⟩, by simp only [intOf]; omega⟩
      · have hs1 := HRR.out he
        have g1 : (er == 0) = false := by rw [beq_eq_false_iff_ne]; exact he
        subst hs1
        have g5 : (T' == T') = true := beq_self_eq_true _
        clear HRR HS2
        go_wp2_with fail
        refine HCK.out.mono ?_; rintro e w5 ⟨rfl, hw5⟩
        have HW5 := Lib.hid hw5
        clear hw5 HCK
        go_wp2_with fail
        refine ⟨⟨k + 1, by omega, by simp, by rw [HT.out, HTT.out], by rw [HT.out]; exact Lib.hid (HW5.out.sub (List.nil_sublist _))⟩, by simp only [intOf]; omega⟩
    · obtain rfl : k = n := by omega
      go_wp2_with fail
      go_ret
      exact ⟨rfl, kin_trans HB1.out HW.out.below⟩
end Go.Proofs.Ytfompfaepabpgaa
