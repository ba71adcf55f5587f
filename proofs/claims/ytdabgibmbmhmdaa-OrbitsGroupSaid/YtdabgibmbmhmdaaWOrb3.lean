/- The walk of OrbitsBurnside. -/
import Derived.Test.YtdabgibmbmhmdaaOrbB
import Derived.Test.YtdabgibmbmhmdaaOrbW
import Derived.Test.YtdabgibmbmhmdaaWOrb2
import Derived.Test.YtdabgibmbmhmdaaSlEq2
namespace Go.Proofs.Ytdabgibmbmhmdaa
open Go.RowKit

theorem IsMatS.keep {w w' : World} {a : Option Addr} {m cap : Nat} (h : IsMatS w a m cap) (b : Below w.heap.size w w') : IsMatS w' a m cap := by
  obtain ⟨h1, h2, R, h3, h4, h5⟩ := h
  exact ⟨h1, h2, R, h3, h4.keep b, h5⟩
theorem small_pow : ∀ n < 5, ∀ k < 4, k ^ n ≤ 81 := by decide
set_option maxRecDepth 100000 in
set_option maxHeartbeats 8000000 in
theorem orbitsBurnside_row (a0 : Int) (a : Option Addr) (m cap : Nat) (a2 : Int) (w : World) (hmat : IsMatS w a m cap) :
    Calls Try.prog 12 #[.int .i64 a0, .slice a m cap, .int .i64 a2] w fun e w' => e = .returned (.bool true) ∧ Below w.heap.size w w' := by
  obtain ⟨n, hn, n5⟩ : ∃ n : Nat, a0 % 5 = (n : Int) ∧ n < 5 := ⟨(a0 % 5).toNat, by omega, by omega⟩
  obtain ⟨k, hk, k4⟩ : ∃ k : Nat, a2 % 4 = (k : Int) ∧ k < 4 := ⟨(a2 % 4).toNat, by omega, by omega⟩
  have HW0 := fun w' => Lib.hid (within_any a0 5 w' (by omega) (by omega))
  have HW1 := fun w' => Lib.hid (within_any a2 4 w' (by omega) (by omega))
  rw [hn] at HW0
  rw [hk] at HW1
  obtain ⟨X, hX⟩ : ∃ X, k ^ n = X := ⟨_, rfl⟩
  have hX81 : X ≤ 81 := by rw [← hX]; exact small_pow n n5 k k4
  have HX := Lib.hid hX
  have HMat := Lib.hid hmat
  clear hn hk hX hmat
  go_enter Try.func12, Try.ntmps12
  go_wp2_with fail
  refine (turnsOk _).mono ?_; rintro e w1 ⟨rfl, hf1⟩
  have HF1 := Lib.hid hf1
  clear hf1
  go_wp2_with fail
  refine (HW0 _).out.mono ?_; rintro e w' ⟨rfl, rfl⟩
  go_wp2_with fail
  refine (HW1 _).out.mono ?_; rintro e w' ⟨rfl, rfl⟩
  clear HW0 HW1
  go_wp2_with fail
  refine (movedAny n (by omega) a m cap w1 (HMat.out.keep HF1.out.bel)).mono ?_; rintro e w2 ⟨ad, cp, R, rfl, hR6, hAll, hf2⟩
  obtain ⟨r, hr⟩ : ∃ r, R.length = r := ⟨_, rfl⟩
  rw [hr] at hR6 hf2 ⊢
  have HRl := Lib.hid hr
  have HRm := Lib.hid (hf2.rmR List.mem_cons_self fun p hp => List.mem_cons_of_mem _ (List.mem_map_of_mem hp))
  have HAll := Lib.hid hAll
  have HF2 := Lib.hid (HF1.out.keep hf2.bel)
  clear hr hAll hf2 HF1 HMat
  have HC := Lib.hid (orbCol n R r ad cp k w2 HRm.out HRl.out (by omega) hR6 HAll.out (by omega))
  go_wp2_with fail
  refine HC.out.mono ?_; rintro e w3 ⟨G, hg, rfl, hf3⟩
  have hcl := colours_least (k := k) hg n5 k4
  rw [HX.out] at hcl
  rw [hcl]
  have HG := Lib.hid hg
  have HF3 := Lib.hid (HF2.out.keep hf3.bel)
  have HRm3 := Lib.hid (HRm.out.keep hf3.bel)
  clear hg hf3 HC HF2 HRm hcl
  obtain ⟨C, hC⟩ : ∃ C, minC G n k X = C := ⟨_, rfl⟩
  have hCb : C ≤ 81 := by rw [← hC]; exact Nat.le_trans (minC_le G n k X) hX81
  rw [hC]
  have HCC := Lib.hid hC
  clear hC
  go_wp2_with fail
  go_loop [10, 35] (fun x i => ∃ t : Nat, t ≤ n ∧ i = .int .i64 t ∧ x = .int .i64 ((k ^ t : Nat) : Int)) (fun _ i => n - (intOf i).toNat)
  case atStart => exact ⟨0, by omega, rfl, rfl⟩
  case round =>
    obtain ⟨t, ht, rfl, rfl⟩ := hrel
    by_cases hlt : t < n
    · obtain ⟨U, hU⟩ : ∃ U, k ^ t = U := ⟨_, rfl⟩
      have hUb : U ≤ 1000000 := by rw [← hU]; exact pow_small (by omega) (by omega)
      obtain ⟨V, hV⟩ : ∃ V, k ^ (t + 1) = V := ⟨_, rfl⟩
      have hVb : V ≤ 1000000 := by rw [← hV]; exact pow_small (by omega) (by omega)
      have hUV : (U : Int) * (k : Int) = (V : Int) := by rw [← hU, ← hV, Nat.pow_succ]; simp
      rw [hU]
      have HV := Lib.hid hV
      clear hU hV
      have d1 : (t : Int) < (n : Int) := by omega
      go_wp2_with fail
      exact ⟨⟨t + 1, by omega, by simp, by rw [HV.out]⟩, by simp only [intOf]; omega⟩
    · obtain rfl : t = n := by omega
      rw [HX.out]
      go_wp2_with fail
      go_loopw [11, 42] (fun c i wr => ∃ x : Nat, x ≤ X ∧ i = .int .i64 x ∧ c = .int .i64 (minC G t k x : Nat) ∧ Hid (Fr w3 wr [])) (fun _ i _ => X - (intOf i).toNat)
      case atStart => exact ⟨0, by omega, rfl, rfl, Lib.hid (Fr.start w3)⟩
      case round =>
        obtain ⟨x, hx, rfl, rfl, HF⟩ := hrel
        by_cases hlt2 : x < X
        · have d1 : (x : Int) < (X : Int) := by omega
          have hms := minC_succ G t k x
          have hmb := minC_le G t k x
          obtain ⟨c, hc⟩ : ∃ c, minC G t k x = c := ⟨_, rfl⟩
          rw [hc] at hms hmb ⊢
          have HMs := Lib.hid hms
          have hk1 : 0 < t → 1 ≤ k := fun h => by
            rcases Nat.eq_zero_or_pos k with h0 | h0
            · have := HX.out
              rw [h0, Nat.zero_pow h] at this; omega
            · exact h0
          have HK1 := Lib.hid hk1
          clear hms hc hk1
          have h4 := HF.out.new 3 #[] (ints []) rfl 0 rfl (by omega)
          have HF4 := Lib.hid h4
          clear h4
          go_wp2_with fail
          clear d1
          go_loopw [12, 13, 47] (fun y o i wr => ∃ (j : Nat) (ad : Option Addr) (cp : Nat), j ≤ t ∧ i = .int .i64 j ∧ y = .int .i64 ((x / k ^ j : Nat) : Int) ∧ o = .slice ad j cp ∧ Hid (Fr w3 wr [⟨3, .slice ad j cp, ints ((digL t k x).take j)⟩])) (fun _ _ i _ => t - (intOf i).toNat)
          case atStart => exact ⟨0, _, _, by omega, rfl, by simp, rfl, HF4⟩
          case round =>
            clear HF4 HF
            obtain ⟨j, ad4, cp4, hj, rfl, rfl, rfl, HF⟩ := hrel
            by_cases hlt3 : j < t
            · have k1 : 1 ≤ k := HK1.out (by omega)
              obtain ⟨M, hM⟩ : ∃ M, wr.heap.size = M := ⟨_, rfl⟩
              have hsn := take_nth (digL t k x) j (by rw [digL_len]; exact hlt3)
              rw [digL_nth t k x j hlt3] at hsn
              have hdd : x / k ^ j / k = x / k ^ (j + 1) := by rw [Nat.div_div_eq_div_mul, Nat.pow_succ]
              have hyb : x / k ^ j ≤ x := Nat.div_le_self _ _
              obtain ⟨Y, hY⟩ : ∃ Y, x / k ^ j = Y := ⟨_, rfl⟩
              rw [hY] at hsn hdd hyb ⊢
              have hmd := nat_mod Y k
              have hdv := nat_div Y k
              obtain ⟨y, hy⟩ : ∃ y, Y % k = y := ⟨_, rfl⟩
              have yb : y ≤ 5 := by have := Nat.mod_lt Y (show 0 < k by omega); omega
              rw [hdd] at hdv
              obtain ⟨Z, hZ⟩ : ∃ Z, x / k ^ (j + 1) = Z := ⟨_, rfl⟩
              have hzb : Z ≤ x := by rw [← hZ]; exact Nat.div_le_self _ _
              rw [hy] at hsn hmd
              rw [hZ] at hdv
              have HSn := Lib.hid hsn; have HZ := Lib.hid hZ
              have d1 : (j : Int) < (t : Int) := by omega
              have z1 : ((k : Int) == 0) = false := by rw [beq_eq_false_iff_ne]; omega
              clear hsn hy hdd hY hZ
              go_wp2_with (with_reducible refine at_slot 54 ?_; go_must (refine wpList_pushInt' rfl (.tmp 49) (.tmp 53) rfl ad4 j cp4 ((digL t k x).take j) (y : Int) [] M hM rfl HF.out rfl (by omega) ?_); intro ad5 cp5 w5 hf5 hsz5)
              exact ⟨⟨j + 1, ad5, cp5, by omega, by simp, by rw [HZ.out], rfl, Lib.hid (by rw [HSn.out]; exact hf5)⟩, by simp only [intOf]; omega⟩
            · obtain rfl : j = t := by omega
              have hf := HF.out
              rw [List.take_of_length_le (by rw [digL_len]; exact Nat.le_refl _)] at hf
              have hdl := digL_len j k x
              obtain ⟨z, hz⟩ : ∃ z, digL j k x = z := ⟨_, rfl⟩
              rw [hz] at hf hdl HMs
              have HL := Lib.hid (orbLeast j R r ad cp z ad4 cp4 wr (HRm3.out.keep HF.out.bel) HRl.out (by omega) hR6 HAll.out (hf.get 0 rfl) hdl hf.cap)
              have HF5 := Lib.hid hf
              have HDl := Lib.hid hdl
              clear hf hdl hz HF
              go_wp2_with fail
              refine HL.out.mono ?_; rintro e w6 ⟨G', hg', ad6, cp6, rfl, hf6⟩
              obtain rfl : G' = G := IsGrp.uniq HG.out hg'
              have hll := least_len HG.out HDl.out
              have HF6 := Lib.hid (HF5.out.call hf6)
              obtain ⟨b, hb⟩ : ∃ b, leastL G' z = b := ⟨_, rfl⟩
              rw [hb] at HF6 hll HMs
              have HE := Lib.hid (slEqual b z j j ad6 ad4 cp6 cp4 w6 (HF6.out.get 0 rfl) (HF6.out.get 1 rfl) hll HDl.out (by omega) (by omega))
              clear hg' hf6 hb HL hll
              go_wp2_with fail
              refine HE.out.mono ?_; rintro e w7 ⟨rfl, hf7⟩
              have HF7 := Lib.hid (HF6.out.keep hf7.bel).below
              clear hf7
              by_cases he : b = z
              · have HM2 : Hid (minC G' j k (x + 1) = c + 1) := Lib.hid (by rw [HMs.out, if_pos he])
                rw [decide_eq_true he]
                clear he
                go_wp2_with fail
                exact ⟨⟨x + 1, by omega, by simp, by rw [HM2.out]; simp, HF7⟩, by simp only [intOf]; omega⟩
              · have HM2 : Hid (minC G' j k (x + 1) = c) := Lib.hid (by rw [HMs.out, if_neg he]; rfl)
                rw [decide_eq_false he]
                clear he
                go_wp2_with fail
                exact ⟨⟨x + 1, by omega, by simp, by rw [HM2.out], HF7⟩, by simp only [intOf]; omega⟩
        · obtain rfl : x = X := by omega
          rw [HCC.out]
          have g : ((C : Int) == (C : Int)) = true := beq_self_eq_true _
          go_wp2_with fail
          go_ret
          exact ⟨rfl, (HF3.out.keep HF.out.bel).bel⟩
end Go.Proofs.Ytdabgibmbmhmdaa
