/- The walk of the law LotteryRun. -/
import Derived.Test.YtnjabochagahjaaLot3
import Derived.Test.YtnjabochagahjaaSlFn2
namespace Go.Proofs.Ytnjabochagahjaa
open Go.RowKit

theorem nth_app_lt (a b : List Int) (i : Nat) (h : i < a.length) : nth (a ++ b) i = nth a i := by simp [nth, List.getElem?_append_left h]
theorem mem_nth {l : List Int} {P : Int → Prop} (h : ∀ j, j < l.length → P (nth l j)) : ∀ y ∈ l, P y := fun y hy => by
  obtain ⟨i, hi, e⟩ := List.getElem_of_mem hy
  have := h i hi
  unfold nth at this
  simp [hi] at this
  rw [← e]; exact this
theorem nth_of_mem {l : List Int} {P : Int → Prop} (h : ∀ y ∈ l, P y) (j : Nat) (hj : j < l.length) : P (nth l j) := h _ (nth_mem l j hj)

set_option maxRecDepth 100000 in
set_option maxHeartbeats 8000000 in
theorem lotteryRun_any (l y : List Int) (n ny : Nat) (a b : Option Addr) (ca cb : Nat) (k0 : Int) (w : World) (h : Sa w a (ints l)) (hn : l.length = n) (hc : n ≤ ca) (hm : n ≤ maxLen)
    (h' : Sa w b (ints y)) (hn' : y.length = ny) (hc' : ny ≤ cb) (_hm' : ny ≤ maxLen) :
    Calls Try.prog 9 #[.slice a n ca, .slice b ny cb, .int .i64 k0] w fun e w' => e = .returned (.bool true) ∧ Below w.heap.size w w' := by
  have HN := Lib.hid hn; have HS := Lib.hid h; have HM := Lib.hid hm; have HN' := Lib.hid hn'; have HS' := Lib.hid h'
  have HP := Lib.hid (show TkOk [1, 2] from ⟨by decide, by decide⟩)
  have HL := Lib.hid (show ∀ j, j < 3 → 0 ≤ nth [0, 2, 1] j ∧ nth [0, 2, 1] j < isum [1, 2] from by decide)
  have e1 : runL [1, 2] [0, 2, 1] = [1, 2] := by decide
  have E1 := Lib.hid e1
  clear e1 hn h hm hn' h'
  go_enter Try.func9, Try.ntmps9
  go_wp2_with fail
  have F1 := ((Fr.start w).lit [1, 2] #[.int .i64 1, .int .i64 2] rfl 2 rfl (by omega) 3)
  have F1' := F1.lit' [0, 2, 1] #[.int .i64 0, .int .i64 2, .int .i64 1] rfl 3 rfl (by omega) 3 _ (by simp; rfl)
  refine (lotRun [1, 2] [0, 2, 1] 2 3 _ _ _ _ _ (F1'.get 1 rfl) (F1'.get 0 rfl) rfl rfl HP.out HL.out (by omega)).mono ?_; rintro e w1 ⟨ad, cp, rfl, hcp, hf⟩
  rw [E1.out] at hf
  have F2 := F1'.below.call hf
  clear F1 F1' hf hcp
  go_wp2_with fail
  have F3 := F2.lit [1, 2] #[.int .i64 1, .int .i64 2] rfl 2 rfl (by omega) 3
  refine (slEqual [1, 2] [1, 2] 2 2 _ _ _ _ _ (F3.get 1 rfl) (F3.get 0 rfl) rfl rfl (by omega) (by omega)).mono ?_; rintro e w2 ⟨rfl, hf⟩
  have F4 := F3.below.keep hf.bel
  clear F2 F3 hf
  go_wp2_with fail
  refine (lotteries_any _).mono ?_; rintro e w3 ⟨rfl, hb⟩
  replace F4 := F4.keep hb
  clear hb
  go_wp2_with fail
  refine (tickets_any l n _ _ _ (F4.old HS.out) HN.out hc HM.out).mono ?_; rintro e w4 ⟨ad2, m, cp2, rfl, hm, hc2, hf⟩
  have F5 := F4.call hf
  have HML := Lib.hid hm
  have ok := tkL_ok l
  have t20 : ∀ j, j < (tkL l).length → nth (tkL l) j ≤ 20 := fun j hj => (tkL_20 l j hj).2
  have sb := isum_160 (tkL l) ok t20
  have OK := Lib.hid ok
  clear F4 hf hm ok t20
  generalize tkL l = tk at *
  have m8 : m ≤ 8 := by have := OK.out.1; rw [HML.out] at this; exact this
  go_wp2_with fail
  refine (lotAll tk m _ _ _ (F5.get 0 rfl) HML.out OK.out).mono ?_; rintro e w' ⟨rfl, rfl⟩
  obtain ⟨S, hS⟩ : ∃ S : Nat, isum tk = S := ⟨(isum tk).toNat, by omega⟩
  rw [hS] at sb ⊢
  have HSS := Lib.hid hS
  obtain ⟨sb1, sb2⟩ := sb
  clear hS
  rcases Nat.eq_zero_or_pos S with h0 | h0
  · subst h0
    go_wp2_with fail
    go_ret
    exact ⟨rfl, F5.bel⟩
  · have q0 : ((S : Int) == 0) = false := by rw [beq_eq_false_iff_ne]; omega
    obtain ⟨my, m1, m2, m3⟩ : ∃ my : Nat, my ≤ ny ∧ (my : Int) ≤ 200 ∧ (my = ny ∨ (my : Int) = 200) := ⟨min ny 200, by omega, by omega, by omega⟩
    have hmin := run_min2 #[3, 3] 3 ny 200 my m1 m2 m3
    have b1 : (my : Int) ≤ (cb : Int) := by omega
    clear m3
    go_wp2_with fail
    clear hmin q0
    go_loopw [12, 64] (fun o i wr => ∃ (k : Nat) (ad : Option Addr) (cp : Nat) (lots : List Int), k ≤ my ∧ i = .int .i64 k ∧ o = .slice ad k cp ∧ Hid (lots.length = k ∧ ∀ y ∈ lots, 0 ≤ y ∧ y < (S : Int)) ∧ Fr w wr [⟨3, .slice ad k cp, ints lots⟩, ⟨3, .slice ad2 m cp2, ints tk⟩]) (fun _ i _ => my - (intOf i).toNat)
    case atStart => exact ⟨0, none, 0, [], by omega, rfl, rfl, Lib.hid ⟨rfl, by simp⟩, (F5.sub (by simp)).nilSlice _⟩
    case round =>
      obtain ⟨k, ad, cp, lots, hk, rfl, rfl, HLO, hfr⟩ := hrel
      clear F5
      by_cases hlt : k < my
      · obtain ⟨b', off, rfl, hb, hc⟩ := (hfr.old HS'.out).int k (by rw [HN'.out]; omega)
        obtain ⟨x, hx⟩ : ∃ x, nth y k = x := ⟨_, rfl⟩
        rw [hx] at hc
        have HF := Lib.hid hfr
        clear hx hfr
        have d1 : (0 : Int) ≤ (k : Int) := by omega
        have d2 : (k : Int) < (my : Int) := by omega
        have e1 := Int.emod_nonneg x (b := (S : Int)) (by omega)
        have e2 := Int.emod_lt_of_pos x (b := (S : Int)) (by omega)
        go_wp2_with (first
          | (go_at_call 16; refine (within_any _ _ _ (by omega) (by omega)).mono ?_; rintro e w' ⟨rfl, rfl⟩)
          | (with_reducible refine at_slot 73 ?_; go_must (refine wpList_pushInt rfl _ _ rfl ad k cp _ (x % (S : Int)) _ rfl HF.out rfl ?_ ?_); rotate_left; intro ad' cp' w2 hf2 hlt2))
        · refine ⟨⟨k + 1, ad', cp', lots ++ [x % S], by omega, by simp, rfl, Lib.hid ⟨by rw [List.length_append, HLO.out.1]; rfl, fun z hz => ?_⟩, hf2⟩, by simp only [intOf]; omega⟩
          rcases List.mem_append.1 hz with hz | hz
          · exact HLO.out.2 z hz
          · rw [List.mem_singleton] at hz; rw [hz]; exact ⟨e1, e2⟩
        · omega
      · obtain rfl : k = my := by omega
        have HLL := Lib.hid HLO.out.1
        have HB := Lib.hid HLO.out.2
        have hcap := hfr.cap
        have lo1 : ∀ zs : List Int, (∀ z ∈ zs, 0 ≤ z ∧ z < (S : Int)) → ∀ j, j < zs.length → 0 ≤ nth zs j ∧ nth zs j < isum tk := fun zs hz j hj => by rw [HSS.out]; exact hz _ (nth_mem _ _ hj)
        have LO := Lib.hid lo1
        clear lo1 HLO
        obtain ⟨kk, hkk, hkm⟩ : ∃ kk : Nat, k0 % ((k : Int) + 1) = kk ∧ kk ≤ k := ⟨(k0 % ((k : Int) + 1)).toNat, by have := Int.emod_nonneg k0 (b := (k : Int) + 1) (by omega); omega, by have := Int.emod_lt_of_pos k0 (b := (k : Int) + 1) (by omega); omega⟩
        have HKK := Lib.hid hkk; clear hkk
        go_wp2_with fail
        refine (lotRun tk lots m k _ _ _ _ _ (hfr.get 1 rfl) (hfr.get 0 rfl) HML.out HLL.out OK.out (by have := LO.out lots HB.out; rwa [HLL.out] at this) (by omega)).mono ?_; rintro e w5 ⟨ad5, cp5, rfl, hc5, hf⟩
        have F6 := hfr.call hf
        clear hfr hf
        go_wp2_with fail
        refine (within_any _ _ _ (by omega) (by omega)).mono ?_; rintro e w' ⟨rfl, rfl⟩
        rw [HKK.out]
        have b2 : (kk : Int) ≤ (cp : Int) := by omega
        have b3 : (kk : Int) ≤ (k : Int) := by omega
        have b4 : (0 : Int) ≤ (kk : Int) := by omega
        go_wp2_with fail
        have l1 : (lots.take kk).length = kk := by rw [List.length_take, HLL.out]; omega
        have l2 : (lots.drop kk).length = k - kk := by rw [List.length_drop, HLL.out]
        have hb1 := LO.out (lots.take kk) (fun z hz => HB.out z (List.mem_of_mem_take hz))
        have hb2 := LO.out (lots.drop kk) (fun z hz => HB.out z (List.mem_of_mem_drop hz))
        have hb3 := LO.out lots.reverse (fun z hz => HB.out z (by simpa using hz))
        rw [l1] at hb1
        rw [l2] at hb2
        rw [List.length_reverse, HLL.out] at hb3
        have HB1 := Lib.hid hb1; have HB2 := Lib.hid hb2; have HB3 := Lib.hid hb3
        have L1 := Lib.hid l1; have L2 := Lib.hid l2
        clear l1 l2 hb1 hb2 hb3
        have S1 : Sa w5 ad (ints (lots.take kk)) := by rw [← ints_take]; exact (F6.get 1 rfl).take kk
        refine (lotRun tk (lots.take kk) m kk _ _ _ _ _ (F6.get 2 rfl) S1 HML.out L1.out OK.out HB1.out (by omega)).mono ?_; rintro e w6 ⟨ad6, cp6, rfl, hc6, hf⟩
        have F7 := F6.call hf
        clear F6 hf S1
        obtain ⟨ad7, cp7, hsl, hs7, hc7⟩ := slice_from ad k cp kk hkm hcap (ints lots) _ (F7.get 2 rfl) (by rw [ints_len, HLL.out])
        have HS7 := Lib.hid hs7
        clear hs7
        go_wp2_with fail
        clear hsl
        have S2 : Sa w6 ad7 (ints (lots.drop kk)) := by rw [← ints_drop]; exact HS7.out _ (F7.get 2 rfl)
        refine (lotRun tk (lots.drop kk) m (k - kk) _ _ _ _ _ (F7.get 3 rfl) S2 HML.out L2.out OK.out HB2.out (by omega)).mono ?_; rintro e w7 ⟨ad8, cp8, rfl, hc8, hf⟩
        have F8 := F7.call hf
        clear F7 hf S2 HS7
        go_wp2_with fail
        refine (slClone lots k _ _ _ (F8.get 3 rfl) HLL.out (by omega)).mono ?_; rintro e w8 ⟨ad9, cp9, rfl, hc9, hf⟩
        have F9 := F8.call hf
        clear F8 hf
        go_wp2_with fail
        refine (slReverseAll lots k cp9 ad9 _ _ F9 (by omega)).mono ?_; rintro e w9 ⟨rfl, F10⟩
        clear F9
        go_wp2_with fail
        refine (lotRun tk lots.reverse m k _ _ _ _ _ (F10.get 5 rfl) (F10.get 0 rfl) HML.out (by rw [List.length_reverse]; exact HLL.out) OK.out HB3.out (by omega)).mono ?_; rintro e w10 ⟨ad10, cp10, rfl, hc10, hf⟩
        rw [runL_rev] at hf
        have F11 := F10.call hf
        clear F10 hf
        go_wp2_with fail
        refine (good4 _ _).mono ?_; rintro e w' ⟨rfl, rfl⟩
        have F12 := F11.alloc (.cells #[.int .i64 0, .int .i64 0, .int .i64 0, .int .i64 0] 24)
        clear F11
        go_wp2_with fail
        refine (slEqual (runL tk lots) (runL tk lots) m m _ _ _ _ _ (F12.get 4 rfl) (F12.get 0 rfl) (by rw [runL_len]; exact HML.out) (by rw [runL_len]; exact HML.out) (by omega) (by omega)).mono ?_; rintro e w11 ⟨rfl, hf⟩
        have F13 := F12.keep hf.bel
        rw [decide_eq_true (rfl : runL tk lots = runL tk lots)]
        clear F12 hf
        go_wp2_with fail
        go_loopw [148] (fun i wr => ∃ j : Nat, j ≤ m ∧ i = .int .i64 j ∧ Fr w wr [⟨3, .slice ad8 m cp8, ints (runL tk (lots.drop kk))⟩, ⟨3, .slice ad6 m cp6, ints (runL tk (lots.take kk))⟩, ⟨3, .slice ad5 m cp5, ints (runL tk lots)⟩, ⟨3, .slice ad2 m cp2, ints tk⟩]) (fun i _ => m - (intOf i).toNat)
        case atStart => exact ⟨0, by omega, rfl, F13.sub (by simp)⟩
        case round =>
          obtain ⟨j, hj, rfl, hfr⟩ := hrel
          clear F13
          by_cases hlt : j < m
          · have jl : j < tk.length := by rw [HML.out]; exact hlt
            obtain ⟨b1, o1, rfl, hb1, hc1⟩ := (hfr.get 0 rfl).int j (by rw [runL_len]; exact jl)
            obtain ⟨b2, o2, rfl, hb2, hc2⟩ := (hfr.get 1 rfl).int j (by rw [runL_len]; exact jl)
            obtain ⟨b3, o3, rfl, hb3, hc3⟩ := (hfr.get 2 rfl).int j (by rw [runL_len]; exact jl)
            obtain ⟨b4, o4, rfl, hb4, hc4⟩ := (hfr.get 3 rfl).int j jl
            have r1 := runL_bd tk (lots.drop kk) j jl
            have r2 := runL_bd tk (lots.take kk) j jl
            have r3 := runL_bd tk lots j jl
            have r4 := runL_cut tk lots kk j jl
            rw [L2.out] at r1
            rw [L1.out] at r2
            rw [HLL.out] at r3
            have z : nth tk j = 0 → nth (runL tk lots) j = 0 := fun h => by
              rw [runL_nth _ _ _ jl, hits_zero tk lots j (fun y hy => by rw [HSS.out]; exact HB.out y hy) h]; rfl
            generalize nth (runL tk (lots.drop kk)) j = x1 at *
            generalize nth (runL tk (lots.take kk)) j = x2 at *
            generalize nth (runL tk lots) j = x3 at *
            generalize nth tk j = x4 at *
            obtain ⟨r11, r12⟩ := r1
            obtain ⟨r21, r22⟩ := r2
            obtain ⟨r31, r32⟩ := r3
            have d1 : (0 : Int) ≤ (j : Int) := by omega
            have d2 : (j : Int) < (m : Int) := by omega
            have d3 : (x3 != x2 + x1) = false := by rw [r4]; simp
            have HF := Lib.hid hfr
            clear hfr jl r4
            by_cases hz : x4 = 0
            · have d4 : (x4 == 0) = true := by rw [hz]; rfl
              have d5 : decide (0 < x3) = false := decide_eq_false (by have := z hz; omega)
              clear z hz
              go_wp2_with fail
              go_quiet (fail)
              go_wp2_with fail
              go_roundw
              case rel => exact ⟨j + 1, by omega, by go_num, HF.out.drewN _⟩
              case measure => simp only [intOf]; omega
            · have d4 : (x4 == 0) = false := by rw [beq_eq_false_iff_ne]; exact hz
              clear z hz
              go_wp2_with fail
              go_quiet (fail)
              go_wp2_with fail
              go_roundw
              case rel => exact ⟨j + 1, by omega, by go_num, HF.out.drewN _⟩
              case measure => simp only [intOf]; omega
          · go_wp2_with fail
            go_ret
            exact ⟨rfl, hfr.bel⟩
end Go.Proofs.Ytnjabochagahjaa
