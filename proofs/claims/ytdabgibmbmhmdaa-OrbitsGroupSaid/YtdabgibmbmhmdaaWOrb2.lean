/- The walk of OrbitsFermat. -/
import Derived.Test.YtdabgibmbmhmdaaWOrb1
namespace Go.Proofs.Ytdabgibmbmhmdaa
open Go.RowKit

theorem rm_oneG {w0 w : World} {L : List Ent} {B : Nat} {ad : Option Addr} {cp : Nat} {l : List Int} {n : Nat} (hl : l.length = n) (hF : Fr w0 w (⟨22, .slice (some ⟨B, 0, none⟩) 1 1, [.slice ad n cp]⟩ :: ⟨3, .slice ad n cp, ints l⟩ :: L)) :
    Rm w (some ⟨B, 0, none⟩) [(ad, cp, l)] := by
  subst hl
  exact ⟨hF.get 0 rfl, fun p hp => by rw [List.mem_singleton] at hp; subst hp; exact hF.get 1 rfl⟩
theorem ringL_nth (p j : Nat) (h : j < p) : nth (ringL p) j = ((j + 1) % p : Nat) := by simp [ringL, nth, h]
theorem nat_mod (a b : Nat) : (a : Int) % (b : Int) = ((a % b : Nat) : Int) := by simp
theorem nat_div (a b : Nat) : (a : Int) / (b : Int) = ((a / b : Nat) : Int) := by simp
set_option maxRecDepth 100000 in
set_option maxHeartbeats 8000000 in
theorem orbitsFermat_any (a0 a1 : Int) (w : World) :
    Calls Try.prog 11 #[.int .i64 a0, .int .i64 a1] w fun e w' => e = .returned (.bool true) ∧ Below w.heap.size w w' := by
  obtain ⟨q, hq, q3⟩ : ∃ q : Nat, a0 % 3 = (q : Int) ∧ q < 3 := ⟨(a0 % 3).toNat, by omega, by omega⟩
  obtain ⟨k, hk, k11⟩ : ∃ k : Nat, a1 % 11 = (k : Int) ∧ k < 11 := ⟨(a1 % 11).toNat, by omega, by omega⟩
  obtain ⟨p, hp, hp2⟩ : ∃ p : Nat, nth [2, 3, 5] q = (p : Int) ∧ (p = 2 ∨ p = 3 ∨ p = 5) := by
    have : q = 0 ∨ q = 1 ∨ q = 2 := by omega
    rcases this with rfl | rfl | rfl
    · exact ⟨2, rfl, by omega⟩
    · exact ⟨3, rfl, by omega⟩
    · exact ⟨5, rfl, by omega⟩
  have hcol := ring_col p (by rcases hp2 with rfl | rfl | rfl <;> simp) k k11
  obtain ⟨X, hX⟩ : ∃ X, k ^ p = X := ⟨_, rfl⟩
  rw [hX] at hcol
  have hXb : X ≤ 1000000 := by rw [← hX]; exact pow_small (by omega) (by omega)
  have HX := Lib.hid hX
  have HCol := Lib.hid hcol
  have HP := Lib.hid hp; have HP2 := Lib.hid hp2
  have p1 : 1 ≤ p := by omega
  have p5 : p ≤ 5 := by omega
  have HW0 := fun w' => Lib.hid (within_any a0 3 w' (by omega) (by omega))
  have HW1 := fun w' => Lib.hid (within_any a1 11 w' (by omega) (by omega))
  rw [hq] at HW0
  rw [hk] at HW1
  clear hX hcol hp hp2 hq hk
  go_enter Try.func11, Try.ntmps11
  go_wp2_with fail
  refine (turnsOk _).mono ?_; rintro e w1 ⟨rfl, hf1⟩
  obtain ⟨N, hN⟩ : ∃ N, w1.heap.size = N := ⟨_, rfl⟩
  have h2 := hf1.lit' [2, 3, 5] #[.int .i64 2, .int .i64 3, .int .i64 5] rfl 3 rfl (by omega) 3 N hN
  obtain ⟨_, e, _, c1, -⟩ := h2.openI q (by simpa using q3)
  cases e
  rw [HP.out] at c1
  have HF2 := Lib.hid h2
  clear hf1 h2
  go_wp2_with fail
  refine (HW0 _).out.mono ?_; rintro e w' ⟨rfl, rfl⟩
  have d1 : (0 : Int) ≤ (q : Int) := by omega
  have d2 : (q : Int) < 3 := by omega
  go_wp2_with fail
  refine (HW1 _).out.mono ?_; rintro e w' ⟨rfl, rfl⟩
  clear c1 d1 d2 HW0 HW1
  go_wp2_with fail
  have h3 := HF2.out.new 3 #[] (ints []) rfl 0 rfl (by omega)
  have e1 : (w1.alloc (.cells #[.int .i64 2, .int .i64 3, .int .i64 5] 3)).heap.size = N + 1 := by simp [hN]
  rw [e1] at h3
  have HF3 := Lib.hid (h3.sub (M := [_]) (.cons_cons _ (.cons _ .slnil)))
  clear h3 e1 HF2 hN
  go_loopw [6, 22] (fun o i wr => ∃ (j : Nat) (ad : Option Addr) (cp : Nat), j ≤ p ∧ o = .slice ad j cp ∧ i = .int .i64 j ∧ Hid (Fr w wr [⟨3, .slice ad j cp, ints ((ringL p).take j)⟩])) (fun _ i _ => p - (intOf i).toNat)
  case atStart => exact ⟨0, _, _, by omega, rfl, rfl, HF3⟩
  case round =>
    clear HF3
    obtain ⟨j, ad, cp, hj, rfl, rfl, HF⟩ := hrel
    by_cases hlt : j < p
    · obtain ⟨M, hM⟩ : ∃ M, wr.heap.size = M := ⟨_, rfl⟩
      have hsn := take_nth (ringL p) j (by simp [ringL]; exact hlt)
      rw [ringL_nth p j hlt] at hsn
      have hmd := nat_mod (j + 1) p
      obtain ⟨y, hy⟩ : ∃ y, (j + 1) % p = y := ⟨_, rfl⟩
      have yb : y ≤ 5 := by have := Nat.mod_lt (j + 1) (show 0 < p by omega); omega
      rw [hy] at hsn hmd
      rw [show ((j + 1 : Nat) : Int) = (j : Int) + 1 by simp] at hmd
      have HSn := Lib.hid hsn
      have d1 : (j : Int) < (p : Int) := by omega
      have z1 : ((p : Int) == 0) = false := by rw [beq_eq_false_iff_ne]; omega
      clear hsn hy
      go_wp2_with (with_reducible refine at_slot 31 ?_; go_must (refine wpList_pushInt' rfl (.tmp 25) (.tmp 30) rfl ad j cp ((ringL p).take j) (y : Int) [] M hM rfl HF.out rfl (by omega) ?_); intro ad2 cp2 w3 hf3 hsz3)
      exact ⟨⟨j + 1, ad2, cp2, by omega, rfl, by simp, Lib.hid (by rw [HSn.out]; exact hf3)⟩, by simp only [intOf]; omega⟩
    · obtain rfl : j = p := by omega
      have hrl : (ringL j).take j = ringL j := List.take_of_length_le (by rw [(ring_len j).1]; exact Nat.le_refl _)
      have hf := HF.out
      rw [hrl] at hf
      obtain ⟨M, hM⟩ : ∃ M, wr.heap.size = M := ⟨_, rfl⟩
      have h4 := hf.new 22 #[.slice ad j cp] [.slice ad j cp] rfl 1 rfl (by omega)
      rw [hM] at h4
      have hgr := ringGrp HP2.out
      have HC := Lib.hid (orbCol j [(ad, cp, ringL j)] 1 _ 1 k _ (rm_oneG (ring_len j).1 h4) rfl (by omega) (by omega) hgr.gens (by omega))
      have HGr := Lib.hid hgr
      have HF4 := Lib.hid h4.below
      clear h4 hgr hf hrl HF
      go_wp2_with fail
      refine HC.out.mono ?_; rintro e w2 ⟨G, hg, rfl, hf2⟩
      obtain rfl : rotL j = G := IsGrp.uniq hg HGr.out
      obtain ⟨hc1, hc2, hc3⟩ := HCol.out
      rw [hc1]
      obtain ⟨Y, hY⟩ : ∃ Y, X - k = Y := ⟨_, rfl⟩
      rw [hY] at hc2 ⊢
      have hXY : (X : Int) - (k : Int) = (Y : Int) := by omega
      have hmd := nat_mod Y j
      rw [hc2] at hmd
      have hdv := nat_div Y j
      have hdl : Y / j ≤ Y := Nat.div_le_self _ _
      obtain ⟨Q, hQ⟩ : ∃ Q, Y / j = Q := ⟨_, rfl⟩
      rw [hQ] at hdv hdl ⊢
      have HXY := Lib.hid hXY; have HMd := Lib.hid hmd; have HDv := Lib.hid hdv
      have hYb : Y ≤ 1000000 := by omega
      have HF5 := Lib.hid (HF4.out.keep hf2.bel)
      clear hf2 hg hc1 hc2 hc3 hY hXY hmd hdv hQ HC HF4 HCol HGr hM
      go_wp2_with fail
      go_loop [10, 42] (fun x i => ∃ t : Nat, t ≤ j ∧ i = .int .i64 t ∧ x = .int .i64 ((k ^ t : Nat) : Int)) (fun _ i => j - (intOf i).toNat)
      case atStart => exact ⟨0, by omega, rfl, rfl⟩
      case round =>
        obtain ⟨t, ht, rfl, rfl⟩ := hrel
        by_cases hlt2 : t < j
        · obtain ⟨U, hU⟩ : ∃ U, k ^ t = U := ⟨_, rfl⟩
          have hUb : U ≤ 1000000 := by rw [← hU]; exact pow_small (by omega) (by omega)
          obtain ⟨V, hV⟩ : ∃ V, k ^ (t + 1) = V := ⟨_, rfl⟩
          have hVb : V ≤ 1000000 := by rw [← hV]; exact pow_small (by omega) (by omega)
          have hUV : (U : Int) * (k : Int) = (V : Int) := by rw [← hU, ← hV, Nat.pow_succ]; simp
          rw [hU]
          have HV := Lib.hid hV
          clear hU hV
          have d1 : (t : Int) < (j : Int) := by omega
          go_wp2_with fail
          exact ⟨⟨t + 1, by omega, by simp, by rw [HV.out]⟩, by simp only [intOf]; omega⟩
        · obtain rfl : t = j := by omega
          rw [HX.out]
          have hXY := HXY.out
          have hmd : (Y : Int) % (t : Int) = 0 := HMd.out
          have hdv := HDv.out
          have z1 : ((t : Int) == 0) = false := by rw [beq_eq_false_iff_ne]; omega
          go_wp2_with fail
          go_ret
          exact ⟨by simp, HF5.out.bel⟩
end Go.Proofs.Ytdabgibmbmhmdaa
