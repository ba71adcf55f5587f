/- Several of my texts in one: CatR. -/
import Derived.Test.YtooghdnlaonkaaaRw43
import Derived.Test.YtooghdnlaonkaaaRw15
/- slices.Grow of nil and slices.Concat of slices of []int, any number of them. -/
namespace Go.Proofs.Ytooghdnlaonkaaa
open Go.RowKit

/-- a piece: where, its capacity, its cells -/
abbrev Pc := Option Addr × Nat × List Value
def totP (X : List Pc) : Nat := (X.map fun p => p.2.2.length).sum
def flatP (X : List Pc) : List Value := (X.map fun p => p.2.2).flatten
theorem totP_step (X : List Pc) (k : Nat) (h : k < X.length) : totP (X.take (k + 1)) = totP (X.take k) + X[k].2.2.length := by
  unfold totP
  rw [List.take_succ_eq_append_getElem h, List.map_append, List.sum_append]
  simp
theorem flatP_step (X : List Pc) (k : Nat) (h : k < X.length) : flatP (X.take (k + 1)) = flatP (X.take k) ++ X[k].2.2 := by
  unfold flatP
  rw [List.take_succ_eq_append_getElem h, List.map_append, List.flatten_append]
  simp
theorem totP_le (X : List Pc) (k : Nat) : totP (X.take k) ≤ totP X := by
  have h : totP X = totP (X.take k) + totP (X.drop k) := by
    unfold totP
    rw [← List.sum_append, ← List.map_append, List.take_append_drop]
  omega
theorem flatP_len (X : List Pc) : (flatP X).length = totP X := by
  unfold flatP totP
  rw [List.length_flatten, List.map_map]; rfl
set_option maxRecDepth 100000 in
set_option maxHeartbeats 2000000 in
theorem growR (n : Nat) (hn : n ≤ 4000000) (w : World) :
    Calls Try.prog 77 #[.slice none 0 0, .int .i64 n] w fun e w' => ∃ ad cp, e = .returned (.slice ad 0 cp) ∧ Fr w w' [⟨32, .slice ad 0 cp, []⟩] := by
  obtain ⟨i0, hi, hz0, hz1, hz2⟩ := info_parts slsInfo
  by_cases h0 : n = 0
  · subst h0
    clear hi hz0 hz1 hz2
    go_enter Try.func77, Try.ntmps77
    go_wp2_with fail
    go_ret
    exact ⟨_, _, rfl, (Fr.start w).nilSlice _⟩
  · have hrz : ∀ ty, (Builtin.append_ #[48, 3] ty #[.slice none 0 0, .int .i64 (n : Int)]).run Try.prog w =
        .ok (.slice (some ⟨w.heap.size, 0, none⟩) n (grownCap w n 0 32)) (w.drew.alloc (.cells (([] : List Value).toArray ++ Builtin.zeroCells (Value.cells (.slice none 0 0)) n ++ Builtin.zeroCells (Value.cells (.slice none 0 0)) (grownCap w n 0 32 - n)) 32)) := fun ty => by
      have h := Lib.run_append_grow_zeros w 48 3 ty 32 i0 (.slice none 0 0) .i64 .i64 Try.underlying48 Try.underlying3 hi hz0 none 0 0 [] (by rw [hz1]; exact run_firstCells_none w.drew 1 0 0 0) n (by omega) (by omega) (by omega) (by omega)
        (by rw [hz2]; omega) (growslice_fits (by omega) (by rw [hz2]; omega))
      rw [Nat.zero_add] at h
      exact h
    have hGn : n ≤ grownCap w n 0 32 := grownCap_ge w _ _ _
    have hGm : grownCap w n 0 32 ≤ maxLen := grownCap_le_maxLen w n 0 32 (by unfold maxLen; omega)
    have hsz : (([] : List Value).toArray ++ Builtin.zeroCells (Value.cells (.slice none 0 0)) n ++ Builtin.zeroCells (Value.cells (.slice none 0 0)) (grownCap w n 0 32 - n)).size = grownCap w n 0 32 := by
      simp [Builtin.zeroCells, Value.cells]; omega
    obtain ⟨G, hG⟩ : ∃ G, G = grownCap w n 0 32 := ⟨_, rfl⟩
    rw [← hG] at hrz hGn hGm hsz
    have F1 := (Fr.start w).room 32 _ G hsz hGm
    have HF := Lib.hid F1
    unfold maxLen at hGm
    obtain ⟨cs, hcs⟩ : ∃ cs, (([] : List Value).toArray ++ Builtin.zeroCells (Value.cells (.slice none 0 0)) n ++ Builtin.zeroCells (Value.cells (.slice none 0 0)) (G - n)) = cs := ⟨_, rfl⟩
    rw [hcs] at hrz HF
    clear hi hz0 hz1 hz2 hsz F1 hG hcs
    have g0 : (G == 0) = false := by rw [beq_eq_false_iff_ne]; omega
    have g1 : G ≠ 0 := by omega
    go_enter Try.func77, Try.ntmps77
    go_wp2_with (at_builtin; refine Lib.wpList_append_run _ rfl _ _ _ _ rfl _ _ rfl rfl _ _ (hrz _) ?_)
    go_ret
    exact ⟨_, _, rfl, HF.out⟩
/-- what is told of the pieces -/
def PcOk (w : World) (p : Pc) : Prop := Sa w p.1 p.2.2 ∧ (∀ v ∈ p.2.2, v.oneCell' = true) ∧ (p.1 = none → p.2.1 = 0 ∧ p.2.2.length = 0)
set_option maxRecDepth 100000 in
set_option maxHeartbeats 4000000 in
theorem catR (X : List Pc) (k : Nat) (g : Nat) (w : World) (hk : X.length = k) (hk1 : k ≤ 1000) (hX : ∀ p ∈ X, PcOk w p) (T : Nat) (hT : totP X = T) (hl : T ≤ 4000000)
    (hg : g < w.heap.size) (hc : ∀ i (hi : i < X.length), w.cell? ⟨g, i, none⟩ = some (.slice X[i].1 X[i].2.2.length X[i].2.1)) :
    Calls Try.prog 26 #[.slice (some ⟨g, 0, none⟩) k k] w fun e w' => ∃ ad cp, e = .returned (.slice ad T cp) ∧ Fr w w' [⟨32, .slice ad T cp, flatP X⟩] := by
  have HK := Lib.hid hk; have HX := Lib.hid hX; have HT := Lib.hid hT; have HC := Lib.hid hc
  clear hk hX hT hc
  go_enter Try.func26, Try.ntmps26
  go_wp2_with fail
  go_loop [3, 11] (fun s i => ∃ j t : Nat, j ≤ k ∧ t ≤ T ∧ i = .int .i64 j ∧ s = .int .i64 t ∧ Hid (totP (X.take j) = t)) (fun _ i => k - (intOf i).toNat)
  case atStart => exact ⟨0, 0, by omega, by omega, rfl, rfl, Lib.hid rfl⟩
  case round =>
    obtain ⟨j, t, hj, ht, rfl, rfl, HJ⟩ := hrel
    by_cases hlt : j < k
    · have hjX : j < X.length := by rw [HK.out]; exact hlt
      have hc0 := HC.out j hjX
      have hs := totP_step X j hjX
      have hle := totP_le X (j + 1)
      rw [HJ.out] at hs
      rw [HT.out] at hle
      obtain ⟨⟨a1, c1, xs1⟩, hp⟩ : ∃ p : Pc, X[j] = p := ⟨_, rfl⟩
      rw [hp] at hc0 hs
      simp only at hc0 hs
      obtain ⟨m, hm⟩ : ∃ m, xs1.length = m := ⟨_, rfl⟩
      rw [hm] at hc0 hs
      have htm : t + m ≤ T := by omega
      have HS := Lib.hid hs
      clear hs hp hm hle hjX
      go_wp2_with fail
      exact ⟨⟨j + 1, t + m, by omega, by omega, by simp, by simp, HS⟩, by simp only [intOf]; omega⟩
    · obtain rfl : j = k := by omega
      have HTT : Hid (T = t) := Lib.hid (by rw [← HT.out, ← HJ.out, List.take_of_length_le (by rw [HK.out]; exact Nat.le_refl _)])
      have HG := Lib.hid (growR t (by omega) w)
      go_wp2_with fail
      refine HG.out.mono ?_; rintro e w1 ⟨ad, cp, rfl, hf⟩
      have HF := Lib.hid hf
      clear hf HJ HG
      go_wp2_with fail
      clear ht
      go_loopw [6, 27] (fun o i wr => ∃ (q u : Nat) (ad : Option Addr) (cp : Nat), q ≤ j ∧ u ≤ T ∧ i = .int .i64 q ∧ o = .slice ad u cp ∧ Hid (totP (X.take q) = u) ∧ Hid (Fr w wr [⟨32, .slice ad u cp, flatP (X.take q)⟩])) (fun _ i _ => j - (intOf i).toNat)
      case atStart => exact ⟨0, 0, ad, cp, by omega, by omega, rfl, rfl, Lib.hid rfl, HF⟩
      case round =>
        obtain ⟨q, u, ad, cp, hq, hu, rfl, rfl, HQ, HFR⟩ := hrel
        clear HF
        by_cases hlt : q < j
        · have hqX : q < X.length := by rw [HK.out]; exact hlt
          have hc0 := (HFR.out.bel.cell (p := ⟨g, q, none⟩) hg).trans (HC.out q hqX)
          have hs := totP_step X q hqX
          have hfl := flatP_step X q hqX
          have hle := totP_le X (q + 1)
          rw [HQ.out] at hs
          rw [HT.out] at hle
          have hok := HX.out X[q] (List.getElem_mem hqX)
          obtain ⟨⟨a1, c1, xs1⟩, hp⟩ : ∃ p : Pc, X[q] = p := ⟨_, rfl⟩
          rw [hp] at hc0 hs hok hfl
          simp only at hc0 hs hfl
          obtain ⟨hsa, hone, hnil⟩ := hok
          simp only at hsa hone hnil
          obtain ⟨m, hm⟩ : ∃ m, xs1.length = m := ⟨_, rfl⟩
          rw [hm] at hc0 hs hnil
          have htm : u + m ≤ T := by omega
          have HS := Lib.hid hs; have HM := Lib.hid hm; have HO := Lib.hid hone; have HNI := Lib.hid hnil; have HFL := Lib.hid hfl
          have HSA := Lib.hid (HFR.out.old hsa)
          clear hs hp hm hle hone hnil hsa hfl hqX
          go_wp2_with (with_reducible refine at_slot 33 ?_; go_must (refine wpList_pushAllB rfl (.tmp 31) (.tmp 32) 48 32 (.slice none 0 0) 24 Try.underlying48 slsInfo rfl (by omega) rfl ad a1 u cp m c1 (flatP (X.take q)) xs1 [] rfl HFR.out rfl HSA.out HM.out HNI.out HO.out (by omega) ?_); intro ad2 cp2 w2 hf2 hsz2)
          exact ⟨⟨q + 1, u + m, ad2, cp2, by omega, by omega, by simp, rfl, HS, Lib.hid (by rw [HFL.out]; exact hf2)⟩, by simp only [intOf]; omega⟩
        · obtain rfl : q = j := by omega
          have HE : Hid (u = T) := Lib.hid (by rw [← HT.out, ← HQ.out, List.take_of_length_le (by rw [HK.out]; exact Nat.le_refl _)])
          go_wp2_with fail
          go_ret
          refine ⟨ad, cp, by rw [HE.out]; rfl, ?_⟩
          have := HFR.out
          rw [HE.out, List.take_of_length_le (by rw [HK.out]; exact Nat.le_refl _)] at this
          exact this
end Go.Proofs.Ytooghdnlaonkaaa
