/- The walk of OrbitsGroup. -/
import Derived.Test.YtdabgibmbmhmdaaOrbI
import Derived.Test.YtdabgibmbmhmdaaHeldU
import Derived.StillTailTactics
import Derived.Deep.QuietTactic
namespace Go.Proofs.Ytdabgibmbmhmdaa
open Go.RowKit

set_option maxRecDepth 100000 in
set_option maxHeartbeats 16000000 in
theorem orbitsGroup_row (a0 : Int) (a : Option Addr) (m cap : Nat) (a2 a3 : Int) (w : World) (hmat : IsMatS w a m cap) :
    Calls Try.prog 13 #[.int .i64 a0, .slice a m cap, .int .i64 a2, .int .i64 a3] w fun e w' => e = .returned (.bool true) ∧ Below w.heap.size w w' := by
  obtain ⟨n, hn, n7⟩ : ∃ n : Nat, a0 % 7 = (n : Int) ∧ n < 7 := ⟨(a0 % 7).toNat, by omega, by omega⟩
  have HW0 := fun w' => Lib.hid (within_any a0 7 w' (by omega) (by omega))
  rw [hn] at HW0
  have HMat := Lib.hid hmat
  clear hn hmat
  go_enter Try.func13, Try.ntmps13
  go_wp2_with fail
  refine (turnsOk _).mono ?_; rintro e w1 ⟨rfl, hf1⟩
  have HF1 := Lib.hid hf1
  clear hf1
  go_wp2_with fail
  refine (HW0 _).out.mono ?_; rintro e w' ⟨rfl, rfl⟩
  go_wp2_with fail
  clear HW0
  refine (movedAny n (by omega) a m cap w1 (HMat.out.keep HF1.out.bel)).mono ?_; rintro e w2 ⟨ad, cp, R, rfl, hR6, hAll, hf2⟩
  obtain ⟨r, hr⟩ : ∃ r, R.length = r := ⟨_, rfl⟩
  rw [hr] at hR6 hf2 ⊢
  have HRl := Lib.hid hr
  have HRm := Lib.hid (hf2.rmR List.mem_cons_self fun p hp => List.mem_cons_of_mem _ (List.mem_map_of_mem hp))
  have HAll := Lib.hid hAll
  have HF2 := Lib.hid (HF1.out.keep hf2.bel)
  clear hr hAll hf2 HF1 HMat
  have HGr := Lib.hid (orbGroup n R r ad cp w2 HRm.out HRl.out (by omega) hR6 HAll.out)
  go_wp2_with fail
  refine HGr.out.mono ?_; rintro e w3 ⟨ad3, cp3, S, rfl, hf3, hg⟩
  obtain ⟨s, hs⟩ : ∃ s, S.length = s := ⟨_, rfl⟩
  rw [hs] at hf3 ⊢
  have HSl := Lib.hid hs
  have hs0 : 0 < s := by have := hg.pos; rwa [lsR_len, hs] at this
  have hs720 : s ≤ 720 := by
    have h1 := hg.len
    rw [lsR_len, hs] at h1
    have := fac6 n (by omega); omega
  have hdv := hg.divides
  rw [lsR_len, hs] at hdv
  have hmod : facN n % s = 0 := Nat.mod_eq_zero_of_dvd hdv
  have HG := Lib.hid hg
  obtain ⟨B, hB⟩ : ∃ B, w3.heap.size = B := ⟨_, rfl⟩
  have h4 := (HF2.out.call hf3).new 57 #[.slice ad3 s cp3] [.slice ad3 s cp3] rfl 1 rfl (by omega)
  rw [hB] at h4
  have HSm := Lib.hid ((hf3.rmR (List.mem_cons_self) fun p hp => List.mem_cons_of_mem _ (List.mem_map_of_mem hp)).keep (kin_alloc (Below.refl w3.heap.size w3) (.cells #[.slice ad3 s cp3] 57)))
  obtain ⟨b0, o0, e0, hB0, hb0⟩ := (h4.get 0 rfl).at 0 (by simp)
  cases e0
  simp only [List.getElem?_cons_zero, Nat.add_zero] at hb0
  have HF4 := Lib.hid h4.below
  clear hs hg hf3 h4 HGr HF2 hdv HRm
  go_wp2_with fail
  refine (rankCount n _ (by omega)).mono ?_; rintro e w' ⟨rfl, rfl⟩
  obtain ⟨F, hF⟩ : ∃ F, facN n = F := ⟨_, rfl⟩
  have hFb : F ≤ 720 := by rw [← hF]; exact fac6 n (by omega)
  rw [hF] at hmod ⊢
  clear hF
  go_wp2_with fail
  refine (good2b (w3.alloc (.cells #[.slice ad3 s cp3] 57)) (B + 1) _ (by simp [hB])).mono ?_; rintro e w' ⟨rfl, rfl⟩
  have hkb := (kin_alloc (Below.refl (w3.alloc (.cells #[.slice ad3 s cp3] 57)).heap.size (w3.alloc (.cells #[.slice ad3 s cp3] 57))) (.cells #[.int .i64 0, .int .i64 0] 23))
  have HF5 := Lib.hid (HF4.out.keep hkb)
  have HSm5 := Lib.hid (HSm.out.keep hkb)
  have hb5 := (hkb.cell (p := ⟨B, 0, none⟩) hB0).trans hb0
  have hB5 := Nat.lt_of_lt_of_le hB0 hkb.size
  obtain ⟨W, hW⟩ : ∃ W, (w3.alloc (.cells #[.slice ad3 s cp3] 57)).alloc (.cells #[.int .i64 0, .int .i64 0] 23) = W := ⟨_, rfl⟩
  rw [hW] at HF5 HSm5 hb5 hB5 ⊢
  clear hkb hW HF4 HSm hb0 hB0 hB
  have HB5 := Lib.hid hB5
  clear hB5
  have g1 : ((s : Int) == 0) = false := by rw [beq_eq_false_iff_ne]; omega
  have hmd := nat_mod F s
  rw [hmod] at hmd
  have hmd2 : (F : Int) % (s : Int) = 0 := hmd
  clear hmd hmod
  obtain ⟨i, hi, his⟩ : ∃ i : Nat, a2 % (s : Int) = i ∧ i < s := ⟨(a2 % (s : Int)).toNat, by have := Int.emod_nonneg a2 (b := (s : Int)) (by omega); omega, by have := Int.emod_lt_of_pos a2 (b := (s : Int)) (by omega); have := Int.emod_nonneg a2 (b := (s : Int)) (by omega); omega⟩
  obtain ⟨k, hk, hks⟩ : ∃ i : Nat, a3 % (s : Int) = i ∧ i < s := ⟨(a3 % (s : Int)).toNat, by have := Int.emod_nonneg a3 (b := (s : Int)) (by omega); omega, by have := Int.emod_lt_of_pos a3 (b := (s : Int)) (by omega); have := Int.emod_nonneg a3 (b := (s : Int)) (by omega); omega⟩
  have HWi := fun w' => Lib.hid (within_any a2 s w' (by omega) (by omega))
  have HWk := fun w' => Lib.hid (within_any a3 s w' (by omega) (by omega))
  rw [hi] at HWi
  rw [hk] at HWk
  clear hi hk
  go_wp2_with fail
  go_quiet ((first | (go_at_call_of 27 (Value.int .i64 a2); exact quiet_eq (HWi _).out) | (go_at_call 27; exact quiet_eq (HWk _).out)))
  have hiS : i < S.length := by rw [HSl.out]; exact his
  have hkS : k < S.length := by rw [HSl.out]; exact hks
  have HF6 := Lib.hid (HF5.out.drewN nq)
  have HSm6 := Lib.hid (HSm5.out.keep ((Fr.start W).drewN nq).bel)
  obtain ⟨V, hV⟩ : ∃ V, W.drewN nq = V := ⟨_, rfl⟩
  have hb6 : V.cell? ⟨B, 0, none⟩ = some (.slice ad3 s cp3) := by rw [← hV]; exact hb5
  have HB6 : Hid (B < V.heap.size) := Lib.hid (by rw [← hV]; exact HB5.out)
  rw [hV] at HF6 HSm6 ⊢
  clear hV HF5 HSm5 hb5 HB5 HWi HWk hmd2 g1
  have HLen : Hid (∀ p ∈ S, p.2.2.length = n) := Lib.hid fun p hp => (HG.out.pn (List.mem_map.2 ⟨p, hp, rfl⟩)).1
  obtain ⟨b1, o1, rfl, hb1, c1, s1⟩ := HSm6.out.at i hiS
  obtain ⟨b2, o2, e2, hb2, c2, s2⟩ := HSm6.out.at k hkS
  cases e2
  have m1 : S[i].2.2 ∈ lsR S := List.mem_map.2 ⟨_, List.getElem_mem hiS, rfl⟩
  have m2 : S[k].2.2 ∈ lsR S := List.mem_map.2 ⟨_, List.getElem_mem hkS, rfl⟩
  have p1 := HG.out.pn m1
  have p2 := HG.out.pn m2
  have mt := HG.out.mul m1 m2
  have mi := HG.out.inv m1
  have hsrt := HG.out.srt
  have hord : decide (lexC S[i].2.2 S[k].2.2 < 0) = decide (i < k) := by
    have hlt : ∀ i k (h : i < k) (hk : k < S.length), lexC (S[i]'(by omega)).2.2 S[k].2.2 < 0 := fun i k h hk => by
      have := List.pairwise_iff_getElem.1 hsrt i k (by rw [lsR_len]; omega) (by rw [lsR_len]; omega) h
      rw [lsR_get S i (by omega), lsR_get S k hk] at this
      exact this
    rcases Nat.lt_trichotomy i k with h | h | h
    · rw [decide_eq_true (hlt i k h hkS), decide_eq_true h]
    · subst h; rw [lexC_self]; simp
    · have h1 := hlt k i h hiS
      have h2 := lexC_neg S[k].2.2 S[i].2.2
      rw [decide_eq_false (by omega), decide_eq_false (by omega)]
  obtain ⟨⟨x1, y1, l1⟩, hp1⟩ : ∃ p : Rw, S[i] = p := ⟨_, rfl⟩
  obtain ⟨⟨x2, y2, l2⟩, hp2⟩ : ∃ p : Rw, S[k] = p := ⟨_, rfl⟩
  simp only [hp1, hp2] at hord m1 m2 p1 p2 mt mi
  rw [hp1] at c1 s1
  rw [hp2] at c2 s2
  simp only [rv] at c1 c2
  simp only at s1 s2
  rw [p1.1] at c1
  rw [p2.1] at c2
  have HP1 := Lib.hid p1; have HP2 := Lib.hid p2; have HMt := Lib.hid mt; have HMi := Lib.hid mi; have HOrd := Lib.hid hord
  have HS1 := Lib.hid s1; have HS2 := Lib.hid s2
  have HB1 := Lib.hid hb1
  clear hp1 hp2 hord m1 m2 p1 p2 mt mi hsrt s1 s2 hb1 hb2
  have d1 : (0 : Int) ≤ (i : Int) := by omega
  have d2 : (i : Int) < (s : Int) := by omega
  have d3 : (0 : Int) ≤ (k : Int) := by omega
  have d4 : (k : Int) < (s : Int) := by omega
  have HTm := Lib.hid (permTimes l1 l2 n x1 x2 y1 y2 V.drew (HS1.out.keep (Fr.start V).drew.bel) HP1.out.1 HP1.out.2 (HS2.out.keep (Fr.start V).drew.bel) HP2.out.1 HP2.out.2 (by omega))
  have hcd0 : V.drew.cell? ⟨B, 0, none⟩ = some (.slice (some ⟨b1, o1, none⟩) s cp3) := hb6
  go_wp2_with fail
  -- HERE
  refine wp_region_U [8] (fun w' : World => w'.cell? ⟨B, 0, .none⟩ = some (.slice (some ⟨b1, o1, .none⟩) s cp3) ∧ w'.cell? ⟨b1, o1 + i, .none⟩ = some (.slice x1 n y1) ∧ w'.cell? ⟨b1, o1 + k, .none⟩ = some (.slice x2 n y2)) (by kernel_rfl) ?_
  have hSd : (fun w' : World => w'.cell? ⟨B, 0, .none⟩ = some (.slice (some ⟨b1, o1, .none⟩) s cp3) ∧ w'.cell? ⟨b1, o1 + i, .none⟩ = some (.slice x1 n y1) ∧ w'.cell? ⟨b1, o1 + k, .none⟩ = some (.slice x2 n y2)) V.drew := ⟨hcd0, c1, c2⟩
  refine wpAnyU_take (i := 0) (v := ?_) rfl (by kernel_rfl) (by kernel_rfl) (by kernel_rfl) (by kernel_rfl) (by kernel_rfl) (by kernel_rfl) (fun _ _ _ h => h) (Or.inl ⟨by rfl, ?_⟩) (by assumption) ?_
  rotate_left
  · intro w hSw; obtain ⟨s1, s2, s3⟩ := hSw; go_simp; try with_reducible rfl
  try simp only [List.getElem_toArray]
  try simp only [List.getElem_cons_succ]
  try simp only [List.getElem_cons_zero]
  try simp only [Act.put]
  try simp only [List.setIfInBounds_toArray]
  try simp only [List.set_cons_succ]
  try simp only [List.set_cons_zero]
  refine wpAnyU_takeY (i := 1) (v := ?_) rfl (by kernel_rfl) (by kernel_rfl) (by kernel_rfl) (by kernel_rfl) (fun _ _ _ h => h) (Or.inl ⟨by rfl, ?_⟩) (by assumption) ?_
  rotate_left
  · intro w _; go_simp; try with_reducible rfl
  try simp only [List.getElem_toArray]
  try simp only [List.getElem_cons_succ]
  try simp only [List.getElem_cons_zero]
  try simp only [Act.put]
  try simp only [List.setIfInBounds_toArray]
  try simp only [List.set_cons_succ]
  try simp only [List.set_cons_zero]
  refine wpAnyU_takeY (i := 2) (v := ?_) rfl (by kernel_rfl) (by kernel_rfl) (by kernel_rfl) (by kernel_rfl) (fun _ _ _ h => h) (Or.inl ⟨by rfl, ?_⟩) (by assumption) ?_
  rotate_left
  · intro w _; go_simp; try with_reducible rfl
  try simp only [List.getElem_toArray]
  try simp only [List.getElem_cons_succ]
  try simp only [List.getElem_cons_zero]
  try simp only [Act.put]
  try simp only [List.setIfInBounds_toArray]
  try simp only [List.set_cons_succ]
  try simp only [List.set_cons_zero]
  refine wpAnyU_take (i := 3) (v := ?_) rfl (by kernel_rfl) (by kernel_rfl) (by kernel_rfl) (by kernel_rfl) (by kernel_rfl) (by kernel_rfl) (fun _ _ _ h => h) (Or.inl ⟨by rfl, ?_⟩) (by assumption) ?_
  rotate_left
  · intro w hSw; obtain ⟨s1, s2, s3⟩ := hSw; go_simp; try with_reducible rfl
  try simp only [List.getElem_toArray]
  try simp only [List.getElem_cons_succ]
  try simp only [List.getElem_cons_zero]
  try simp only [Act.put]
  try simp only [List.setIfInBounds_toArray]
  try simp only [List.set_cons_succ]
  try simp only [List.set_cons_zero]
  refine wpAnyU_take (i := 4) (v := ?_) rfl (by kernel_rfl) (by kernel_rfl) (by kernel_rfl) (by kernel_rfl) (by kernel_rfl) (by kernel_rfl) (fun _ _ _ h => h) (Or.inl ⟨by rfl, ?_⟩) (by assumption) ?_
  rotate_left
  · intro w hSw; obtain ⟨s1, s2, s3⟩ := hSw; go_simp; try with_reducible rfl
  try simp only [List.getElem_toArray]
  try simp only [List.getElem_cons_succ]
  try simp only [List.getElem_cons_zero]
  try simp only [Act.put]
  try simp only [List.setIfInBounds_toArray]
  try simp only [List.set_cons_succ]
  try simp only [List.set_cons_zero]
  refine wpAnyU_takeY (i := 5) (v := ?_) rfl (by kernel_rfl) (by kernel_rfl) (by kernel_rfl) (by kernel_rfl) (fun _ _ _ h => h) (Or.inl ⟨by rfl, ?_⟩) (by assumption) ?_
  rotate_left
  · intro w _; go_simp; try with_reducible rfl
  try simp only [List.getElem_toArray]
  try simp only [List.getElem_cons_succ]
  try simp only [List.getElem_cons_zero]
  try simp only [Act.put]
  try simp only [List.setIfInBounds_toArray]
  try simp only [List.set_cons_succ]
  try simp only [List.set_cons_zero]
  refine wpAnyU_takeY (i := 6) (v := ?_) rfl (by kernel_rfl) (by kernel_rfl) (by kernel_rfl) (by kernel_rfl) (fun _ _ _ h => h) (Or.inl ⟨by rfl, ?_⟩) (by assumption) ?_
  rotate_left
  · intro w _; go_simp; try with_reducible rfl
  try simp only [List.getElem_toArray]
  try simp only [List.getElem_cons_succ]
  try simp only [List.getElem_cons_zero]
  try simp only [Act.put]
  try simp only [List.setIfInBounds_toArray]
  try simp only [List.set_cons_succ]
  try simp only [List.set_cons_zero]
  refine wpAnyU_take (i := 7) (v := ?_) rfl (by kernel_rfl) (by kernel_rfl) (by kernel_rfl) (by kernel_rfl) (by kernel_rfl) (by kernel_rfl) (fun _ _ _ h => h) (Or.inl ⟨by rfl, ?_⟩) (by assumption) ?_
  rotate_left
  · intro w hSw; obtain ⟨s1, s2, s3⟩ := hSw; go_simp; try with_reducible rfl
  try simp only [List.getElem_toArray]
  try simp only [List.getElem_cons_succ]
  try simp only [List.getElem_cons_zero]
  try simp only [Act.put]
  try simp only [List.setIfInBounds_toArray]
  try simp only [List.set_cons_succ]
  try simp only [List.set_cons_zero]
  refine wpAnyU_ready (rs := [8]) (by kernel_rfl) (by simp) ?_
  refine AllReadyU.cons rfl (fun K hK => ?_) AllReadyU.nil
  go_simp
  refine HTm.out.mono ?_; rintro e w9 ⟨x9, y9, rfl, hc9, hf9⟩
  have hk9 := (Fr.start V).drew.call hf9
  have HF9 := Lib.hid (HF6.out.keep hk9.bel)
  have HSm9 := Lib.hid (HSm6.out.keep hk9.bel)
  have HB9 : Hid (B < w9.heap.size) := Lib.hid (Nat.lt_of_lt_of_le HB6.out hk9.bel.size)
  have hb9 := (hk9.bel.cell (p := ⟨B, 0, none⟩) HB6.out).trans hb6
  have HX9 := Lib.hid (hf9.get 0 rfl)
  have HS19 := Lib.hid (HS1.out.keep hk9.bel)
  have HS29 := Lib.hid (HS2.out.keep hk9.bel)
  refine hK.out _ _ (fun h => absurd h (by decide +kernel)) ?_
  clear hK K
  try simp only [List.getElem_toArray]
  try simp only [List.getElem_cons_succ]
  try simp only [List.getElem_cons_zero]
  try simp only [Act.put]
  try simp only [List.setIfInBounds_toArray]
  try simp only [List.set_cons_succ]
  try simp only [List.set_cons_zero]
  refine wpAnyU_takeW (i := 9) (v := ?_) rfl (by kernel_rfl) (by kernel_rfl) (by kernel_rfl) (by kernel_rfl) (fun _ _ _ h => h) (Or.inl ⟨by rfl, ?_⟩) ?_
  rotate_left
  · intro w _; go_simp; try with_reducible rfl
  try simp only [List.getElem_toArray]
  try simp only [List.getElem_cons_succ]
  try simp only [List.getElem_cons_zero]
  try simp only [Act.put]
  try simp only [List.setIfInBounds_toArray]
  try simp only [List.set_cons_succ]
  try simp only [List.set_cons_zero]
  refine wpAnyU_takeW (i := 10) (v := ?_) rfl (by kernel_rfl) (by kernel_rfl) (by kernel_rfl) (by kernel_rfl) (fun _ _ _ h => h) (Or.inl ⟨by rfl, ?_⟩) ?_
  rotate_left
  · intro w _; go_simp; try with_reducible rfl
  try simp only [List.getElem_toArray]
  try simp only [List.getElem_cons_succ]
  try simp only [List.getElem_cons_zero]
  try simp only [Act.put]
  try simp only [List.setIfInBounds_toArray]
  try simp only [List.set_cons_succ]
  try simp only [List.set_cons_zero]
  refine wpAnyU_takeW (i := 11) (v := ?_) rfl (by kernel_rfl) (by kernel_rfl) (by kernel_rfl) (by kernel_rfl) (fun _ _ _ h => h) (Or.inl ⟨by rfl, ?_⟩) ?_
  rotate_left
  · intro w _; go_simp; try with_reducible rfl
  try simp only [List.getElem_toArray]
  try simp only [List.getElem_cons_succ]
  try simp only [List.getElem_cons_zero]
  try simp only [Act.put]
  try simp only [List.setIfInBounds_toArray]
  try simp only [List.set_cons_succ]
  try simp only [List.set_cons_zero]
  refine wpAnyU_takeW (i := 12) (v := ?_) rfl (by kernel_rfl) (by kernel_rfl) (by kernel_rfl) (by kernel_rfl) (fun _ _ _ h => h) (Or.inl ⟨by rfl, ?_⟩) ?_
  rotate_left
  · intro w _; go_simp; try with_reducible rfl
  try simp only [List.getElem_toArray]
  try simp only [List.getElem_cons_succ]
  try simp only [List.getElem_cons_zero]
  try simp only [Act.put]
  try simp only [List.setIfInBounds_toArray]
  try simp only [List.set_cons_succ]
  try simp only [List.set_cons_zero]
  refine wpAnyU_takeW (i := 13) (v := ?_) rfl (by kernel_rfl) (by kernel_rfl) (by kernel_rfl) (by kernel_rfl) (fun _ _ _ h => h) (Or.inl ⟨by rfl, ?_⟩) ?_
  rotate_left
  · intro w _; go_simp; try with_reducible rfl
  try simp only [List.getElem_toArray]
  try simp only [List.getElem_cons_succ]
  try simp only [List.getElem_cons_zero]
  try simp only [Act.put]
  try simp only [List.setIfInBounds_toArray]
  try simp only [List.set_cons_succ]
  try simp only [List.set_cons_zero]
  refine wpAnyU_done (by kernel_rfl) ?_ _
  have c19 := (hk9.bel.cell (p := ⟨b1, o1 + i, none⟩) HB1.out).trans c1
  have c29 := (hk9.bel.cell (p := ⟨b1, o1 + k, none⟩) HB1.out).trans c2
  have HB19 : Hid (b1 < w9.heap.size) := Lib.hid (Nat.lt_of_lt_of_le HB1.out hk9.bel.size)
  clear HF6 HSm6 HB6 hb6 HS1 HS2 hk9 hf9 c1 c2 hcd0 hSd HB1
  go_wp2_with fail
  refine (permInv l1 n x1 y1 w9 HS19.out HP1.out.1 HP1.out.2 (by omega)).mono ?_; rintro e wA ⟨xA, yA, rfl, hcA, hfA⟩
  have HFA := Lib.hid (HF9.out.keep hfA.bel)
  have HSmA := Lib.hid (HSm9.out.keep hfA.bel)
  have HBA : Hid (B < wA.heap.size) := Lib.hid (Nat.lt_of_lt_of_le HB9.out hfA.bel.size)
  have hbA := (hfA.bel.cell (p := ⟨B, 0, none⟩) HB9.out).trans hb9
  have HXA := Lib.hid (HX9.out.keep hfA.bel)
  have HYA := Lib.hid (hfA.get 0 rfl)
  have HS1A := Lib.hid (HS19.out.keep hfA.bel)
  have HS2A := Lib.hid (HS29.out.keep hfA.bel)
  have c1A := (hfA.bel.cell (p := ⟨b1, o1 + i, none⟩) HB19.out).trans c19
  have c2A := (hfA.bel.cell (p := ⟨b1, o1 + k, none⟩) HB19.out).trans c29
  have HB1A : Hid (b1 < wA.heap.size) := Lib.hid (Nat.lt_of_lt_of_le HB19.out hfA.bel.size)
  have hen := enters_of Try.func57 (by kernel_rfl) rfl
  obtain ⟨M, hM⟩ : ∃ M, wA.heap.size = M := ⟨_, rfl⟩
  clear hfA c19 c29 HF9 HSm9 HB9 hb9 HX9 HS19 HS29 HB19
  go_wp2_with fail
  by_cases hik : i = k
  · have gik : ((i : Int) == (k : Int)) = true := by rw [hik]; exact beq_self_eq_true _
    refine wp_region_U [] (fun w' : World => w'.cell? ⟨B, 0, .none⟩ = some (.slice (some ⟨b1, o1, .none⟩) s cp3) ∧ w'.cell? ⟨b1, o1 + i, .none⟩ = some (.slice x1 n y1) ∧ w'.cell? ⟨b1, o1 + k, .none⟩ = some (.slice x2 n y2)) (by kernel_rfl) ?_
    have hSd : (fun w' : World => w'.cell? ⟨B, 0, .none⟩ = some (.slice (some ⟨b1, o1, .none⟩) s cp3) ∧ w'.cell? ⟨b1, o1 + i, .none⟩ = some (.slice x1 n y1) ∧ w'.cell? ⟨b1, o1 + k, .none⟩ = some (.slice x2 n y2)) wA.drew := ⟨hbA, c1A, c2A⟩
    refine wpAnyU_takeY (i := 0) (v := ?_) rfl (by kernel_rfl) (by kernel_rfl) (by kernel_rfl) (by kernel_rfl) (fun _ _ _ h => h) (Or.inl ⟨by rfl, ?_⟩) (by assumption) ?_
    rotate_left
    · intro w _; go_simp; try with_reducible rfl
    try simp only [List.getElem_toArray]
    try simp only [List.getElem_cons_succ]
    try simp only [List.getElem_cons_zero]
    try simp only [Act.put]
    try simp only [List.setIfInBounds_toArray]
    try simp only [List.set_cons_succ]
    try simp only [List.set_cons_zero]
    refine wpAnyU_takeY (i := 1) (v := ?_) rfl (by kernel_rfl) (by kernel_rfl) (by kernel_rfl) (by kernel_rfl) (fun _ _ _ h => h) (Or.inl ⟨by rfl, ?_⟩) (by assumption) ?_
    rotate_left
    · intro w _; go_simp; try with_reducible rfl
    try simp only [List.getElem_toArray]
    try simp only [List.getElem_cons_succ]
    try simp only [List.getElem_cons_zero]
    try simp only [Act.put]
    try simp only [List.setIfInBounds_toArray]
    try simp only [List.set_cons_succ]
    try simp only [List.set_cons_zero]
    refine wpAnyU_ready (rs := [2]) (by kernel_rfl) (by simp) ?_
    refine AllReadyU.cons rfl (fun K hK => ?_) AllReadyU.nil
    go_simp
    try rw [hM]
    have hkB := (Fr.start wA).drew.alloc (.cells #[.int .i64 0, .int .i64 0] 23)
    have hSB := fun (w' : World) (b : Below wA.heap.size wA w') => (⟨(b.cell (p := ⟨B, 0, none⟩) HBA.out).trans hbA, (b.cell (p := ⟨b1, o1 + i, none⟩) HB1A.out).trans c1A, (b.cell (p := ⟨b1, o1 + k, none⟩) HB1A.out).trans c2A⟩ : (fun w' : World => w'.cell? ⟨B, 0, .none⟩ = some (.slice (some ⟨b1, o1, .none⟩) s cp3) ∧ w'.cell? ⟨b1, o1 + i, .none⟩ = some (.slice x1 n y1) ∧ w'.cell? ⟨b1, o1 + k, .none⟩ = some (.slice x2 n y2)) w')
    refine hK.out _ _ (fun _ => hSB _ hkB.bel) ?_
    clear hK K
    try simp only [List.getElem_toArray]
    try simp only [List.getElem_cons_succ]
    try simp only [List.getElem_cons_zero]
    try simp only [Act.put]
    try simp only [List.setIfInBounds_toArray]
    try simp only [List.set_cons_succ]
    try simp only [List.set_cons_zero]
    refine wpAnyU_ready (rs := [3]) (by kernel_rfl) (by simp) ?_
    refine AllReadyU.cons rfl (fun K hK => ?_) AllReadyU.nil
    go_simp
    refine (good2b wA.drew M _ hM).mono ?_; rintro e w' ⟨rfl, rfl⟩
    refine hK.out _ _ (fun _ => hSB _ hkB.bel) ?_
    clear hK K
    try simp only [List.getElem_toArray]
    try simp only [List.getElem_cons_succ]
    try simp only [List.getElem_cons_zero]
    try simp only [Act.put]
    try simp only [List.setIfInBounds_toArray]
    try simp only [List.set_cons_succ]
    try simp only [List.set_cons_zero]
    have hSd2 : (fun w' : World => w'.cell? ⟨B, 0, .none⟩ = some (.slice (some ⟨b1, o1, .none⟩) s cp3) ∧ w'.cell? ⟨b1, o1 + i, .none⟩ = some (.slice x1 n y1) ∧ w'.cell? ⟨b1, o1 + k, .none⟩ = some (.slice x2 n y2)) (wA.drew.alloc (.cells #[.int .i64 0, .int .i64 0] 23)) := hSB _ hkB.bel
    refine wpAnyU_takeY (i := 4) (v := ?_) rfl (by kernel_rfl) (by kernel_rfl) (by kernel_rfl) (by kernel_rfl) (fun _ _ _ h => h) (Or.inl ⟨by rfl, ?_⟩) (by assumption) ?_
    rotate_left
    · intro w _; go_simp; try with_reducible rfl
    try simp only [List.getElem_toArray]
    try simp only [List.getElem_cons_succ]
    try simp only [List.getElem_cons_zero]
    try simp only [Act.put]
    try simp only [List.setIfInBounds_toArray]
    try simp only [List.set_cons_succ]
    try simp only [List.set_cons_zero]
    refine wpAnyU_takeY (i := 5) (v := ?_) rfl (by kernel_rfl) (by kernel_rfl) (by kernel_rfl) (by kernel_rfl) (fun _ _ _ h => h) (Or.inl ⟨by rfl, ?_⟩) (by assumption) ?_
    rotate_left
    · intro w _; go_simp; try with_reducible rfl
    try simp only [List.getElem_toArray]
    try simp only [List.getElem_cons_succ]
    try simp only [List.getElem_cons_zero]
    try simp only [Act.put]
    try simp only [List.setIfInBounds_toArray]
    try simp only [List.set_cons_succ]
    try simp only [List.set_cons_zero]
    refine wpAnyU_takeY (i := 6) (v := ?_) rfl (by kernel_rfl) (by kernel_rfl) (by kernel_rfl) (by kernel_rfl) (fun _ _ _ h => h) (Or.inl ⟨by rfl, ?_⟩) (by assumption) ?_
    rotate_left
    · intro w _; go_simp; try with_reducible rfl
    try simp only [List.getElem_toArray]
    try simp only [List.getElem_cons_succ]
    try simp only [List.getElem_cons_zero]
    try simp only [Act.put]
    try simp only [List.setIfInBounds_toArray]
    try simp only [List.set_cons_succ]
    try simp only [List.set_cons_zero]
    have hkD := ((Fr.start wA).alloc (.cells #[.int .i64 0, .int .i64 0] 23)).drew
    have HX1 := Lib.hid (hasOk S s (some ⟨b1, o1, none⟩) cp3 (tmL l1 l2) n x9 y9 B (wA.alloc (.cells #[.int .i64 0, .int .i64 0] 23)).drew (HSmA.out.keep hkD.bel) HSl.out hs720 HLen.out (Nat.lt_of_lt_of_le HBA.out hkD.bel.size) ((hkD.bel.cell (p := ⟨B, 0, none⟩) HBA.out).trans hbA) (HXA.out.keep hkD.bel) (by rw [tmL_len]; exact HP2.out.1) (by omega) HMt.out)
    refine wpAnyU_ready (rs := [7]) (by kernel_rfl) (by simp) ?_
    refine AllReadyU.cons rfl (fun K hK => ?_) AllReadyU.nil
    go_simp
    refine HX1.out.mono ?_; rintro e wE ⟨rfl, hfE⟩
    have hkE := hkD.call hfE
    refine hK.out _ _ (fun _ => hSB _ hkE.bel) ?_
    clear hK K
    try simp only [List.getElem_toArray]
    try simp only [List.getElem_cons_succ]
    try simp only [List.getElem_cons_zero]
    try simp only [Act.put]
    try simp only [List.setIfInBounds_toArray]
    try simp only [List.set_cons_succ]
    try simp only [List.set_cons_zero]
    have hSd3 : (fun w' : World => w'.cell? ⟨B, 0, .none⟩ = some (.slice (some ⟨b1, o1, .none⟩) s cp3) ∧ w'.cell? ⟨b1, o1 + i, .none⟩ = some (.slice x1 n y1) ∧ w'.cell? ⟨b1, o1 + k, .none⟩ = some (.slice x2 n y2)) wE := hSB _ hkE.bel
    refine wpAnyU_takeY (i := 8) (v := ?_) rfl (by kernel_rfl) (by kernel_rfl) (by kernel_rfl) (by kernel_rfl) (fun _ _ _ h => h) (Or.inl ⟨by rfl, ?_⟩) (by assumption) ?_
    rotate_left
    · intro w _; go_simp; try with_reducible rfl
    try simp only [List.getElem_toArray]
    try simp only [List.getElem_cons_succ]
    try simp only [List.getElem_cons_zero]
    try simp only [Act.put]
    try simp only [List.setIfInBounds_toArray]
    try simp only [List.set_cons_succ]
    try simp only [List.set_cons_zero]
    refine wpAnyU_takeY (i := 9) (v := ?_) rfl (by kernel_rfl) (by kernel_rfl) (by kernel_rfl) (by kernel_rfl) (fun _ _ _ h => h) (Or.inl ⟨by rfl, ?_⟩) (by assumption) ?_
    rotate_left
    · intro w _; go_simp; try with_reducible rfl
    try simp only [List.getElem_toArray]
    try simp only [List.getElem_cons_succ]
    try simp only [List.getElem_cons_zero]
    try simp only [Act.put]
    try simp only [List.setIfInBounds_toArray]
    try simp only [List.set_cons_succ]
    try simp only [List.set_cons_zero]
    refine wpAnyU_takeY (i := 10) (v := ?_) rfl (by kernel_rfl) (by kernel_rfl) (by kernel_rfl) (by kernel_rfl) (fun _ _ _ h => h) (Or.inl ⟨by rfl, ?_⟩) (by assumption) ?_
    rotate_left
    · intro w _; go_simp; try with_reducible rfl
    try simp only [List.getElem_toArray]
    try simp only [List.getElem_cons_succ]
    try simp only [List.getElem_cons_zero]
    try simp only [Act.put]
    try simp only [List.setIfInBounds_toArray]
    try simp only [List.set_cons_succ]
    try simp only [List.set_cons_zero]
    refine wpAnyU_takeY (i := 11) (v := ?_) rfl (by kernel_rfl) (by kernel_rfl) (by kernel_rfl) (by kernel_rfl) (fun _ _ _ h => h) (Or.inl ⟨by rfl, ?_⟩) (by assumption) ?_
    rotate_left
    · intro w _; go_simp; try with_reducible rfl
    try simp only [List.getElem_toArray]
    try simp only [List.getElem_cons_succ]
    try simp only [List.getElem_cons_zero]
    try simp only [Act.put]
    try simp only [List.setIfInBounds_toArray]
    try simp only [List.set_cons_succ]
    try simp only [List.set_cons_zero]
    have HX2 := Lib.hid (hasOk S s (some ⟨b1, o1, none⟩) cp3 (invL l1) n xA yA B wE (HSmA.out.keep hkE.bel) HSl.out hs720 HLen.out (Nat.lt_of_lt_of_le HBA.out hkE.bel.size) ((hkE.bel.cell (p := ⟨B, 0, none⟩) HBA.out).trans hbA) (HYA.out.keep hkE.bel) (by rw [invL_len]; exact HP1.out.1) (by omega) HMi.out)
    refine wpAnyU_ready (rs := [12]) (by kernel_rfl) (by simp) ?_
    refine AllReadyU.cons rfl (fun K hK => ?_) AllReadyU.nil
    go_simp
    refine HX2.out.mono ?_; rintro e wG ⟨rfl, hfG⟩
    have hkG := hkE.call hfG
    refine hK.out _ _ (fun _ => hSB _ hkG.bel) ?_
    clear hK K
    try simp only [List.getElem_toArray]
    try simp only [List.getElem_cons_succ]
    try simp only [List.getElem_cons_zero]
    try simp only [Act.put]
    try simp only [List.setIfInBounds_toArray]
    try simp only [List.set_cons_succ]
    try simp only [List.set_cons_zero]
    have hSd4 : (fun w' : World => w'.cell? ⟨B, 0, .none⟩ = some (.slice (some ⟨b1, o1, .none⟩) s cp3) ∧ w'.cell? ⟨b1, o1 + i, .none⟩ = some (.slice x1 n y1) ∧ w'.cell? ⟨b1, o1 + k, .none⟩ = some (.slice x2 n y2)) wG := hSB _ hkG.bel
    refine wpAnyU_takeY (i := 13) (v := ?_) rfl (by kernel_rfl) (by kernel_rfl) (by kernel_rfl) (by kernel_rfl) (fun _ _ _ h => h) (Or.inl ⟨by rfl, ?_⟩) (by assumption) ?_
    rotate_left
    · intro w _; go_simp; try with_reducible rfl
    try simp only [List.getElem_toArray]
    try simp only [List.getElem_cons_succ]
    try simp only [List.getElem_cons_zero]
    try simp only [Act.put]
    try simp only [List.setIfInBounds_toArray]
    try simp only [List.set_cons_succ]
    try simp only [List.set_cons_zero]
    refine wpAnyU_takeY (i := 14) (v := ?_) rfl (by kernel_rfl) (by kernel_rfl) (by kernel_rfl) (by kernel_rfl) (fun _ _ _ h => h) (Or.inl ⟨by rfl, ?_⟩) (by assumption) ?_
    rotate_left
    · intro w _; go_simp; try with_reducible rfl
    try simp only [List.getElem_toArray]
    try simp only [List.getElem_cons_succ]
    try simp only [List.getElem_cons_zero]
    try simp only [Act.put]
    try simp only [List.setIfInBounds_toArray]
    try simp only [List.set_cons_succ]
    try simp only [List.set_cons_zero]
    refine wpAnyU_takeY (i := 15) (v := ?_) rfl (by kernel_rfl) (by kernel_rfl) (by kernel_rfl) (by kernel_rfl) (fun _ _ _ h => h) (Or.inl ⟨by rfl, ?_⟩) (by assumption) ?_
    rotate_left
    · intro w _; go_simp; try with_reducible rfl
    try simp only [List.getElem_toArray]
    try simp only [List.getElem_cons_succ]
    try simp only [List.getElem_cons_zero]
    try simp only [Act.put]
    try simp only [List.setIfInBounds_toArray]
    try simp only [List.set_cons_succ]
    try simp only [List.set_cons_zero]
    refine wpAnyU_takeY (i := 16) (v := ?_) rfl (by kernel_rfl) (by kernel_rfl) (by kernel_rfl) (by kernel_rfl) (fun _ _ _ h => h) (Or.inl ⟨by rfl, ?_⟩) (by assumption) ?_
    rotate_left
    · intro w _; go_simp; try with_reducible rfl
    try simp only [List.getElem_toArray]
    try simp only [List.getElem_cons_succ]
    try simp only [List.getElem_cons_zero]
    try simp only [Act.put]
    try simp only [List.setIfInBounds_toArray]
    try simp only [List.set_cons_succ]
    try simp only [List.set_cons_zero]
    refine wpAnyU_takeY (i := 17) (v := ?_) rfl (by kernel_rfl) (by kernel_rfl) (by kernel_rfl) (by kernel_rfl) (fun _ _ _ h => h) (Or.inl ⟨by rfl, ?_⟩) (by assumption) ?_
    rotate_left
    · intro w _; go_simp; try with_reducible rfl
    try simp only [List.getElem_toArray]
    try simp only [List.getElem_cons_succ]
    try simp only [List.getElem_cons_zero]
    try simp only [Act.put]
    try simp only [List.setIfInBounds_toArray]
    try simp only [List.set_cons_succ]
    try simp only [List.set_cons_zero]
    refine wpAnyU_takeY (i := 18) (v := ?_) rfl (by kernel_rfl) (by kernel_rfl) (by kernel_rfl) (by kernel_rfl) (fun _ _ _ h => h) (Or.inl ⟨by rfl, ?_⟩) (by assumption) ?_
    rotate_left
    · intro w _; go_simp; try with_reducible rfl
    try simp only [List.getElem_toArray]
    try simp only [List.getElem_cons_succ]
    try simp only [List.getElem_cons_zero]
    try simp only [Act.put]
    try simp only [List.setIfInBounds_toArray]
    try simp only [List.set_cons_succ]
    try simp only [List.set_cons_zero]
    refine wpAnyU_takeY (i := 19) (v := undef) rfl (by kernel_rfl) (by kernel_rfl) (by kernel_rfl) (by kernel_rfl) (fun _ _ _ h => h) (Or.inr ⟨by rfl, by rfl⟩) (by assumption) ?_
    try simp only [List.getElem_toArray]
    try simp only [List.getElem_cons_succ]
    try simp only [List.getElem_cons_zero]
    try simp only [Act.put]
    try simp only [List.setIfInBounds_toArray]
    try simp only [List.set_cons_succ]
    try simp only [List.set_cons_zero]
    refine wpAnyU_takeY (i := 20) (v := undef) rfl (by kernel_rfl) (by kernel_rfl) (by kernel_rfl) (by kernel_rfl) (fun _ _ _ h => h) (Or.inr ⟨by rfl, by rfl⟩) (by assumption) ?_
    try simp only [List.getElem_toArray]
    try simp only [List.getElem_cons_succ]
    try simp only [List.getElem_cons_zero]
    try simp only [Act.put]
    try simp only [List.setIfInBounds_toArray]
    try simp only [List.set_cons_succ]
    try simp only [List.set_cons_zero]
    refine wpAnyU_takeY (i := 21) (v := undef) rfl (by kernel_rfl) (by kernel_rfl) (by kernel_rfl) (by kernel_rfl) (fun _ _ _ h => h) (Or.inr ⟨by rfl, by rfl⟩) (by assumption) ?_
    try simp only [List.getElem_toArray]
    try simp only [List.getElem_cons_succ]
    try simp only [List.getElem_cons_zero]
    try simp only [Act.put]
    try simp only [List.setIfInBounds_toArray]
    try simp only [List.set_cons_succ]
    try simp only [List.set_cons_zero]
    refine wpAnyU_takeY (i := 22) (v := undef) rfl (by kernel_rfl) (by kernel_rfl) (by kernel_rfl) (by kernel_rfl) (fun _ _ _ h => h) (Or.inr ⟨by rfl, by rfl⟩) (by assumption) ?_
    try simp only [List.getElem_toArray]
    try simp only [List.getElem_cons_succ]
    try simp only [List.getElem_cons_zero]
    try simp only [Act.put]
    try simp only [List.setIfInBounds_toArray]
    try simp only [List.set_cons_succ]
    try simp only [List.set_cons_zero]
    refine wpAnyU_takeY (i := 23) (v := undef) rfl (by kernel_rfl) (by kernel_rfl) (by kernel_rfl) (by kernel_rfl) (fun _ _ _ h => h) (Or.inr ⟨by rfl, by rfl⟩) (by assumption) ?_
    try simp only [List.getElem_toArray]
    try simp only [List.getElem_cons_succ]
    try simp only [List.getElem_cons_zero]
    try simp only [Act.put]
    try simp only [List.setIfInBounds_toArray]
    try simp only [List.set_cons_succ]
    try simp only [List.set_cons_zero]
    refine wpAnyU_takeY (i := 24) (v := undef) rfl (by kernel_rfl) (by kernel_rfl) (by kernel_rfl) (by kernel_rfl) (fun _ _ _ h => h) (Or.inr ⟨by rfl, by rfl⟩) (by assumption) ?_
    try simp only [List.getElem_toArray]
    try simp only [List.getElem_cons_succ]
    try simp only [List.getElem_cons_zero]
    try simp only [Act.put]
    try simp only [List.setIfInBounds_toArray]
    try simp only [List.set_cons_succ]
    try simp only [List.set_cons_zero]
    refine wpAnyU_takeY (i := 25) (v := undef) rfl (by kernel_rfl) (by kernel_rfl) (by kernel_rfl) (by kernel_rfl) (fun _ _ _ h => h) (Or.inr ⟨by rfl, by rfl⟩) (by assumption) ?_
    try simp only [List.getElem_toArray]
    try simp only [List.getElem_cons_succ]
    try simp only [List.getElem_cons_zero]
    try simp only [Act.put]
    try simp only [List.setIfInBounds_toArray]
    try simp only [List.set_cons_succ]
    try simp only [List.set_cons_zero]
    refine wpAnyU_takeY (i := 26) (v := undef) rfl (by kernel_rfl) (by kernel_rfl) (by kernel_rfl) (by kernel_rfl) (fun _ _ _ h => h) (Or.inr ⟨by rfl, by rfl⟩) (by assumption) ?_
    try simp only [List.getElem_toArray]
    try simp only [List.getElem_cons_succ]
    try simp only [List.getElem_cons_zero]
    try simp only [Act.put]
    try simp only [List.setIfInBounds_toArray]
    try simp only [List.set_cons_succ]
    try simp only [List.set_cons_zero]
    refine wpAnyU_takeY (i := 27) (v := undef) rfl (by kernel_rfl) (by kernel_rfl) (by kernel_rfl) (by kernel_rfl) (fun _ _ _ h => h) (Or.inr ⟨by rfl, by rfl⟩) (by assumption) ?_
    try simp only [List.getElem_toArray]
    try simp only [List.getElem_cons_succ]
    try simp only [List.getElem_cons_zero]
    try simp only [Act.put]
    try simp only [List.setIfInBounds_toArray]
    try simp only [List.set_cons_succ]
    try simp only [List.set_cons_zero]
    refine wpAnyU_takeY (i := 28) (v := undef) rfl (by kernel_rfl) (by kernel_rfl) (by kernel_rfl) (by kernel_rfl) (fun _ _ _ h => h) (Or.inr ⟨by rfl, by rfl⟩) (by assumption) ?_
    try simp only [List.getElem_toArray]
    try simp only [List.getElem_cons_succ]
    try simp only [List.getElem_cons_zero]
    try simp only [Act.put]
    try simp only [List.setIfInBounds_toArray]
    try simp only [List.set_cons_succ]
    try simp only [List.set_cons_zero]
    refine wpAnyU_takeY (i := 29) (v := undef) rfl (by kernel_rfl) (by kernel_rfl) (by kernel_rfl) (by kernel_rfl) (fun _ _ _ h => h) (Or.inr ⟨by rfl, by rfl⟩) (by assumption) ?_
    try simp only [List.getElem_toArray]
    try simp only [List.getElem_cons_succ]
    try simp only [List.getElem_cons_zero]
    try simp only [Act.put]
    try simp only [List.setIfInBounds_toArray]
    try simp only [List.set_cons_succ]
    try simp only [List.set_cons_zero]
    refine wpAnyU_takeY (i := 30) (v := undef) rfl (by kernel_rfl) (by kernel_rfl) (by kernel_rfl) (by kernel_rfl) (fun _ _ _ h => h) (Or.inr ⟨by rfl, by rfl⟩) (by assumption) ?_
    try simp only [List.getElem_toArray]
    try simp only [List.getElem_cons_succ]
    try simp only [List.getElem_cons_zero]
    try simp only [Act.put]
    try simp only [List.setIfInBounds_toArray]
    try simp only [List.set_cons_succ]
    try simp only [List.set_cons_zero]
    refine wpAnyU_takeY (i := 31) (v := undef) rfl (by kernel_rfl) (by kernel_rfl) (by kernel_rfl) (by kernel_rfl) (fun _ _ _ h => h) (Or.inr ⟨by rfl, by rfl⟩) (by assumption) ?_
    try simp only [List.getElem_toArray]
    try simp only [List.getElem_cons_succ]
    try simp only [List.getElem_cons_zero]
    try simp only [Act.put]
    try simp only [List.setIfInBounds_toArray]
    try simp only [List.set_cons_succ]
    try simp only [List.set_cons_zero]
    refine wpAnyU_takeY (i := 32) (v := undef) rfl (by kernel_rfl) (by kernel_rfl) (by kernel_rfl) (by kernel_rfl) (fun _ _ _ h => h) (Or.inr ⟨by rfl, by rfl⟩) (by assumption) ?_
    try simp only [List.getElem_toArray]
    try simp only [List.getElem_cons_succ]
    try simp only [List.getElem_cons_zero]
    try simp only [Act.put]
    try simp only [List.setIfInBounds_toArray]
    try simp only [List.set_cons_succ]
    try simp only [List.set_cons_zero]
    refine wpAnyU_takeY (i := 33) (v := ?_) rfl (by kernel_rfl) (by kernel_rfl) (by kernel_rfl) (by kernel_rfl) (fun _ _ _ h => h) (Or.inl ⟨by rfl, ?_⟩) (by assumption) ?_
    rotate_left
    · intro w _; go_simp; try with_reducible rfl
    try simp only [List.getElem_toArray]
    try simp only [List.getElem_cons_succ]
    try simp only [List.getElem_cons_zero]
    try simp only [Act.put]
    try simp only [List.setIfInBounds_toArray]
    try simp only [List.set_cons_succ]
    try simp only [List.set_cons_zero]
    refine wpAnyU_takeY (i := 34) (v := ?_) rfl (by kernel_rfl) (by kernel_rfl) (by kernel_rfl) (by kernel_rfl) (fun _ _ _ h => h) (Or.inl ⟨by rfl, ?_⟩) (by assumption) ?_
    rotate_left
    · intro w _; go_simp; try with_reducible rfl
    try simp only [List.getElem_toArray]
    try simp only [List.getElem_cons_succ]
    try simp only [List.getElem_cons_zero]
    try simp only [Act.put]
    try simp only [List.setIfInBounds_toArray]
    try simp only [List.set_cons_succ]
    try simp only [List.set_cons_zero]
    refine wpAnyU_takeY (i := 35) (v := ?_) rfl (by kernel_rfl) (by kernel_rfl) (by kernel_rfl) (by kernel_rfl) (fun _ _ _ h => h) (Or.inl ⟨by rfl, ?_⟩) (by assumption) ?_
    rotate_left
    · intro w _; go_simp; try with_reducible rfl
    try simp only [List.getElem_toArray]
    try simp only [List.getElem_cons_succ]
    try simp only [List.getElem_cons_zero]
    try simp only [Act.put]
    try simp only [List.setIfInBounds_toArray]
    try simp only [List.set_cons_succ]
    try simp only [List.set_cons_zero]
    refine wpAnyU_done (by kernel_rfl) ?_ _
    have HFG := Lib.hid (HFA.out.keep hkG.bel)
    clear hSd hSd2 hSd3 hSd4 hkB hkD hkE hkG hSB
    go_wp2_with fail
    go_ret
    exact ⟨by first | rfl | simp, HFG.out.bel⟩
  · have gik : ((i : Int) == (k : Int)) = false := by rw [beq_eq_false_iff_ne]; omega
    have gor := HOrd.out
    refine wp_region_U [27] (fun w' : World => w'.cell? ⟨B, 0, .none⟩ = some (.slice (some ⟨b1, o1, .none⟩) s cp3) ∧ w'.cell? ⟨b1, o1 + i, .none⟩ = some (.slice x1 n y1) ∧ w'.cell? ⟨b1, o1 + k, .none⟩ = some (.slice x2 n y2)) (by kernel_rfl) ?_
    have hSd : (fun w' : World => w'.cell? ⟨B, 0, .none⟩ = some (.slice (some ⟨b1, o1, .none⟩) s cp3) ∧ w'.cell? ⟨b1, o1 + i, .none⟩ = some (.slice x1 n y1) ∧ w'.cell? ⟨b1, o1 + k, .none⟩ = some (.slice x2 n y2)) wA.drew := ⟨hbA, c1A, c2A⟩
    refine wpAnyU_takeY (i := 0) (v := ?_) rfl (by kernel_rfl) (by kernel_rfl) (by kernel_rfl) (by kernel_rfl) (fun _ _ _ h => h) (Or.inl ⟨by rfl, ?_⟩) (by assumption) ?_
    rotate_left
    · intro w _; go_simp; try with_reducible rfl
    try simp only [List.getElem_toArray]
    try simp only [List.getElem_cons_succ]
    try simp only [List.getElem_cons_zero]
    try simp only [Act.put]
    try simp only [List.setIfInBounds_toArray]
    try simp only [List.set_cons_succ]
    try simp only [List.set_cons_zero]
    refine wpAnyU_takeY (i := 1) (v := ?_) rfl (by kernel_rfl) (by kernel_rfl) (by kernel_rfl) (by kernel_rfl) (fun _ _ _ h => h) (Or.inl ⟨by rfl, ?_⟩) (by assumption) ?_
    rotate_left
    · intro w _; go_simp; try with_reducible rfl
    try simp only [List.getElem_toArray]
    try simp only [List.getElem_cons_succ]
    try simp only [List.getElem_cons_zero]
    try simp only [Act.put]
    try simp only [List.setIfInBounds_toArray]
    try simp only [List.set_cons_succ]
    try simp only [List.set_cons_zero]
    refine wpAnyU_ready (rs := [2]) (by kernel_rfl) (by simp) ?_
    refine AllReadyU.cons rfl (fun K hK => ?_) AllReadyU.nil
    go_simp
    try rw [hM]
    have hkB := (Fr.start wA).drew.alloc (.cells #[.int .i64 0, .int .i64 0] 23)
    have hSB := fun (w' : World) (b : Below wA.heap.size wA w') => (⟨(b.cell (p := ⟨B, 0, none⟩) HBA.out).trans hbA, (b.cell (p := ⟨b1, o1 + i, none⟩) HB1A.out).trans c1A, (b.cell (p := ⟨b1, o1 + k, none⟩) HB1A.out).trans c2A⟩ : (fun w' : World => w'.cell? ⟨B, 0, .none⟩ = some (.slice (some ⟨b1, o1, .none⟩) s cp3) ∧ w'.cell? ⟨b1, o1 + i, .none⟩ = some (.slice x1 n y1) ∧ w'.cell? ⟨b1, o1 + k, .none⟩ = some (.slice x2 n y2)) w')
    refine hK.out _ _ (fun _ => hSB _ hkB.bel) ?_
    clear hK K
    try simp only [List.getElem_toArray]
    try simp only [List.getElem_cons_succ]
    try simp only [List.getElem_cons_zero]
    try simp only [Act.put]
    try simp only [List.setIfInBounds_toArray]
    try simp only [List.set_cons_succ]
    try simp only [List.set_cons_zero]
    refine wpAnyU_ready (rs := [3]) (by kernel_rfl) (by simp) ?_
    refine AllReadyU.cons rfl (fun K hK => ?_) AllReadyU.nil
    go_simp
    refine (good2b wA.drew M _ hM).mono ?_; rintro e w' ⟨rfl, rfl⟩
    refine hK.out _ _ (fun _ => hSB _ hkB.bel) ?_
    clear hK K
    try simp only [List.getElem_toArray]
    try simp only [List.getElem_cons_succ]
    try simp only [List.getElem_cons_zero]
    try simp only [Act.put]
    try simp only [List.setIfInBounds_toArray]
    try simp only [List.set_cons_succ]
    try simp only [List.set_cons_zero]
    have hSd2 : (fun w' : World => w'.cell? ⟨B, 0, .none⟩ = some (.slice (some ⟨b1, o1, .none⟩) s cp3) ∧ w'.cell? ⟨b1, o1 + i, .none⟩ = some (.slice x1 n y1) ∧ w'.cell? ⟨b1, o1 + k, .none⟩ = some (.slice x2 n y2)) (wA.drew.alloc (.cells #[.int .i64 0, .int .i64 0] 23)) := hSB _ hkB.bel
    refine wpAnyU_takeY (i := 4) (v := ?_) rfl (by kernel_rfl) (by kernel_rfl) (by kernel_rfl) (by kernel_rfl) (fun _ _ _ h => h) (Or.inl ⟨by rfl, ?_⟩) (by assumption) ?_
    rotate_left
    · intro w _; go_simp; try with_reducible rfl
    try simp only [List.getElem_toArray]
    try simp only [List.getElem_cons_succ]
    try simp only [List.getElem_cons_zero]
    try simp only [Act.put]
    try simp only [List.setIfInBounds_toArray]
    try simp only [List.set_cons_succ]
    try simp only [List.set_cons_zero]
    refine wpAnyU_takeY (i := 5) (v := ?_) rfl (by kernel_rfl) (by kernel_rfl) (by kernel_rfl) (by kernel_rfl) (fun _ _ _ h => h) (Or.inl ⟨by rfl, ?_⟩) (by assumption) ?_
    rotate_left
    · intro w _; go_simp; try with_reducible rfl
    try simp only [List.getElem_toArray]
    try simp only [List.getElem_cons_succ]
    try simp only [List.getElem_cons_zero]
    try simp only [Act.put]
    try simp only [List.setIfInBounds_toArray]
    try simp only [List.set_cons_succ]
    try simp only [List.set_cons_zero]
    refine wpAnyU_takeY (i := 6) (v := ?_) rfl (by kernel_rfl) (by kernel_rfl) (by kernel_rfl) (by kernel_rfl) (fun _ _ _ h => h) (Or.inl ⟨by rfl, ?_⟩) (by assumption) ?_
    rotate_left
    · intro w _; go_simp; try with_reducible rfl
    try simp only [List.getElem_toArray]
    try simp only [List.getElem_cons_succ]
    try simp only [List.getElem_cons_zero]
    try simp only [Act.put]
    try simp only [List.setIfInBounds_toArray]
    try simp only [List.set_cons_succ]
    try simp only [List.set_cons_zero]
    have hkD := ((Fr.start wA).alloc (.cells #[.int .i64 0, .int .i64 0] 23)).drew
    have HX1 := Lib.hid (hasOk S s (some ⟨b1, o1, none⟩) cp3 (tmL l1 l2) n x9 y9 B (wA.alloc (.cells #[.int .i64 0, .int .i64 0] 23)).drew (HSmA.out.keep hkD.bel) HSl.out hs720 HLen.out (Nat.lt_of_lt_of_le HBA.out hkD.bel.size) ((hkD.bel.cell (p := ⟨B, 0, none⟩) HBA.out).trans hbA) (HXA.out.keep hkD.bel) (by rw [tmL_len]; exact HP2.out.1) (by omega) HMt.out)
    refine wpAnyU_ready (rs := [7]) (by kernel_rfl) (by simp) ?_
    refine AllReadyU.cons rfl (fun K hK => ?_) AllReadyU.nil
    go_simp
    refine HX1.out.mono ?_; rintro e wE ⟨rfl, hfE⟩
    have hkE := hkD.call hfE
    refine hK.out _ _ (fun _ => hSB _ hkE.bel) ?_
    clear hK K
    try simp only [List.getElem_toArray]
    try simp only [List.getElem_cons_succ]
    try simp only [List.getElem_cons_zero]
    try simp only [Act.put]
    try simp only [List.setIfInBounds_toArray]
    try simp only [List.set_cons_succ]
    try simp only [List.set_cons_zero]
    have hSd3 : (fun w' : World => w'.cell? ⟨B, 0, .none⟩ = some (.slice (some ⟨b1, o1, .none⟩) s cp3) ∧ w'.cell? ⟨b1, o1 + i, .none⟩ = some (.slice x1 n y1) ∧ w'.cell? ⟨b1, o1 + k, .none⟩ = some (.slice x2 n y2)) wE := hSB _ hkE.bel
    refine wpAnyU_takeY (i := 8) (v := ?_) rfl (by kernel_rfl) (by kernel_rfl) (by kernel_rfl) (by kernel_rfl) (fun _ _ _ h => h) (Or.inl ⟨by rfl, ?_⟩) (by assumption) ?_
    rotate_left
    · intro w _; go_simp; try with_reducible rfl
    try simp only [List.getElem_toArray]
    try simp only [List.getElem_cons_succ]
    try simp only [List.getElem_cons_zero]
    try simp only [Act.put]
    try simp only [List.setIfInBounds_toArray]
    try simp only [List.set_cons_succ]
    try simp only [List.set_cons_zero]
    refine wpAnyU_takeY (i := 9) (v := ?_) rfl (by kernel_rfl) (by kernel_rfl) (by kernel_rfl) (by kernel_rfl) (fun _ _ _ h => h) (Or.inl ⟨by rfl, ?_⟩) (by assumption) ?_
    rotate_left
    · intro w _; go_simp; try with_reducible rfl
    try simp only [List.getElem_toArray]
    try simp only [List.getElem_cons_succ]
    try simp only [List.getElem_cons_zero]
    try simp only [Act.put]
    try simp only [List.setIfInBounds_toArray]
    try simp only [List.set_cons_succ]
    try simp only [List.set_cons_zero]
    refine wpAnyU_takeY (i := 10) (v := ?_) rfl (by kernel_rfl) (by kernel_rfl) (by kernel_rfl) (by kernel_rfl) (fun _ _ _ h => h) (Or.inl ⟨by rfl, ?_⟩) (by assumption) ?_
    rotate_left
    · intro w _; go_simp; try with_reducible rfl
    try simp only [List.getElem_toArray]
    try simp only [List.getElem_cons_succ]
    try simp only [List.getElem_cons_zero]
    try simp only [Act.put]
    try simp only [List.setIfInBounds_toArray]
    try simp only [List.set_cons_succ]
    try simp only [List.set_cons_zero]
    refine wpAnyU_takeY (i := 11) (v := ?_) rfl (by kernel_rfl) (by kernel_rfl) (by kernel_rfl) (by kernel_rfl) (fun _ _ _ h => h) (Or.inl ⟨by rfl, ?_⟩) (by assumption) ?_
    rotate_left
    · intro w _; go_simp; try with_reducible rfl
    try simp only [List.getElem_toArray]
    try simp only [List.getElem_cons_succ]
    try simp only [List.getElem_cons_zero]
    try simp only [Act.put]
    try simp only [List.setIfInBounds_toArray]
    try simp only [List.set_cons_succ]
    try simp only [List.set_cons_zero]
    have HX2 := Lib.hid (hasOk S s (some ⟨b1, o1, none⟩) cp3 (invL l1) n xA yA B wE (HSmA.out.keep hkE.bel) HSl.out hs720 HLen.out (Nat.lt_of_lt_of_le HBA.out hkE.bel.size) ((hkE.bel.cell (p := ⟨B, 0, none⟩) HBA.out).trans hbA) (HYA.out.keep hkE.bel) (by rw [invL_len]; exact HP1.out.1) (by omega) HMi.out)
    refine wpAnyU_ready (rs := [12]) (by kernel_rfl) (by simp) ?_
    refine AllReadyU.cons rfl (fun K hK => ?_) AllReadyU.nil
    go_simp
    refine HX2.out.mono ?_; rintro e wG ⟨rfl, hfG⟩
    have hkG := hkE.call hfG
    refine hK.out _ _ (fun _ => hSB _ hkG.bel) ?_
    clear hK K
    try simp only [List.getElem_toArray]
    try simp only [List.getElem_cons_succ]
    try simp only [List.getElem_cons_zero]
    try simp only [Act.put]
    try simp only [List.setIfInBounds_toArray]
    try simp only [List.set_cons_succ]
    try simp only [List.set_cons_zero]
    have hSd4 : (fun w' : World => w'.cell? ⟨B, 0, .none⟩ = some (.slice (some ⟨b1, o1, .none⟩) s cp3) ∧ w'.cell? ⟨b1, o1 + i, .none⟩ = some (.slice x1 n y1) ∧ w'.cell? ⟨b1, o1 + k, .none⟩ = some (.slice x2 n y2)) wG := hSB _ hkG.bel
    refine wpAnyU_takeY (i := 13) (v := ?_) rfl (by kernel_rfl) (by kernel_rfl) (by kernel_rfl) (by kernel_rfl) (fun _ _ _ h => h) (Or.inl ⟨by rfl, ?_⟩) (by assumption) ?_
    rotate_left
    · intro w _; go_simp; try with_reducible rfl
    try simp only [List.getElem_toArray]
    try simp only [List.getElem_cons_succ]
    try simp only [List.getElem_cons_zero]
    try simp only [Act.put]
    try simp only [List.setIfInBounds_toArray]
    try simp only [List.set_cons_succ]
    try simp only [List.set_cons_zero]
    refine wpAnyU_takeY (i := 14) (v := ?_) rfl (by kernel_rfl) (by kernel_rfl) (by kernel_rfl) (by kernel_rfl) (fun _ _ _ h => h) (Or.inl ⟨by rfl, ?_⟩) (by assumption) ?_
    rotate_left
    · intro w _; go_simp; try with_reducible rfl
    try simp only [List.getElem_toArray]
    try simp only [List.getElem_cons_succ]
    try simp only [List.getElem_cons_zero]
    try simp only [Act.put]
    try simp only [List.setIfInBounds_toArray]
    try simp only [List.set_cons_succ]
    try simp only [List.set_cons_zero]
    refine wpAnyU_takeY (i := 15) (v := ?_) rfl (by kernel_rfl) (by kernel_rfl) (by kernel_rfl) (by kernel_rfl) (fun _ _ _ h => h) (Or.inl ⟨by rfl, ?_⟩) (by assumption) ?_
    rotate_left
    · intro w _; go_simp; try with_reducible rfl
    try simp only [List.getElem_toArray]
    try simp only [List.getElem_cons_succ]
    try simp only [List.getElem_cons_zero]
    try simp only [Act.put]
    try simp only [List.setIfInBounds_toArray]
    try simp only [List.set_cons_succ]
    try simp only [List.set_cons_zero]
    refine wpAnyU_takeY (i := 16) (v := ?_) rfl (by kernel_rfl) (by kernel_rfl) (by kernel_rfl) (by kernel_rfl) (fun _ _ _ h => h) (Or.inl ⟨by rfl, ?_⟩) (by assumption) ?_
    rotate_left
    · intro w _; go_simp; try with_reducible rfl
    try simp only [List.getElem_toArray]
    try simp only [List.getElem_cons_succ]
    try simp only [List.getElem_cons_zero]
    try simp only [Act.put]
    try simp only [List.setIfInBounds_toArray]
    try simp only [List.set_cons_succ]
    try simp only [List.set_cons_zero]
    refine wpAnyU_takeY (i := 17) (v := ?_) rfl (by kernel_rfl) (by kernel_rfl) (by kernel_rfl) (by kernel_rfl) (fun _ _ _ h => h) (Or.inl ⟨by rfl, ?_⟩) (by assumption) ?_
    rotate_left
    · intro w _; go_simp; try with_reducible rfl
    try simp only [List.getElem_toArray]
    try simp only [List.getElem_cons_succ]
    try simp only [List.getElem_cons_zero]
    try simp only [Act.put]
    try simp only [List.setIfInBounds_toArray]
    try simp only [List.set_cons_succ]
    try simp only [List.set_cons_zero]
    refine wpAnyU_takeY (i := 18) (v := ?_) rfl (by kernel_rfl) (by kernel_rfl) (by kernel_rfl) (by kernel_rfl) (fun _ _ _ h => h) (Or.inl ⟨by rfl, ?_⟩) (by assumption) ?_
    rotate_left
    · intro w _; go_simp; try with_reducible rfl
    try simp only [List.getElem_toArray]
    try simp only [List.getElem_cons_succ]
    try simp only [List.getElem_cons_zero]
    try simp only [Act.put]
    try simp only [List.setIfInBounds_toArray]
    try simp only [List.set_cons_succ]
    try simp only [List.set_cons_zero]
    refine wpAnyU_take (i := 19) (v := ?_) rfl (by kernel_rfl) (by kernel_rfl) (by kernel_rfl) (by kernel_rfl) (by kernel_rfl) (by kernel_rfl) (fun _ _ _ h => h) (Or.inl ⟨by rfl, ?_⟩) (by assumption) ?_
    rotate_left
    · intro w hSw; obtain ⟨s1, s2, s3⟩ := hSw; go_simp; try with_reducible rfl
    try simp only [List.getElem_toArray]
    try simp only [List.getElem_cons_succ]
    try simp only [List.getElem_cons_zero]
    try simp only [Act.put]
    try simp only [List.setIfInBounds_toArray]
    try simp only [List.set_cons_succ]
    try simp only [List.set_cons_zero]
    refine wpAnyU_takeY (i := 20) (v := ?_) rfl (by kernel_rfl) (by kernel_rfl) (by kernel_rfl) (by kernel_rfl) (fun _ _ _ h => h) (Or.inl ⟨by rfl, ?_⟩) (by assumption) ?_
    rotate_left
    · intro w _; go_simp; try with_reducible rfl
    try simp only [List.getElem_toArray]
    try simp only [List.getElem_cons_succ]
    try simp only [List.getElem_cons_zero]
    try simp only [Act.put]
    try simp only [List.setIfInBounds_toArray]
    try simp only [List.set_cons_succ]
    try simp only [List.set_cons_zero]
    refine wpAnyU_takeY (i := 21) (v := ?_) rfl (by kernel_rfl) (by kernel_rfl) (by kernel_rfl) (by kernel_rfl) (fun _ _ _ h => h) (Or.inl ⟨by rfl, ?_⟩) (by assumption) ?_
    rotate_left
    · intro w _; go_simp; try with_reducible rfl
    try simp only [List.getElem_toArray]
    try simp only [List.getElem_cons_succ]
    try simp only [List.getElem_cons_zero]
    try simp only [Act.put]
    try simp only [List.setIfInBounds_toArray]
    try simp only [List.set_cons_succ]
    try simp only [List.set_cons_zero]
    refine wpAnyU_take (i := 22) (v := ?_) rfl (by kernel_rfl) (by kernel_rfl) (by kernel_rfl) (by kernel_rfl) (by kernel_rfl) (by kernel_rfl) (fun _ _ _ h => h) (Or.inl ⟨by rfl, ?_⟩) (by assumption) ?_
    rotate_left
    · intro w hSw; obtain ⟨s1, s2, s3⟩ := hSw; go_simp; try with_reducible rfl
    try simp only [List.getElem_toArray]
    try simp only [List.getElem_cons_succ]
    try simp only [List.getElem_cons_zero]
    try simp only [Act.put]
    try simp only [List.setIfInBounds_toArray]
    try simp only [List.set_cons_succ]
    try simp only [List.set_cons_zero]
    refine wpAnyU_take (i := 23) (v := ?_) rfl (by kernel_rfl) (by kernel_rfl) (by kernel_rfl) (by kernel_rfl) (by kernel_rfl) (by kernel_rfl) (fun _ _ _ h => h) (Or.inl ⟨by rfl, ?_⟩) (by assumption) ?_
    rotate_left
    · intro w hSw; obtain ⟨s1, s2, s3⟩ := hSw; go_simp; try with_reducible rfl
    try simp only [List.getElem_toArray]
    try simp only [List.getElem_cons_succ]
    try simp only [List.getElem_cons_zero]
    try simp only [Act.put]
    try simp only [List.setIfInBounds_toArray]
    try simp only [List.set_cons_succ]
    try simp only [List.set_cons_zero]
    refine wpAnyU_takeY (i := 24) (v := ?_) rfl (by kernel_rfl) (by kernel_rfl) (by kernel_rfl) (by kernel_rfl) (fun _ _ _ h => h) (Or.inl ⟨by rfl, ?_⟩) (by assumption) ?_
    rotate_left
    · intro w _; go_simp; try with_reducible rfl
    try simp only [List.getElem_toArray]
    try simp only [List.getElem_cons_succ]
    try simp only [List.getElem_cons_zero]
    try simp only [Act.put]
    try simp only [List.setIfInBounds_toArray]
    try simp only [List.set_cons_succ]
    try simp only [List.set_cons_zero]
    refine wpAnyU_takeY (i := 25) (v := ?_) rfl (by kernel_rfl) (by kernel_rfl) (by kernel_rfl) (by kernel_rfl) (fun _ _ _ h => h) (Or.inl ⟨by rfl, ?_⟩) (by assumption) ?_
    rotate_left
    · intro w _; go_simp; try with_reducible rfl
    try simp only [List.getElem_toArray]
    try simp only [List.getElem_cons_succ]
    try simp only [List.getElem_cons_zero]
    try simp only [Act.put]
    try simp only [List.setIfInBounds_toArray]
    try simp only [List.set_cons_succ]
    try simp only [List.set_cons_zero]
    refine wpAnyU_take (i := 26) (v := ?_) rfl (by kernel_rfl) (by kernel_rfl) (by kernel_rfl) (by kernel_rfl) (by kernel_rfl) (by kernel_rfl) (fun _ _ _ h => h) (Or.inl ⟨by rfl, ?_⟩) (by assumption) ?_
    rotate_left
    · intro w hSw; obtain ⟨s1, s2, s3⟩ := hSw; go_simp; try with_reducible rfl
    try simp only [List.getElem_toArray]
    try simp only [List.getElem_cons_succ]
    try simp only [List.getElem_cons_zero]
    try simp only [Act.put]
    try simp only [List.setIfInBounds_toArray]
    try simp only [List.set_cons_succ]
    try simp only [List.set_cons_zero]
    have HCm := Lib.hid (slCompare l1 l2 (.slice x1 n y1) (.slice x2 n y2) wG (Sa.sl' (HS1A.out.keep hkG.bel) n y1 HP1.out.1) (Sa.sl' (HS2A.out.keep hkG.bel) n y2 HP2.out.1) (by rw [HP1.out.1, HP2.out.1]) (by rw [HP1.out.1]; omega))
    refine wpAnyU_takeY (i := 29) (v := ?_) rfl (by kernel_rfl) (by kernel_rfl) (by kernel_rfl) (by kernel_rfl) (fun _ _ _ h => h) (Or.inl ⟨by rfl, ?_⟩) (by assumption) ?_
    rotate_left
    · intro w _; go_simp; try with_reducible rfl
    try simp only [List.getElem_toArray]
    try simp only [List.getElem_cons_succ]
    try simp only [List.getElem_cons_zero]
    try simp only [Act.put]
    try simp only [List.setIfInBounds_toArray]
    try simp only [List.set_cons_succ]
    try simp only [List.set_cons_zero]
    refine wpAnyU_takeY (i := 30) (v := ?_) rfl (by kernel_rfl) (by kernel_rfl) (by kernel_rfl) (by kernel_rfl) (fun _ _ _ h => h) (Or.inl ⟨by rfl, ?_⟩) (by assumption) ?_
    rotate_left
    · intro w _; go_simp; try with_reducible rfl
    try simp only [List.getElem_toArray]
    try simp only [List.getElem_cons_succ]
    try simp only [List.getElem_cons_zero]
    try simp only [Act.put]
    try simp only [List.setIfInBounds_toArray]
    try simp only [List.set_cons_succ]
    try simp only [List.set_cons_zero]
    refine wpAnyU_takeY (i := 31) (v := ?_) rfl (by kernel_rfl) (by kernel_rfl) (by kernel_rfl) (by kernel_rfl) (fun _ _ _ h => h) (Or.inl ⟨by rfl, ?_⟩) (by assumption) ?_
    rotate_left
    · intro w _; go_simp; try with_reducible rfl
    try simp only [List.getElem_toArray]
    try simp only [List.getElem_cons_succ]
    try simp only [List.getElem_cons_zero]
    try simp only [Act.put]
    try simp only [List.setIfInBounds_toArray]
    try simp only [List.set_cons_succ]
    try simp only [List.set_cons_zero]
    refine wpAnyU_ready (rs := [27]) (by kernel_rfl) (by simp) ?_
    refine AllReadyU.cons rfl (fun K hK => ?_) AllReadyU.nil
    go_simp
    refine HCm.out.mono ?_; rintro e w' ⟨rfl, rfl⟩
    refine hK.out _ _ (fun h => absurd h (by decide +kernel)) ?_
    clear hK K
    try simp only [List.getElem_toArray]
    try simp only [List.getElem_cons_succ]
    try simp only [List.getElem_cons_zero]
    try simp only [Act.put]
    try simp only [List.setIfInBounds_toArray]
    try simp only [List.set_cons_succ]
    try simp only [List.set_cons_zero]
    refine wpAnyU_takeW (i := 28) (v := ?_) rfl (by kernel_rfl) (by kernel_rfl) (by kernel_rfl) (by kernel_rfl) (fun _ _ _ h => h) (Or.inl ⟨by rfl, ?_⟩) ?_
    rotate_left
    · intro w _; go_simp; try with_reducible rfl
    try simp only [List.getElem_toArray]
    try simp only [List.getElem_cons_succ]
    try simp only [List.getElem_cons_zero]
    try simp only [Act.put]
    try simp only [List.setIfInBounds_toArray]
    try simp only [List.set_cons_succ]
    try simp only [List.set_cons_zero]
    refine wpAnyU_takeW (i := 32) (v := ?_) rfl (by kernel_rfl) (by kernel_rfl) (by kernel_rfl) (by kernel_rfl) (fun _ _ _ h => h) (Or.inl ⟨by rfl, ?_⟩) ?_
    rotate_left
    · intro w _; go_simp; try with_reducible rfl
    try simp only [List.getElem_toArray]
    try simp only [List.getElem_cons_succ]
    try simp only [List.getElem_cons_zero]
    try simp only [Act.put]
    try simp only [List.setIfInBounds_toArray]
    try simp only [List.set_cons_succ]
    try simp only [List.set_cons_zero]
    refine wpAnyU_takeW (i := 33) (v := ?_) rfl (by kernel_rfl) (by kernel_rfl) (by kernel_rfl) (by kernel_rfl) (fun _ _ _ h => h) (Or.inl ⟨by rfl, ?_⟩) ?_
    rotate_left
    · intro w _; go_simp; try with_reducible rfl
    try simp only [List.getElem_toArray]
    try simp only [List.getElem_cons_succ]
    try simp only [List.getElem_cons_zero]
    try simp only [Act.put]
    try simp only [List.setIfInBounds_toArray]
    try simp only [List.set_cons_succ]
    try simp only [List.set_cons_zero]
    refine wpAnyU_takeW (i := 34) (v := ?_) rfl (by kernel_rfl) (by kernel_rfl) (by kernel_rfl) (by kernel_rfl) (fun _ _ _ h => h) (Or.inl ⟨by rfl, ?_⟩) ?_
    rotate_left
    · intro w _; go_simp; try with_reducible rfl
    try simp only [List.getElem_toArray]
    try simp only [List.getElem_cons_succ]
    try simp only [List.getElem_cons_zero]
    try simp only [Act.put]
    try simp only [List.setIfInBounds_toArray]
    try simp only [List.set_cons_succ]
    try simp only [List.set_cons_zero]
    refine wpAnyU_takeW (i := 35) (v := ?_) rfl (by kernel_rfl) (by kernel_rfl) (by kernel_rfl) (by kernel_rfl) (fun _ _ _ h => h) (Or.inl ⟨by rfl, ?_⟩) ?_
    rotate_left
    · intro w _; go_simp; try with_reducible rfl
    try simp only [List.getElem_toArray]
    try simp only [List.getElem_cons_succ]
    try simp only [List.getElem_cons_zero]
    try simp only [Act.put]
    try simp only [List.setIfInBounds_toArray]
    try simp only [List.set_cons_succ]
    try simp only [List.set_cons_zero]
    refine wpAnyU_done (by kernel_rfl) ?_ _
    have HFG := Lib.hid (HFA.out.keep hkG.bel)
    clear hSd hSd2 hSd3 hSd4 hkB hkD hkE hkG hSB
    go_wp2_with fail
    go_ret
    exact ⟨by first | rfl | simp, HFG.out.bel⟩
end Go.Proofs.Ytdabgibmbmhmdaa
