/- The walk of HallWins. -/
import Derived.Test.YtfompfaepabpgaaDeedF
import Derived.Test.YtfompfaepabpgaaFGm
namespace Go.Proofs.Ytfompfaepabpgaa
open Go.RowKit Go.Maps

def NmsOk (s : HSt) : Prop := ∀ x ∈ nmsM s.M, x.size ≤ maxLen
theorem named_size {x : ByteArray} (h : namedB x = true) : x.size ≤ maxLen := by
  unfold namedB at h
  simp only [Bool.and_eq_true, decide_eq_true_eq] at h
  unfold maxLen; omega
set_option maxRecDepth 100000 in
set_option maxHeartbeats 16000000 in
theorem wins_row (a : Option Addr) (n cap : Nat) (w : World) (hrow : IsStr [.int, .int, .str, .str] w a n cap) (sz : n * 48 ≤ 140737488351232) :
    Calls Try.prog 6 #[.slice a n cap] w fun e w' => e = .returned (.bool true) ∧ Below w.heap.size w w' := by
  obtain ⟨D, hD⟩ := hrow.deeds
  have HD := Lib.hid hD
  clear hrow hD
  go_enter Try.func6, Try.ntmps6
  go_wp2_with fail
  refine (hallsOk w).mono ?_; rintro e w1 ⟨rfl, hb1⟩
  have HB1 := Lib.hid hb1
  clear hb1
  go_wp2_with fail
  refine (halNew w1).mono ?_; rintro e w2 ⟨H, rfl, hw2⟩
  obtain ⟨Bm, hBm⟩ : ∃ N, w2.heap.size = N := ⟨_, rfl⟩
  have HW2 := Lib.hid (hw2.newMap hBm)
  have HO2 := Lib.hid (OwnS.start w2)
  rw [hBm] at HO2
  clear hw2
  have hmm := @run_makeMap Try.prog
  go_wp2_with fail
  clear hmm
  go_loopw [17] (fun q wr => ∃ (k : Nat) (s : HSt) (xs : List Value) (M : DataW Unit) (mp : ByteArray → Int), k ≤ n ∧ q = .int .i64 k ∧ Hid (Hw w1 wr H s [eMap Bm xs]) ∧ Hid (OwnS Bm k M mp wr) ∧ Hid (HOk s k ∧ WinsOk s mp ∧ NmsOk s)) (fun q _ => n - (intOf q).toNat)
  case atStart => exact ⟨0, ⟨[], []⟩, _, _, _, by omega, rfl, HW2, HO2, Lib.hid ⟨hok0 0, (fun m hm => by cases hm), (fun x hx => by cases hx)⟩⟩
  case round =>
    obtain ⟨k, s, xs, M, mp, hk, rfl, HW, HO, HI⟩ := hrel
    by_cases hlt : k < n
    · obtain ⟨d, hd⟩ : ∃ d, D[k]? = some d := ⟨_, List.getElem?_eq_getElem (by rw [HD.out.len]; exact hlt)⟩
      obtain ⟨b, off, rfl, -, x1, x2, x3, x4⟩ := ((HD.out.below HB1.out).sa.keep HW.out.below).deedA k d hd
      obtain ⟨N, hN⟩ : ∃ N, wr.heap.size = N := ⟨_, rfl⟩
      have HA := Lib.hid (HW.out.newDeed d.k d.n d.nm d.to hN)
      have HNZ := Lib.hid (HD.out.nm d (List.mem_of_getElem? hd))
      have HCD := Lib.hid (halDo H s _ k d.k d.n d.nm d.to HA.out HI.out.1 (by omega) HNZ.out)
      have d1 : (0 : Int) ≤ (k : Int) := by omega
      have d2 : (k : Int) < (n : Int) := by omega
      clear hd
      go_wp2_with fail
      refine HCD.out.mono ?_; rintro e w4 ⟨rfl, hw4⟩
      have HOK' := Lib.hid (doS_ok HI.out.1 d.k d.n d.nm d.to)
      have HL := Lib.hid (fun he => wins_law HI.out.1 HI.out.2.1 d.k d.n d.nm d.to he)
      have HR := Lib.hid (fun he => doS_refused (s := s) (k := d.k) (n := d.n) (nm := d.nm) (to := d.to) he)
      have HNM : Hid (NmsOk (doS s d.k d.n d.nm d.to).s) := Lib.hid (fun x hx => by
        rcases doS_nms HI.out.1 _ _ _ _ _ hx with h | ⟨rfl, h⟩
        · exact HI.out.2.2 x h
        · exact named_size h)
      generalize doS s d.k d.n d.nm d.to = r at *
      obtain ⟨s', nm', n', er⟩ := r
      obtain ⟨N4, hN4⟩ : ∃ N, w4.heap.size = N := ⟨_, rfl⟩
      have HW4 := Lib.hid (Hw.newTold hw4 nm' n' hN4)
      have HO4 := Lib.hid (HO.out.keep (HW.out.mapKept HW4.out (b := Bm) (xs := xs) (by simp) (by simp)))
      obtain ⟨e0, e1, e2, e3, -⟩ := HW4.out.deed (N := N) (k := d.k) (n := d.n) (nm := d.nm) (to := d.to) (by simp)
      obtain ⟨p0, p1, -, -⟩ := HW4.out.told (N := N4) (nm := nm') (n := n') (by simp)
      simp only at HOK' HL HR HNM
      clear hw4 HCD HA x1 x2 x3 x4 HW HO
      by_cases he : er = 0
      · subst he
        obtain ⟨l1, l5, l6, lx⟩ := HL.out rfl
        by_cases k1 : d.k = 1
        · obtain ⟨hnm, hwin⟩ := l1 k1
          have HWIN := Lib.hid hwin
          have g1 : (d.k == 1) = true := by rw [k1]; rfl
          clear l1 l5 l6 lx hwin hnm
          go_wp2_with (at_mapUpdate; refine wpList_mapUpdate_own _ rfl _ _ _ 45 rfl 9 3 lawS Try.underlying45 _ Bm k M rfl HO4.out.own (by unfold maxLen; omega) _ _ _ rfl rfl (kyS_of HNZ.out) _ [] (plainElem_int Try.underlying3 (WalkArith.wf_i64 (by omega))) ?_; intro w5 hown5 hgrow5)
          have HO5 := HO4.out.put d.nm 0 hown5
          obtain ⟨ys, hw5⟩ := (HW4.out.perm (List.perm_middle (a := eMap Bm xs) (l₁ := [_, _]) (l₂ := []))).setMap rfl hgrow5 HO5.block
          exact ⟨⟨k + 1, s', ys, _, _, by omega, by simp, Lib.hid (hw5.sub (List.sublist_append_left [eMap Bm ys] _)), Lib.hid HO5, Lib.hid ⟨HOK'.out, HWIN.out, HNM.out⟩⟩, by simp only [intOf]; omega⟩
        · by_cases k57 : d.k = 5 ∨ d.k = 7
          · obtain ⟨hin, hin', hn, hwin⟩ := l5 k57
            have hz : nm'.size ≤ maxLen := HI.out.2.2 nm' hin
            have hlook := HO4.out.look hz
            obtain ⟨m0, hm0, hm1⟩ := List.mem_map.1 hin
            have hv : 0 ≤ mp nm' ∧ mp nm' ≤ k := by rw [← hm1, HI.out.2.1 m0 hm0]; exact HI.out.1.wn m0 hm0
            have HWIN := Lib.hid hwin
            have HZ := Lib.hid hz
            have HIN := Lib.hid hin'
            obtain ⟨V, hV⟩ : ∃ V, mp nm' = V := ⟨_, rfl⟩
            rw [hV] at hn hlook hv HWIN
            subst hn
            obtain ⟨v0, v1⟩ := hv
            have g1 : (d.k == 1) = false := by rw [beq_eq_false_iff_ne]; exact k1
            clear l1 l5 l6 lx hwin hin hin' hz hm0 hm1 hV HL HR
            rcases k57 with k5 | k7
            · skip
              have g5 : (d.k == 5) = true := by rw [k5]; rfl
              go_wp2_with (at_mapUpdate; refine wpList_mapUpdate_own _ rfl _ _ _ 45 rfl 9 3 lawS Try.underlying45 _ Bm k M rfl HO4.out.own (by unfold maxLen; omega) _ _ _ rfl rfl (kyS_of HZ.out) _ [] (plainElem_int Try.underlying3 (WalkArith.wf_i64 (by omega))) ?_; intro w5 hown5 hgrow5)
              have HO5 := Lib.hid (HO4.out.put nm' (V + 1) hown5)
              obtain ⟨ys, hw5⟩ := (HW4.out.perm (List.perm_middle (a := eMap Bm xs) (l₁ := [_, _]) (l₂ := []))).setMap rfl hgrow5 HO5.out.block
              have HW5 := Lib.hid hw5
              obtain ⟨q0, q1, -, -⟩ := hw5.told (N := N4) (nm := nm') (n := V + 1) (by simp)
              have hlk := (OwnS.keep (w' := w5.drew) HO5.out rfl).look HZ.out
              rw [show updB mp nm' (V + 1) nm' = V + 1 by unfold updB; rw [if_pos rfl]] at hlk
              have g9 : (V + 1 == V + 1) = true := beq_self_eq_true _
              have HN5 := Lib.hid (halNmW (hw5.drew) HOK'.out.l8)
              have HQ := Lib.hid (show (fun w' : World => w'.cell? ⟨N4, 0, .none⟩ = some (.string nm') ∧ w'.cell? ⟨N4, 1, .none⟩ = some (.int .i64 (V + 1)) ∧ (Instr.lookup 45 (.map (some Bm)) (.string nm') false).run Try.prog w' = .ok (.int .i64 (V + 1)) w') w5.drew from ⟨q0, q1, hlk⟩)
              clear hw5 hown5 hgrow5 hlook p0 p1 hlk
              dsimp only [Act.put]
              refine wp_region_U [12] (fun w' : World => w'.cell? ⟨N4, 0, .none⟩ = some (.string nm') ∧ w'.cell? ⟨N4, 1, .none⟩ = some (.int .i64 (V + 1)) ∧ (Instr.lookup 45 (.map (some Bm)) (.string nm') false).run Try.prog w' = .ok (.int .i64 (V + 1)) w') (by kernel_rfl) ?_
              have hSd : (fun w' : World => w'.cell? ⟨N4, 0, .none⟩ = some (.string nm') ∧ w'.cell? ⟨N4, 1, .none⟩ = some (.int .i64 (V + 1)) ∧ (Instr.lookup 45 (.map (some Bm)) (.string nm') false).run Try.prog w' = .ok (.int .i64 (V + 1)) w') w5.drew := HQ.out
              refine wpAnyU_takeY (i := 0) (v := ?_) rfl (by kernel_rfl) (by kernel_rfl) (by kernel_rfl) (by kernel_rfl) (fun _ _ _ h => h) (Or.inl ⟨by rfl, ?_⟩) (by assumption) ?_
              rotate_left
              · intro w _; go_simp; try with_reducible rfl
              try simp only [List.getElem_toArray]
              try simp only [List.getElem_cons_succ]
              try simp only [List.getElem_cons_zero]
              try simp only [Act.put]
              try simp only [List.setIfInBounds_toArray]
              try simp only [List.set_cons_succ]
              try simp only [List.set_cons_zero]
              refine wpAnyU_take (i := 1) (v := ?_) rfl (by kernel_rfl) (by kernel_rfl) (by kernel_rfl) (by kernel_rfl) (by kernel_rfl) (by kernel_rfl) (fun _ _ _ h => h) (Or.inl ⟨by rfl, ?_⟩) (by assumption) ?_
              rotate_left
              · intro w hSw; obtain ⟨s1, s2, s3⟩ := hSw; go_simp; try with_reducible rfl
              try simp only [List.getElem_toArray]
              try simp only [List.getElem_cons_succ]
              try simp only [List.getElem_cons_zero]
              try simp only [Act.put]
              try simp only [List.setIfInBounds_toArray]
              try simp only [List.set_cons_succ]
              try simp only [List.set_cons_zero]
              refine wpAnyU_takeY (i := 2) (v := ?_) rfl (by kernel_rfl) (by kernel_rfl) (by kernel_rfl) (by kernel_rfl) (fun _ _ _ h => h) (Or.inl ⟨by rfl, ?_⟩) (by assumption) ?_
              rotate_left
              · intro w _; go_simp; try with_reducible rfl
              try simp only [List.getElem_toArray]
              try simp only [List.getElem_cons_succ]
              try simp only [List.getElem_cons_zero]
              try simp only [Act.put]
              try simp only [List.setIfInBounds_toArray]
              try simp only [List.set_cons_succ]
              try simp only [List.set_cons_zero]
              refine wpAnyU_takeY (i := 3) (v := ?_) rfl (by kernel_rfl) (by kernel_rfl) (by kernel_rfl) (by kernel_rfl) (fun _ _ _ h => h) (Or.inl ⟨by rfl, ?_⟩) (by assumption) ?_
              rotate_left
              · intro w _; go_simp; try with_reducible rfl
              try simp only [List.getElem_toArray]
              try simp only [List.getElem_cons_succ]
              try simp only [List.getElem_cons_zero]
              try simp only [Act.put]
              try simp only [List.setIfInBounds_toArray]
              try simp only [List.set_cons_succ]
              try simp only [List.set_cons_zero]
              refine wpAnyU_take (i := 4) (v := ?_) rfl (by kernel_rfl) (by kernel_rfl) (by kernel_rfl) (by kernel_rfl) (by kernel_rfl) (by kernel_rfl) (fun _ _ _ h => h) (Or.inl ⟨by rfl, ?_⟩) (by assumption) ?_
              rotate_left
              · intro w hSw; obtain ⟨s1, s2, s3⟩ := hSw; go_simp; try with_reducible rfl
              try simp only [List.getElem_toArray]
              try simp only [List.getElem_cons_succ]
              try simp only [List.getElem_cons_zero]
              try simp only [Act.put]
              try simp only [List.setIfInBounds_toArray]
              try simp only [List.set_cons_succ]
              try simp only [List.set_cons_zero]
              refine wpAnyU_take (i := 5) (v := ?_) rfl (by kernel_rfl) (by kernel_rfl) (by kernel_rfl) (by kernel_rfl) (by kernel_rfl) (by kernel_rfl) (fun _ _ _ h => h) (Or.inl ⟨by rfl, ?_⟩) (by assumption) ?_
              rotate_left
              · intro w hSw; obtain ⟨s1, s2, s3⟩ := hSw; go_simp; try with_reducible rfl
              try simp only [List.getElem_toArray]
              try simp only [List.getElem_cons_succ]
              try simp only [List.getElem_cons_zero]
              try simp only [Act.put]
              try simp only [List.setIfInBounds_toArray]
              try simp only [List.set_cons_succ]
              try simp only [List.set_cons_zero]
              refine wpAnyU_takeY (i := 6) (v := ?_) rfl (by kernel_rfl) (by kernel_rfl) (by kernel_rfl) (by kernel_rfl) (fun _ _ _ h => h) (Or.inl ⟨by rfl, ?_⟩) (by assumption) ?_
              rotate_left
              · intro w _; go_simp; try with_reducible rfl
              try simp only [List.getElem_toArray]
              try simp only [List.getElem_cons_succ]
              try simp only [List.getElem_cons_zero]
              try simp only [Act.put]
              try simp only [List.setIfInBounds_toArray]
              try simp only [List.set_cons_succ]
              try simp only [List.set_cons_zero]
              refine wpAnyU_takeY (i := 7) (v := ?_) rfl (by kernel_rfl) (by kernel_rfl) (by kernel_rfl) (by kernel_rfl) (fun _ _ _ h => h) (Or.inl ⟨by rfl, ?_⟩) (by assumption) ?_
              rotate_left
              · intro w _; go_simp; try with_reducible rfl
              try simp only [List.getElem_toArray]
              try simp only [List.getElem_cons_succ]
              try simp only [List.getElem_cons_zero]
              try simp only [Act.put]
              try simp only [List.setIfInBounds_toArray]
              try simp only [List.set_cons_succ]
              try simp only [List.set_cons_zero]
              refine wpAnyU_takeY (i := 8) (v := ?_) rfl (by kernel_rfl) (by kernel_rfl) (by kernel_rfl) (by kernel_rfl) (fun _ _ _ h => h) (Or.inl ⟨by rfl, ?_⟩) (by assumption) ?_
              rotate_left
              · intro w _; go_simp; try with_reducible rfl
              try simp only [List.getElem_toArray]
              try simp only [List.getElem_cons_succ]
              try simp only [List.getElem_cons_zero]
              try simp only [Act.put]
              try simp only [List.setIfInBounds_toArray]
              try simp only [List.set_cons_succ]
              try simp only [List.set_cons_zero]
              refine wpAnyU_takeY (i := 10) (v := ?_) rfl (by kernel_rfl) (by kernel_rfl) (by kernel_rfl) (by kernel_rfl) (fun _ _ _ h => h) (Or.inl ⟨by rfl, ?_⟩) (by assumption) ?_
              rotate_left
              · intro w _; go_simp; try with_reducible rfl
              try simp only [List.getElem_toArray]
              try simp only [List.getElem_cons_succ]
              try simp only [List.getElem_cons_zero]
              try simp only [Act.put]
              try simp only [List.setIfInBounds_toArray]
              try simp only [List.set_cons_succ]
              try simp only [List.set_cons_zero]
              refine wpAnyU_take (i := 11) (v := ?_) rfl (by kernel_rfl) (by kernel_rfl) (by kernel_rfl) (by kernel_rfl) (by kernel_rfl) (by kernel_rfl) (fun _ _ _ h => h) (Or.inl ⟨by rfl, ?_⟩) (by assumption) ?_
              rotate_left
              · intro w hSw; obtain ⟨s1, s2, s3⟩ := hSw; go_simp; try with_reducible rfl
              try simp only [List.getElem_toArray]
              try simp only [List.getElem_cons_succ]
              try simp only [List.getElem_cons_zero]
              try simp only [Act.put]
              try simp only [List.setIfInBounds_toArray]
              try simp only [List.set_cons_succ]
              try simp only [List.set_cons_zero]
              refine wpAnyU_ready (rs := [9]) (by kernel_rfl) (by simp) ?_
              refine AllReadyU.cons rfl (fun K hK => ?_) AllReadyU.nil
              go_simp
              refine HN5.out.mono ?_; rintro e w6 ⟨ad, cp, rfl, hcp, hf6, hw6⟩
              have HF6 := Lib.hid hf6; have HW6 := Lib.hid hw6
              obtain ⟨r0, r1, -, -⟩ := hw6.told (N := N4) (nm := nm') (n := V + 1) (by simp)
              have hlk6 := (HO5.out.keep (HW5.out.mapKept hw6 (b := Bm) (xs := ys) (by simp) (by simp))).look HZ.out
              rw [show updB mp nm' (V + 1) nm' = V + 1 by unfold updB; rw [if_pos rfl]] at hlk6
              have HQ6 := Lib.hid (show (fun w' : World => w'.cell? ⟨N4, 0, .none⟩ = some (.string nm') ∧ w'.cell? ⟨N4, 1, .none⟩ = some (.int .i64 (V + 1)) ∧ (Instr.lookup 45 (.map (some Bm)) (.string nm') false).run Try.prog w' = .ok (.int .i64 (V + 1)) w') w6 from ⟨r0, r1, hlk6⟩)
              clear hf6 hw6 r0 r1 hlk6
              refine hK.out _ _ (fun _ => HQ6.out) ?_
              clear hK K
              try simp only [List.getElem_toArray]
              try simp only [List.getElem_cons_succ]
              try simp only [List.getElem_cons_zero]
              try simp only [Act.put]
              try simp only [List.setIfInBounds_toArray]
              try simp only [List.set_cons_succ]
              try simp only [List.set_cons_zero]
              refine wpAnyU_ready (rs := [12]) (by kernel_rfl) (by simp) ?_
              refine AllReadyU.cons rfl (fun K hK => ?_) AllReadyU.nil
              go_simp
              refine (slCoS (nmsM s'.M) s'.M.length ad cp nm' w6 (HF6.out.get 0 rfl) (by unfold nmsM; rw [List.length_map]) (by have := HOK'.out.l8; unfold maxLen; omega)).mono ?_; rintro e w7 ⟨bb, rfl, hbb, hf7⟩
              have hbt := hbb.2 HIN.out
              subst hbt
              have HW7 := Lib.hid (HW6.out.keep hf7.bel)
              clear hf7
              refine hK.out _ _ (fun h => absurd h (by decide +kernel)) ?_
              clear hK K
              try simp only [List.getElem_toArray]
              try simp only [List.getElem_cons_succ]
              try simp only [List.getElem_cons_zero]
              try simp only [Act.put]
              try simp only [List.setIfInBounds_toArray]
              try simp only [List.set_cons_succ]
              try simp only [List.set_cons_zero]
              refine wpAnyU_ready (rs := [13]) (by kernel_rfl) (by simp) ?_
              refine AllReadyU.cons rfl (fun K hK => ?_) AllReadyU.nil
              go_simp
              refine hK.out _ _ (fun h => absurd h (by decide +kernel)) ?_
              clear hK K
              try simp only [List.getElem_toArray]
              try simp only [List.getElem_cons_succ]
              try simp only [List.getElem_cons_zero]
              try simp only [Act.put]
              try simp only [List.setIfInBounds_toArray]
              try simp only [List.set_cons_succ]
              try simp only [List.set_cons_zero]
              refine wpAnyU_ready (rs := [14]) (by kernel_rfl) (by simp) ?_
              refine AllReadyU.cons rfl (fun K hK => ?_) AllReadyU.nil
              go_simp
              refine hK.out _ _ (fun h => absurd h (by decide +kernel)) ?_
              clear hK K
              try simp only [List.getElem_toArray]
              try simp only [List.getElem_cons_succ]
              try simp only [List.getElem_cons_zero]
              try simp only [Act.put]
              try simp only [List.setIfInBounds_toArray]
              try simp only [List.set_cons_succ]
              try simp only [List.set_cons_zero]
              refine wpAnyU_done (by kernel_rfl) ?_ _
              go_wp2_with fail
              have HO7 := HO5.out.keep (HW5.out.mapKept HW7.out (b := Bm) (xs := ys) (by simp) (by simp))
              exact ⟨⟨k + 1, s', ys, _, _, by omega, by simp, Lib.hid (HW7.out.sub (List.sublist_append_left [eMap Bm ys] _)), Lib.hid HO7, Lib.hid ⟨HOK'.out, HWIN.out, HNM.out⟩⟩, by simp only [intOf]; omega⟩
            · skip
              have g5 : (d.k == 5) = false := by rw [k7]; rfl
              have g7 : (d.k == 7) = true := by rw [k7]; rfl
              go_wp2_with (at_mapUpdate; refine wpList_mapUpdate_own _ rfl _ _ _ 45 rfl 9 3 lawS Try.underlying45 _ Bm k M rfl HO4.out.own (by unfold maxLen; omega) _ _ _ rfl rfl (kyS_of HZ.out) _ [] (plainElem_int Try.underlying3 (WalkArith.wf_i64 (by omega))) ?_; intro w5 hown5 hgrow5)
              have HO5 := Lib.hid (HO4.out.put nm' (V + 1) hown5)
              obtain ⟨ys, hw5⟩ := (HW4.out.perm (List.perm_middle (a := eMap Bm xs) (l₁ := [_, _]) (l₂ := []))).setMap rfl hgrow5 HO5.out.block
              have HW5 := Lib.hid hw5
              obtain ⟨q0, q1, -, -⟩ := hw5.told (N := N4) (nm := nm') (n := V + 1) (by simp)
              have hlk := (OwnS.keep (w' := w5.drew) HO5.out rfl).look HZ.out
              rw [show updB mp nm' (V + 1) nm' = V + 1 by unfold updB; rw [if_pos rfl]] at hlk
              have g9 : (V + 1 == V + 1) = true := beq_self_eq_true _
              have HN5 := Lib.hid (halNmW (hw5.drew) HOK'.out.l8)
              have HQ := Lib.hid (show (fun w' : World => w'.cell? ⟨N4, 0, .none⟩ = some (.string nm') ∧ w'.cell? ⟨N4, 1, .none⟩ = some (.int .i64 (V + 1)) ∧ (Instr.lookup 45 (.map (some Bm)) (.string nm') false).run Try.prog w' = .ok (.int .i64 (V + 1)) w') w5.drew from ⟨q0, q1, hlk⟩)
              clear hw5 hown5 hgrow5 hlook p0 p1 hlk
              dsimp only [Act.put]
              refine wp_region_U [12] (fun w' : World => w'.cell? ⟨N4, 0, .none⟩ = some (.string nm') ∧ w'.cell? ⟨N4, 1, .none⟩ = some (.int .i64 (V + 1)) ∧ (Instr.lookup 45 (.map (some Bm)) (.string nm') false).run Try.prog w' = .ok (.int .i64 (V + 1)) w') (by kernel_rfl) ?_
              have hSd : (fun w' : World => w'.cell? ⟨N4, 0, .none⟩ = some (.string nm') ∧ w'.cell? ⟨N4, 1, .none⟩ = some (.int .i64 (V + 1)) ∧ (Instr.lookup 45 (.map (some Bm)) (.string nm') false).run Try.prog w' = .ok (.int .i64 (V + 1)) w') w5.drew := HQ.out
              refine wpAnyU_takeY (i := 0) (v := ?_) rfl (by kernel_rfl) (by kernel_rfl) (by kernel_rfl) (by kernel_rfl) (fun _ _ _ h => h) (Or.inl ⟨by rfl, ?_⟩) (by assumption) ?_
              rotate_left
              · intro w _; go_simp; try with_reducible rfl
              try simp only [List.getElem_toArray]
              try simp only [List.getElem_cons_succ]
              try simp only [List.getElem_cons_zero]
              try simp only [Act.put]
              try simp only [List.setIfInBounds_toArray]
              try simp only [List.set_cons_succ]
              try simp only [List.set_cons_zero]
              refine wpAnyU_take (i := 1) (v := ?_) rfl (by kernel_rfl) (by kernel_rfl) (by kernel_rfl) (by kernel_rfl) (by kernel_rfl) (by kernel_rfl) (fun _ _ _ h => h) (Or.inl ⟨by rfl, ?_⟩) (by assumption) ?_
              rotate_left
              · intro w hSw; obtain ⟨s1, s2, s3⟩ := hSw; go_simp; try with_reducible rfl
              try simp only [List.getElem_toArray]
              try simp only [List.getElem_cons_succ]
              try simp only [List.getElem_cons_zero]
              try simp only [Act.put]
              try simp only [List.setIfInBounds_toArray]
              try simp only [List.set_cons_succ]
              try simp only [List.set_cons_zero]
              refine wpAnyU_takeY (i := 2) (v := ?_) rfl (by kernel_rfl) (by kernel_rfl) (by kernel_rfl) (by kernel_rfl) (fun _ _ _ h => h) (Or.inl ⟨by rfl, ?_⟩) (by assumption) ?_
              rotate_left
              · intro w _; go_simp; try with_reducible rfl
              try simp only [List.getElem_toArray]
              try simp only [List.getElem_cons_succ]
              try simp only [List.getElem_cons_zero]
              try simp only [Act.put]
              try simp only [List.setIfInBounds_toArray]
              try simp only [List.set_cons_succ]
              try simp only [List.set_cons_zero]
              refine wpAnyU_takeY (i := 3) (v := ?_) rfl (by kernel_rfl) (by kernel_rfl) (by kernel_rfl) (by kernel_rfl) (fun _ _ _ h => h) (Or.inl ⟨by rfl, ?_⟩) (by assumption) ?_
              rotate_left
              · intro w _; go_simp; try with_reducible rfl
              try simp only [List.getElem_toArray]
              try simp only [List.getElem_cons_succ]
              try simp only [List.getElem_cons_zero]
              try simp only [Act.put]
              try simp only [List.setIfInBounds_toArray]
              try simp only [List.set_cons_succ]
              try simp only [List.set_cons_zero]
              refine wpAnyU_take (i := 4) (v := ?_) rfl (by kernel_rfl) (by kernel_rfl) (by kernel_rfl) (by kernel_rfl) (by kernel_rfl) (by kernel_rfl) (fun _ _ _ h => h) (Or.inl ⟨by rfl, ?_⟩) (by assumption) ?_
              rotate_left
              · intro w hSw; obtain ⟨s1, s2, s3⟩ := hSw; go_simp; try with_reducible rfl
              try simp only [List.getElem_toArray]
              try simp only [List.getElem_cons_succ]
              try simp only [List.getElem_cons_zero]
              try simp only [Act.put]
              try simp only [List.setIfInBounds_toArray]
              try simp only [List.set_cons_succ]
              try simp only [List.set_cons_zero]
              refine wpAnyU_take (i := 5) (v := ?_) rfl (by kernel_rfl) (by kernel_rfl) (by kernel_rfl) (by kernel_rfl) (by kernel_rfl) (by kernel_rfl) (fun _ _ _ h => h) (Or.inl ⟨by rfl, ?_⟩) (by assumption) ?_
              rotate_left
              · intro w hSw; obtain ⟨s1, s2, s3⟩ := hSw; go_simp; try with_reducible rfl
              try simp only [List.getElem_toArray]
              try simp only [List.getElem_cons_succ]
              try simp only [List.getElem_cons_zero]
              try simp only [Act.put]
              try simp only [List.setIfInBounds_toArray]
              try simp only [List.set_cons_succ]
              try simp only [List.set_cons_zero]
              refine wpAnyU_takeY (i := 6) (v := ?_) rfl (by kernel_rfl) (by kernel_rfl) (by kernel_rfl) (by kernel_rfl) (fun _ _ _ h => h) (Or.inl ⟨by rfl, ?_⟩) (by assumption) ?_
              rotate_left
              · intro w _; go_simp; try with_reducible rfl
              try simp only [List.getElem_toArray]
              try simp only [List.getElem_cons_succ]
              try simp only [List.getElem_cons_zero]
              try simp only [Act.put]
              try simp only [List.setIfInBounds_toArray]
              try simp only [List.set_cons_succ]
              try simp only [List.set_cons_zero]
              refine wpAnyU_takeY (i := 7) (v := ?_) rfl (by kernel_rfl) (by kernel_rfl) (by kernel_rfl) (by kernel_rfl) (fun _ _ _ h => h) (Or.inl ⟨by rfl, ?_⟩) (by assumption) ?_
              rotate_left
              · intro w _; go_simp; try with_reducible rfl
              try simp only [List.getElem_toArray]
              try simp only [List.getElem_cons_succ]
              try simp only [List.getElem_cons_zero]
              try simp only [Act.put]
              try simp only [List.setIfInBounds_toArray]
              try simp only [List.set_cons_succ]
              try simp only [List.set_cons_zero]
              refine wpAnyU_takeY (i := 8) (v := ?_) rfl (by kernel_rfl) (by kernel_rfl) (by kernel_rfl) (by kernel_rfl) (fun _ _ _ h => h) (Or.inl ⟨by rfl, ?_⟩) (by assumption) ?_
              rotate_left
              · intro w _; go_simp; try with_reducible rfl
              try simp only [List.getElem_toArray]
              try simp only [List.getElem_cons_succ]
              try simp only [List.getElem_cons_zero]
              try simp only [Act.put]
              try simp only [List.setIfInBounds_toArray]
              try simp only [List.set_cons_succ]
              try simp only [List.set_cons_zero]
              refine wpAnyU_takeY (i := 10) (v := ?_) rfl (by kernel_rfl) (by kernel_rfl) (by kernel_rfl) (by kernel_rfl) (fun _ _ _ h => h) (Or.inl ⟨by rfl, ?_⟩) (by assumption) ?_
              rotate_left
              · intro w _; go_simp; try with_reducible rfl
              try simp only [List.getElem_toArray]
              try simp only [List.getElem_cons_succ]
              try simp only [List.getElem_cons_zero]
              try simp only [Act.put]
              try simp only [List.setIfInBounds_toArray]
              try simp only [List.set_cons_succ]
              try simp only [List.set_cons_zero]
              refine wpAnyU_take (i := 11) (v := ?_) rfl (by kernel_rfl) (by kernel_rfl) (by kernel_rfl) (by kernel_rfl) (by kernel_rfl) (by kernel_rfl) (fun _ _ _ h => h) (Or.inl ⟨by rfl, ?_⟩) (by assumption) ?_
              rotate_left
              · intro w hSw; obtain ⟨s1, s2, s3⟩ := hSw; go_simp; try with_reducible rfl
              try simp only [List.getElem_toArray]
              try simp only [List.getElem_cons_succ]
              try simp only [List.getElem_cons_zero]
              try simp only [Act.put]
              try simp only [List.setIfInBounds_toArray]
              try simp only [List.set_cons_succ]
              try simp only [List.set_cons_zero]
              refine wpAnyU_ready (rs := [9]) (by kernel_rfl) (by simp) ?_
              refine AllReadyU.cons rfl (fun K hK => ?_) AllReadyU.nil
              go_simp
              refine HN5.out.mono ?_; rintro e w6 ⟨ad, cp, rfl, hcp, hf6, hw6⟩
              have HF6 := Lib.hid hf6; have HW6 := Lib.hid hw6
              obtain ⟨r0, r1, -, -⟩ := hw6.told (N := N4) (nm := nm') (n := V + 1) (by simp)
              have hlk6 := (HO5.out.keep (HW5.out.mapKept hw6 (b := Bm) (xs := ys) (by simp) (by simp))).look HZ.out
              rw [show updB mp nm' (V + 1) nm' = V + 1 by unfold updB; rw [if_pos rfl]] at hlk6
              have HQ6 := Lib.hid (show (fun w' : World => w'.cell? ⟨N4, 0, .none⟩ = some (.string nm') ∧ w'.cell? ⟨N4, 1, .none⟩ = some (.int .i64 (V + 1)) ∧ (Instr.lookup 45 (.map (some Bm)) (.string nm') false).run Try.prog w' = .ok (.int .i64 (V + 1)) w') w6 from ⟨r0, r1, hlk6⟩)
              clear hf6 hw6 r0 r1 hlk6
              refine hK.out _ _ (fun _ => HQ6.out) ?_
              clear hK K
              try simp only [List.getElem_toArray]
              try simp only [List.getElem_cons_succ]
              try simp only [List.getElem_cons_zero]
              try simp only [Act.put]
              try simp only [List.setIfInBounds_toArray]
              try simp only [List.set_cons_succ]
              try simp only [List.set_cons_zero]
              refine wpAnyU_ready (rs := [12]) (by kernel_rfl) (by simp) ?_
              refine AllReadyU.cons rfl (fun K hK => ?_) AllReadyU.nil
              go_simp
              refine (slCoS (nmsM s'.M) s'.M.length ad cp nm' w6 (HF6.out.get 0 rfl) (by unfold nmsM; rw [List.length_map]) (by have := HOK'.out.l8; unfold maxLen; omega)).mono ?_; rintro e w7 ⟨bb, rfl, hbb, hf7⟩
              have hbt := hbb.2 HIN.out
              subst hbt
              have HW7 := Lib.hid (HW6.out.keep hf7.bel)
              clear hf7
              refine hK.out _ _ (fun h => absurd h (by decide +kernel)) ?_
              clear hK K
              try simp only [List.getElem_toArray]
              try simp only [List.getElem_cons_succ]
              try simp only [List.getElem_cons_zero]
              try simp only [Act.put]
              try simp only [List.setIfInBounds_toArray]
              try simp only [List.set_cons_succ]
              try simp only [List.set_cons_zero]
              refine wpAnyU_ready (rs := [13]) (by kernel_rfl) (by simp) ?_
              refine AllReadyU.cons rfl (fun K hK => ?_) AllReadyU.nil
              go_simp
              refine hK.out _ _ (fun h => absurd h (by decide +kernel)) ?_
              clear hK K
              try simp only [List.getElem_toArray]
              try simp only [List.getElem_cons_succ]
              try simp only [List.getElem_cons_zero]
              try simp only [Act.put]
              try simp only [List.setIfInBounds_toArray]
              try simp only [List.set_cons_succ]
              try simp only [List.set_cons_zero]
              refine wpAnyU_ready (rs := [14]) (by kernel_rfl) (by simp) ?_
              refine AllReadyU.cons rfl (fun K hK => ?_) AllReadyU.nil
              go_simp
              refine hK.out _ _ (fun h => absurd h (by decide +kernel)) ?_
              clear hK K
              try simp only [List.getElem_toArray]
              try simp only [List.getElem_cons_succ]
              try simp only [List.getElem_cons_zero]
              try simp only [Act.put]
              try simp only [List.setIfInBounds_toArray]
              try simp only [List.set_cons_succ]
              try simp only [List.set_cons_zero]
              refine wpAnyU_done (by kernel_rfl) ?_ _
              go_wp2_with fail
              have HO7 := HO5.out.keep (HW5.out.mapKept HW7.out (b := Bm) (xs := ys) (by simp) (by simp))
              exact ⟨⟨k + 1, s', ys, _, _, by omega, by simp, Lib.hid (HW7.out.sub (List.sublist_append_left [eMap Bm ys] _)), Lib.hid HO7, Lib.hid ⟨HOK'.out, HWIN.out, HNM.out⟩⟩, by simp only [intOf]; omega⟩
          · have g1 : (d.k == 1) = false := by rw [beq_eq_false_iff_ne]; exact k1
            have g5 : (d.k == 5) = false := by rw [beq_eq_false_iff_ne]; omega
            have g7 : (d.k == 7) = false := by rw [beq_eq_false_iff_ne]; omega
            have HWX := Lib.hid (lx k1 (by omega) (by omega))
            by_cases k6 : d.k = 6
            · obtain ⟨hin, hnm, hn⟩ := l6 k6
              subst hnm
              have g6 : (d.k == 6) = true := by rw [k6]; rfl
              have hlook := HO4.out.look HNZ.out
              obtain ⟨V, hV⟩ : ∃ V, mp d.nm = V := ⟨_, rfl⟩
              rw [hV] at hn hlook
              subst hn
              have g8 : (d.nm.toList == d.nm.toList) = true := beq_self_eq_true _
              have g9 : (n' == n') = true := beq_self_eq_true _
              clear l1 l5 l6 lx hin hV HL HR
              go_wp2_with fail
              exact ⟨⟨k + 1, s', xs, M, mp, by omega, by simp, Lib.hid (HW4.out.sub (List.sublist_append_right [_, _] [_])), Lib.hid (HO4.out.mono (by omega)), Lib.hid ⟨HOK'.out, HWX.out, HNM.out⟩⟩, by simp only [intOf]; omega⟩
            · have g6 : (d.k == 6) = false := by rw [beq_eq_false_iff_ne]; exact k6
              clear l1 l5 l6 lx HL HR
              go_wp2_with fail
              exact ⟨⟨k + 1, s', xs, M, mp, by omega, by simp, Lib.hid (HW4.out.sub (List.sublist_append_right [_, _] [_])), Lib.hid (HO4.out.mono (by omega)), Lib.hid ⟨HOK'.out, HWX.out, HNM.out⟩⟩, by simp only [intOf]; omega⟩
      · have z : (er != 0) = true := by rw [bne_iff_ne]; exact he
        have hs1 : s' = s := HR.out he
        subst hs1
        clear HL HR
        go_wp2_with fail
        exact ⟨⟨k + 1, s', xs, M, mp, by omega, by simp, Lib.hid (HW4.out.sub (List.sublist_append_right [_, _] [_])), Lib.hid (HO4.out.mono (by omega)), Lib.hid ⟨HOK'.out, HI.out.2.1, HI.out.2.2⟩⟩, by simp only [intOf]; omega⟩
    · obtain rfl : k = n := by omega
      go_wp2_with fail
      go_ret
      exact ⟨rfl, kin_trans HB1.out HW.out.below⟩
end Go.Proofs.Ytfompfaepabpgaa
