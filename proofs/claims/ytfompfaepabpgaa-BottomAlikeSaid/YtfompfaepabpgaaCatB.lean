/- slices.Concat of two slices of strings of any size that comes in. -/
import Derived.Test.YtfompfaepabpgaaCatS
import Derived.Test.YtfompfaepabpgaaCmpS
import Derived.ArgAppend
namespace Go.Proofs.Ytfompfaepabpgaa
open Go.RowKit

/-- a call's own slice, read further than its length -/
theorem Fr.wider {w0 w : World} {L : List Ent} {T : TypeId} {g n cap : Nat} {xs : List Value} (h : Fr w0 w (⟨T, .slice (some ⟨g, 0, .none⟩) n cap, xs⟩ :: L)) (m : Nat) (hm : n + m ≤ cap) :
    ∃ zs : List Value, zs.length = m ∧ Fr w0 w (⟨T, .slice (some ⟨g, 0, .none⟩) (n + m) cap, xs ++ zs⟩ :: L) := by
  have hO := h.os.own _ List.mem_cons_self
  obtain rfl := h.len
  unfold Ent.own World.ownsRow at hO
  simp only at hO
  obtain ⟨h1, h2⟩ := hO
  rcases h2 with ⟨h2, -⟩ | ⟨g', cap', cur, e, h3, h4, h5, h6, h7, h8⟩
  · cases h2
  · cases e
    have hlen : cur.toList.length = cap := by rw [Array.length_toList, h7, Nat.mul_one]
    have e1 : xs ++ (cur.toList.drop xs.length).take m = cur.toList.take (xs.length + m) := by
      rw [List.take_add, Nat.mul_one] at *
      rw [h8]
    have hz : ((cur.toList.drop xs.length).take m).length = m := by rw [List.length_take, List.length_drop, hlen]; omega
    refine ⟨(cur.toList.drop xs.length).take m, hz, h.bel, ⟨fun e he => ?_, ?_⟩⟩
    · rcases List.mem_cons.1 he with rfl | he
      · unfold Ent.own World.ownsRow
        simp only
        refine ⟨by rw [Nat.mul_one], .inr ⟨g, cap, cur, ?_, h3, h4, ?_, h6, h7, ?_⟩⟩
        · rw [List.length_append, hz]
        · rw [List.length_append, hz]; exact hm
        · rw [e1, Nat.mul_one, List.length_take, hlen, Nat.min_eq_left hm]
      · exact h.os.own e (List.mem_cons_of_mem _ he)
    · have hf := List.pairwise_cons.1 h.os.far
      exact List.pairwise_cons.2 ⟨fun b hb => hf.1 b hb, hf.2⟩
/-- append where there is room -/
theorem runFit (S T : TypeId) (i0 : TypeInfo) (hS : Try.prog.underlying S = some (.slice T)) (hi : Try.prog.info? T = some i0) (hsz : i0.size = 1)
    {w0 w : World} {L : List Ent} {g n cap : Nat} {xs : List Value} (hF : Fr w0 w (⟨T, .slice (some ⟨g, 0, .none⟩) n cap, xs⟩ :: L)) (sp : Option Addr) (m c : Nat) (ys : List Value) (hY : Sa w sp ys) (hm : ys.length = m) (hnone : sp = .none → c = 0 ∧ m = 0) (h1 : ∀ u ∈ ys, u.oneCell' = true) (hroom : n + m ≤ cap) :
    ∃ w', (∀ ty, (Builtin.append_ #[S, S] ty #[.slice (some ⟨g, 0, .none⟩) n cap, .slice sp m c]).run Try.prog w = .ok (.slice (some ⟨g, 0, .none⟩) (n + m) cap) w') ∧ Fr w0 w' (⟨T, .slice (some ⟨g, 0, .none⟩) (n + m) cap, xs ++ ys⟩ :: L) ∧ w.heap.size ≤ w'.heap.size := by
  obtain ⟨zs, hz, hW⟩ := hF.wider m hroom
  have hset := Fr.setCellsAtS ys xs w zs hW (by omega)
  have hxs := hF.len
  rw [← hxs] at hset
  have hnews : ∀ a, sp = some a → ∀ (j : Nat) u, ys[j]? = some u → w.cell? (a.add j) = some u := by
    rintro a rfl j u hj
    have hjl : j < ys.length := (List.getElem?_eq_some_iff.1 hj).1
    obtain ⟨b, off, e, _, hc⟩ := hY.at j hjl
    cases e
    rw [show ((⟨b, off, .none⟩ : Addr).add j) = ⟨b, off + j, .none⟩ from by unfold Addr.add; split <;> simp_all, hc, hj]
  have hsize : ∀ (vs : List Value) (w : World) (k : Nat), (w.setCells g k vs).heap.size = w.heap.size := by
    intro vs
    induction vs with
    | nil => intro w k; rfl
    | cons v vs ih =>
      intro w k
      rw [World.setCells, ih]
      unfold World.setCell
      split <;> simp
  cases sp with
  | none =>
    obtain ⟨rfl, rfl⟩ := hnone rfl
    obtain rfl := List.eq_nil_of_length_eq_zero hm
    refine ⟨w, fun ty => ?_, by simpa using hF, Nat.le_refl _⟩
    have hroom' : n ≤ cap := hroom
    simp [Builtin.append_, run_underlying hS, sizeOf, typeInfo, hi, Builtin.lenOf, Builtin.firstCells, hroom', storeCells]
  | some a =>
    have hrun := fun ty => run_append_room_cells (P := Try.prog) w S ty T i0 hS hi g 0 n cap a m c ys (by rw [hsz, hm, Nat.mul_one]) (hnews a rfl) h1 hroom (fun j hj => ?_) (fun j hj => ?_)
    · simp only [hsz, Nat.mul_one, Nat.zero_add] at hrun
      exact ⟨_, hrun, hset, Nat.le_of_eq (hsize _ _ _).symm⟩
    · obtain ⟨g', e, _, _, hc, hf⟩ := hW.open (by rw [List.length_append]; omega)
      cases e
      rw [hsz, Nat.mul_one, Nat.zero_add, hc (n + j) (by rw [List.length_append]; omega), List.getElem?_eq_getElem (by rw [List.length_append]; omega)]; rfl
    · obtain ⟨g', e, _, _, hc, hf⟩ := hW.open (by rw [List.length_append]; omega)
      cases e
      rw [hsz, Nat.mul_one, Nat.zero_add]; exact hf (n + j)
set_option maxRecDepth 100000 in
set_option maxHeartbeats 2000000 in
theorem growSB (n : Nat) (hn0 : 0 < n) (hn : n * 16 ≤ 281474976710656) (w : World) :
    Calls Try.prog 61 #[.slice none 0 0, .int .i64 n] w fun e w' => ∃ g cp, e = .returned (.slice (some ⟨g, 0, none⟩) 0 cp) ∧ n ≤ cp ∧ Fr w w' [⟨9, .slice (some ⟨g, 0, none⟩) 0 cp, []⟩] := by
  obtain ⟨i0, hi, hz0, hz1, hz2⟩ := info_parts strInfoC
  have h0 : n ≠ 0 := by omega
  · have hrz : ∀ ty, (Builtin.append_ #[42, 3] ty #[.slice none 0 0, .int .i64 (n : Int)]).run Try.prog w =
        .ok (.slice (some ⟨w.heap.size, 0, none⟩) n (grownCap w n 0 9)) (w.drew.alloc (.cells (([] : List Value).toArray ++ Builtin.zeroCells (Value.cells (.string ByteArray.empty)) n ++ Builtin.zeroCells (Value.cells (.string ByteArray.empty)) (grownCap w n 0 9 - n)) 9)) := fun ty => by
      have h := Lib.run_append_grow_zeros w 42 3 ty 9 i0 (.string ByteArray.empty) .i64 .i64 Try.underlying42 Try.underlying3 hi hz0 none 0 0 [] (by rw [hz1]; exact run_firstCells_none w.drew 1 0 0 0) n (by omega) (by omega) (by omega) (by omega)
        (by rw [hz2]; omega) (by rw [hz2, Nat.zero_add, nextslicecap_zero hn0]; omega)
      rw [Nat.zero_add] at h
      exact h
    have hGn : n ≤ grownCap w n 0 9 := grownCap_ge w _ _ _
    have hGm : grownCap w n 0 9 ≤ maxLen := grownCap_le_maxLen w n 0 9 (by unfold maxLen; omega)
    have hsz : (([] : List Value).toArray ++ Builtin.zeroCells (Value.cells (.string ByteArray.empty)) n ++ Builtin.zeroCells (Value.cells (.string ByteArray.empty)) (grownCap w n 0 9 - n)).size = grownCap w n 0 9 := by
      simp [Builtin.zeroCells, Value.cells]; omega
    obtain ⟨G, hG⟩ : ∃ G, G = grownCap w n 0 9 := ⟨_, rfl⟩
    rw [← hG] at hrz hGn hGm hsz
    have F1 := (Fr.start w).room 9 _ G hsz hGm
    have HF := Lib.hid F1
    unfold maxLen at hGm
    obtain ⟨cs, hcs⟩ : ∃ cs, (([] : List Value).toArray ++ Builtin.zeroCells (Value.cells (.string ByteArray.empty)) n ++ Builtin.zeroCells (Value.cells (.string ByteArray.empty)) (G - n)) = cs := ⟨_, rfl⟩
    rw [hcs] at hrz HF
    clear hi hz0 hz1 hz2 hsz F1 hG hcs
    have g0 : (G == 0) = false := by rw [beq_eq_false_iff_ne]; omega
    have g1 : G ≠ 0 := by omega
    go_enter Try.func61, Try.ntmps61
    go_wp2_with (at_builtin; refine Lib.wpList_append_run _ rfl _ _ _ _ rfl _ _ rfl rfl _ _ (hrz _) ?_)
    go_ret
    exact ⟨_, _, rfl, hGn, HF.out⟩

set_option maxRecDepth 100000 in
set_option maxHeartbeats 4000000 in
theorem catSB (xs ys : List Value) (n m : Nat) (a b : Option Addr) (ca cb : Nat) (g : Nat) (w : World) (h : Sa w a xs) (h' : Sa w b ys) (hn : xs.length = n) (hm : ys.length = m)
    (h1 : ∀ v ∈ xs, v.oneCell' = true) (h2 : ∀ v ∈ ys, v.oneCell' = true) (na : a = none → ca = 0 ∧ n = 0) (nb : b = none → cb = 0 ∧ m = 0) (hl0 : 0 < n + m) (hl : (n + m) * 16 ≤ 281474976710656)
    (hg : g < w.heap.size) (c0 : w.cell? ⟨g, 0, none⟩ = some (.slice a n ca)) (c1 : w.cell? ⟨g, 1, none⟩ = some (.slice b m cb)) :
    Calls Try.prog 28 #[.slice (some ⟨g, 0, none⟩) 2 2] w fun e w' => ∃ ad cp, e = .returned (.slice ad (n + m) cp) ∧ Fr w w' [⟨9, .slice ad (n + m) cp, xs ++ ys⟩] := by
  have HN := Lib.hid hn; have HM := Lib.hid hm; have HA := Lib.hid h; have HB := Lib.hid h'; have H1 := Lib.hid h1; have H2 := Lib.hid h2; have NA := Lib.hid na; have NB := Lib.hid nb
  have C0 := Lib.hid c0; have C1 := Lib.hid c1
  obtain ⟨i0, hi, -, hz1, -⟩ := info_parts strInfoC
  have hi := Lib.hid hi; have hz1 := Lib.hid hz1
  clear hn hm h h' h1 h2 na nb
  go_enter Try.func28, Try.ntmps28
  go_wp2_with fail
  go_loop [3, 11] (fun s i => (s = .int .i64 0 ∧ i = .int .i64 0) ∨ (s = .int .i64 n ∧ i = .int .i64 1) ∨ (s = .int .i64 ((n : Int) + (m : Int)) ∧ i = .int .i64 2)) (fun _ i => 2 - (intOf i).toNat)
  case atStart => exact .inl ⟨rfl, rfl⟩
  case round =>
    rcases hrel with ⟨rfl, rfl⟩ | ⟨rfl, rfl⟩ | ⟨rfl, rfl⟩
    · go_wp2_with fail
      exact ⟨.inr (.inl ⟨by simp, by simp⟩), by decide⟩
    · go_wp2_with fail
      exact ⟨.inr (.inr ⟨by simp, by simp⟩), by decide⟩
    · go_wp2_with fail
      rw [show (n : Int) + (m : Int) = ((n + m : Nat) : Int) from by simp]
      refine (growSB (n + m) hl0 hl _).mono ?_; rintro e w1 ⟨G, cp, rfl, hcp, hf⟩
      have hc0 := (hf.bel.cell (p := ⟨g, 0, none⟩) hg).trans C0.out
      have hc1 := (hf.bel.cell (p := ⟨g, 1, none⟩) hg).trans C1.out
      have HF := Lib.hid hf
      have HG0 := Lib.hid hc0; have HG1 := Lib.hid hc1
      clear hf hc0 hc1 c0 c1
      go_wp2_with fail
      go_loopw [6, 27] (fun o i wr => (i = .int .i64 0 ∧ o = .slice (some ⟨G, 0, none⟩) 0 cp ∧ Fr w wr [⟨9, .slice (some ⟨G, 0, none⟩) 0 cp, []⟩]) ∨ (i = .int .i64 1 ∧ o = .slice (some ⟨G, 0, none⟩) n cp ∧ Fr w wr [⟨9, .slice (some ⟨G, 0, none⟩) n cp, xs⟩]) ∨ (i = .int .i64 2 ∧ o = .slice (some ⟨G, 0, none⟩) (n + m) cp ∧ Fr w wr [⟨9, .slice (some ⟨G, 0, none⟩) (n + m) cp, xs ++ ys⟩])) (fun _ i _ => 2 - (intOf i).toNat)
      case atStart => exact .inl ⟨rfl, rfl, HF.out⟩
      case round =>
        rcases hrel with ⟨rfl, rfl, hfr⟩ | ⟨rfl, rfl, hfr⟩ | ⟨rfl, rfl, hfr⟩
        · have hc0 := (hfr.bel.cell (p := ⟨g, 0, none⟩) hg).trans C0.out
          obtain ⟨w2, hrun, hf2, -⟩ := runFit 42 9 i0 Try.underlying42 hi.out hz1.out hfr a n ca xs (hfr.old HA.out) HN.out NA.out H1.out (by omega)
          simp only [Nat.zero_add, List.nil_append] at hrun hf2
          have HF2 := Lib.hid hf2
          have HRun := Lib.hid hrun
          clear hf2 hrun hfr
          go_wp2_with (with_reducible refine at_slot 33 ?_; go_must (refine Lib.wpList_append_run _ rfl (.tmp 31) (.tmp 32) 42 42 rfl _ _ rfl rfl _ _ (HRun.out _) ?_))
          exact ⟨.inr (.inl ⟨by simp, rfl, HF2.out⟩), by decide⟩
        · have hc1 := (hfr.bel.cell (p := ⟨g, 1, none⟩) hg).trans C1.out
          obtain ⟨w2, hrun, hf2, -⟩ := runFit 42 9 i0 Try.underlying42 hi.out hz1.out hfr b m cb ys (hfr.old HB.out) HM.out NB.out H2.out (by omega)
          have HF2 := Lib.hid hf2
          have HRun := Lib.hid hrun
          clear hf2 hrun hfr
          go_wp2_with (with_reducible refine at_slot 33 ?_; go_must (refine Lib.wpList_append_run _ rfl (.tmp 31) (.tmp 32) 42 42 rfl _ _ rfl rfl _ _ (HRun.out _) ?_))
          exact ⟨.inr (.inr ⟨by simp, rfl, HF2.out⟩), by decide⟩
        · go_wp2_with fail
          go_ret
          exact ⟨_, cp, rfl, hfr⟩
end Go.Proofs.Ytfompfaepabpgaa
