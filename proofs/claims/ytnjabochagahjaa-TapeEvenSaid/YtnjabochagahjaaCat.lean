/- slices.Grow of nil and slices.Concat of two slices, for bytes and for ints. -/
import Derived.Test.YtnjabochagahjaaArr4
import Derived.Lib.AppendZerosOnto
namespace Go.Proofs.Ytnjabochagahjaa
open Go.RowKit

theorem Fr.room {w0 w : World} {L : List Ent} (h : Fr w0 w L) (T : TypeId) (cs : Array Value) (G : Nat) (hG : cs.size = G) (hm : G ≤ maxLen) :
    Fr w0 (w.drew.alloc (.cells cs T)) (⟨T, .slice (some ⟨w.heap.size, 0, .none⟩) 0 G, []⟩ :: L) := by
  have ha := h.drew.alloc (.cells cs T)
  have hb := h.bel.size
  refine ⟨ha.bel, ⟨fun e he => ?_, List.pairwise_cons.2 ⟨fun b hb => .inr ?_, h.os.far⟩⟩⟩
  · rcases List.mem_cons.1 he with rfl | he
    · refine ⟨by simp, .inr ⟨w.heap.size, G, cs, rfl, hb, ?_, by simp, hm, by simpa using hG, by simp⟩⟩
      show (w.drew.heap.push _)[w.heap.size]? = _
      exact Array.getElem?_push_size
    · exact ha.os.own e he
  · intro e
    have := (Ent.own.lt (h.os.own b hb) _ e.symm).2
    simp only at this
    omega
theorem u8Info : (Try.prog.info? 5).map (fun i => (i.zero, i.size, i.bytes)) = some (some (.int .u8 0), 1, 1) := by kernel_rfl

set_option maxRecDepth 100000 in
set_option maxHeartbeats 2000000 in
theorem growB (n : Nat) (hn : n ≤ 1000000) (w : World) :
    Calls Try.prog 45 #[.slice none 0 0, .int .i64 n] w fun e w' => ∃ ad cp, e = .returned (.slice ad 0 cp) ∧ Fr w w' [⟨5, .slice ad 0 cp, []⟩] := by
  obtain ⟨i0, hi, hz0, hz1, hz2⟩ := info_parts u8Info
  by_cases h0 : n = 0
  · subst h0
    clear hi hz0 hz1 hz2
    go_enter Try.func45, Try.ntmps45
    go_wp2_with fail
    go_ret
    exact ⟨_, _, rfl, (Fr.start w).nilSlice _⟩
  · have hrz : ∀ ty, (Builtin.append_ #[28, 3] ty #[.slice none 0 0, .int .i64 (n : Int)]).run Try.prog w =
        .ok (.slice (some ⟨w.heap.size, 0, none⟩) n (grownCap w n 0 5)) (w.drew.alloc (.cells (([] : List Value).toArray ++ Builtin.zeroCells (Value.cells (.int .u8 0)) n ++ Builtin.zeroCells (Value.cells (.int .u8 0)) (grownCap w n 0 5 - n)) 5)) := fun ty => by
      have h := Lib.run_append_grow_zeros w 28 3 ty 5 i0 (.int .u8 0) .i64 .i64 Try.underlying28 Try.underlying3 hi hz0 none 0 0 [] (by rw [hz1]; exact run_firstCells_none w.drew 1 0 0 0) n (by omega) (by omega) (by omega) (by omega)
        (by rw [hz2]; omega) (growslice_fits (by omega) (by rw [hz2]; omega))
      rw [Nat.zero_add] at h
      exact h
    have hGn : n ≤ grownCap w n 0 5 := grownCap_ge w _ _ _
    have hGm : grownCap w n 0 5 ≤ maxLen := grownCap_le_maxLen w n 0 5 (by unfold maxLen; omega)
    have hsz : (([] : List Value).toArray ++ Builtin.zeroCells (Value.cells (.int .u8 0)) n ++ Builtin.zeroCells (Value.cells (.int .u8 0)) (grownCap w n 0 5 - n)).size = grownCap w n 0 5 := by
      simp [Builtin.zeroCells, Value.cells]; omega
    obtain ⟨G, hG⟩ : ∃ G, G = grownCap w n 0 5 := ⟨_, rfl⟩
    rw [← hG] at hrz hGn hGm hsz
    have F1 := (Fr.start w).room 5 _ G hsz hGm
    have HF := Lib.hid F1
    unfold maxLen at hGm
    obtain ⟨cs, hcs⟩ : ∃ cs, (([] : List Value).toArray ++ Builtin.zeroCells (Value.cells (.int .u8 0)) n ++ Builtin.zeroCells (Value.cells (.int .u8 0)) (G - n)) = cs := ⟨_, rfl⟩
    rw [hcs] at hrz HF
    clear hi hz0 hz1 hz2 hsz F1 hG hcs
    have g0 : (G == 0) = false := by rw [beq_eq_false_iff_ne]; omega
    have g1 : G ≠ 0 := by omega
    go_enter Try.func45, Try.ntmps45
    go_wp2_with (at_builtin; refine Lib.wpList_append_run _ rfl _ _ _ _ rfl _ _ rfl rfl _ _ (hrz _) ?_)
    go_ret
    exact ⟨_, _, rfl, HF.out⟩

set_option maxRecDepth 100000 in
set_option maxHeartbeats 4000000 in
theorem catB (xs ys : List Value) (n m : Nat) (a b : Option Addr) (ca cb : Nat) (g : Nat) (w : World) (h : Sa w a xs) (h' : Sa w b ys) (hn : xs.length = n) (hm : ys.length = m)
    (h1 : ∀ v ∈ xs, v.oneCell' = true) (h2 : ∀ v ∈ ys, v.oneCell' = true) (na : a = none → ca = 0 ∧ n = 0) (nb : b = none → cb = 0 ∧ m = 0) (hl : n + m ≤ 1000000)
    (hg : g < w.heap.size) (c0 : w.cell? ⟨g, 0, none⟩ = some (.slice a n ca)) (c1 : w.cell? ⟨g, 1, none⟩ = some (.slice b m cb)) :
    Calls Try.prog 22 #[.slice (some ⟨g, 0, none⟩) 2 2] w fun e w' => ∃ ad cp, e = .returned (.slice ad (n + m) cp) ∧ Fr w w' [⟨5, .slice ad (n + m) cp, xs ++ ys⟩] := by
  have HN := Lib.hid hn; have HM := Lib.hid hm; have HA := Lib.hid h; have HB := Lib.hid h'; have H1 := Lib.hid h1; have H2 := Lib.hid h2; have NA := Lib.hid na; have NB := Lib.hid nb
  have C0 := Lib.hid c0; have C1 := Lib.hid c1
  clear hn hm h h' h1 h2 na nb
  go_enter Try.func22, Try.ntmps22
  go_wp2_with fail
  go_loop [3, 11] (fun s i => (s = .int .i64 0 ∧ i = .int .i64 0) ∨ (s = .int .i64 n ∧ i = .int .i64 1) ∨ (s = .int .i64 ((n : Int) + (m : Int)) ∧ i = .int .i64 2)) (fun _ i => 2 - (intOf i).toNat)
  case atStart => exact .inl ⟨rfl, rfl⟩
  case round =>
    rcases hrel with ⟨rfl, rfl⟩ | ⟨rfl, rfl⟩ | ⟨rfl, rfl⟩
    · go_wp2_with fail
      exact ⟨.inr (.inl ⟨by simp, by simp⟩), by decide⟩
    · go_wp2_with fail
      exact ⟨.inr (.inr ⟨by simp, by simp⟩), by decide⟩
    · go_wp2_with fail
      rw [show (n : Int) + (m : Int) = ((n + m : Nat) : Int) from by simp]
      refine (growB (n + m) hl _).mono ?_; rintro e w1 ⟨ad, cp, rfl, hf⟩
      have hc0 := (hf.bel.cell (p := ⟨g, 0, none⟩) hg).trans C0.out
      have hc1 := (hf.bel.cell (p := ⟨g, 1, none⟩) hg).trans C1.out
      have HF := Lib.hid hf
      have HG0 := Lib.hid hc0; have HG1 := Lib.hid hc1
      clear hf hc0 hc1 c0 c1
      go_wp2_with fail
      go_loopw [6, 27] (fun o i wr => (i = .int .i64 0 ∧ (∃ ad cp, o = .slice ad 0 cp ∧ Fr w wr [⟨5, .slice ad 0 cp, []⟩])) ∨ (i = .int .i64 1 ∧ (∃ ad cp, o = .slice ad n cp ∧ Fr w wr [⟨5, .slice ad n cp, xs⟩])) ∨ (i = .int .i64 2 ∧ (∃ ad cp, o = .slice ad (n + m) cp ∧ Fr w wr [⟨5, .slice ad (n + m) cp, xs ++ ys⟩]))) (fun _ i _ => 2 - (intOf i).toNat)
      case atStart => exact .inl ⟨rfl, ad, cp, rfl, HF.out⟩
      case round =>
        rcases hrel with ⟨rfl, ad, cp, rfl, hfr⟩ | ⟨rfl, ad, cp, rfl, hfr⟩ | ⟨rfl, ad, cp, rfl, hfr⟩
        · have hc0 := (hfr.bel.cell (p := ⟨g, 0, none⟩) hg).trans C0.out
          have HF := Lib.hid hfr; have HX := Lib.hid (hfr.old HA.out)
          clear hfr
          go_wp2_with (with_reducible refine at_slot 33 ?_; go_must (refine wpList_pushAll rfl (.tmp 31) (.tmp 32) 28 5 (.int .u8 0) 1 Try.underlying28 u8Info rfl (by omega) rfl ad a 0 cp n ca [] xs [] rfl HF.out rfl HX.out HN.out NA.out H1.out (by omega) ?_); intro ad2 cp2 w2 hf2 hsz2)
          rw [Nat.zero_add] at hf2
          exact ⟨.inr (.inl ⟨by simp, ad2, cp2, rfl, hf2⟩), by decide⟩
        · have hc1 := (hfr.bel.cell (p := ⟨g, 1, none⟩) hg).trans C1.out
          have HF := Lib.hid hfr; have HX := Lib.hid (hfr.old HB.out)
          clear hfr
          go_wp2_with (with_reducible refine at_slot 33 ?_; go_must (refine wpList_pushAll rfl (.tmp 31) (.tmp 32) 28 5 (.int .u8 0) 1 Try.underlying28 u8Info rfl (by omega) rfl ad b n cp m cb xs ys [] rfl HF.out rfl HX.out HM.out NB.out H2.out (by omega) ?_); intro ad2 cp2 w2 hf2 hsz2)
          exact ⟨.inr (.inr ⟨by simp, ad2, cp2, rfl, hf2⟩), by decide⟩
        · go_wp2_with fail
          go_ret
          exact ⟨ad, cp, rfl, hfr⟩

set_option maxRecDepth 100000 in
set_option maxHeartbeats 2000000 in
theorem growI (n : Nat) (hn : n ≤ 1000000) (w : World) :
    Calls Try.prog 46 #[.slice none 0 0, .int .i64 n] w fun e w' => ∃ ad cp, e = .returned (.slice ad 0 cp) ∧ Fr w w' [⟨3, .slice ad 0 cp, []⟩] := by
  obtain ⟨i0, hi, hz0, hz1, hz2⟩ := info_parts intInfo
  by_cases h0 : n = 0
  · subst h0
    clear hi hz0 hz1 hz2
    go_enter Try.func46, Try.ntmps46
    go_wp2_with fail
    go_ret
    exact ⟨_, _, rfl, (Fr.start w).nilSlice _⟩
  · have hrz : ∀ ty, (Builtin.append_ #[27, 3] ty #[.slice none 0 0, .int .i64 (n : Int)]).run Try.prog w =
        .ok (.slice (some ⟨w.heap.size, 0, none⟩) n (grownCap w n 0 3)) (w.drew.alloc (.cells (([] : List Value).toArray ++ Builtin.zeroCells (Value.cells (.int .i64 0)) n ++ Builtin.zeroCells (Value.cells (.int .i64 0)) (grownCap w n 0 3 - n)) 3)) := fun ty => by
      have h := Lib.run_append_grow_zeros w 27 3 ty 3 i0 (.int .i64 0) .i64 .i64 Try.underlying27 Try.underlying3 hi hz0 none 0 0 [] (by rw [hz1]; exact run_firstCells_none w.drew 1 0 0 0) n (by omega) (by omega) (by omega) (by omega)
        (by rw [hz2]; omega) (growslice_fits (by omega) (by rw [hz2]; omega))
      rw [Nat.zero_add] at h
      exact h
    have hGn : n ≤ grownCap w n 0 3 := grownCap_ge w _ _ _
    have hGm : grownCap w n 0 3 ≤ maxLen := grownCap_le_maxLen w n 0 3 (by unfold maxLen; omega)
    have hsz : (([] : List Value).toArray ++ Builtin.zeroCells (Value.cells (.int .i64 0)) n ++ Builtin.zeroCells (Value.cells (.int .i64 0)) (grownCap w n 0 3 - n)).size = grownCap w n 0 3 := by
      simp [Builtin.zeroCells, Value.cells]; omega
    obtain ⟨G, hG⟩ : ∃ G, G = grownCap w n 0 3 := ⟨_, rfl⟩
    rw [← hG] at hrz hGn hGm hsz
    have F1 := (Fr.start w).room 3 _ G hsz hGm
    have HF := Lib.hid F1
    unfold maxLen at hGm
    obtain ⟨cs, hcs⟩ : ∃ cs, (([] : List Value).toArray ++ Builtin.zeroCells (Value.cells (.int .i64 0)) n ++ Builtin.zeroCells (Value.cells (.int .i64 0)) (G - n)) = cs := ⟨_, rfl⟩
    rw [hcs] at hrz HF
    clear hi hz0 hz1 hz2 hsz F1 hG hcs
    have g0 : (G == 0) = false := by rw [beq_eq_false_iff_ne]; omega
    have g1 : G ≠ 0 := by omega
    go_enter Try.func46, Try.ntmps46
    go_wp2_with (at_builtin; refine Lib.wpList_append_run _ rfl _ _ _ _ rfl _ _ rfl rfl _ _ (hrz _) ?_)
    go_ret
    exact ⟨_, _, rfl, HF.out⟩

set_option maxRecDepth 100000 in
set_option maxHeartbeats 4000000 in
theorem catI (xs ys : List Value) (n m : Nat) (a b : Option Addr) (ca cb : Nat) (g : Nat) (w : World) (h : Sa w a xs) (h' : Sa w b ys) (hn : xs.length = n) (hm : ys.length = m)
    (h1 : ∀ v ∈ xs, v.oneCell' = true) (h2 : ∀ v ∈ ys, v.oneCell' = true) (na : a = none → ca = 0 ∧ n = 0) (nb : b = none → cb = 0 ∧ m = 0) (hl : n + m ≤ 1000000)
    (hg : g < w.heap.size) (c0 : w.cell? ⟨g, 0, none⟩ = some (.slice a n ca)) (c1 : w.cell? ⟨g, 1, none⟩ = some (.slice b m cb)) :
    Calls Try.prog 25 #[.slice (some ⟨g, 0, none⟩) 2 2] w fun e w' => ∃ ad cp, e = .returned (.slice ad (n + m) cp) ∧ Fr w w' [⟨3, .slice ad (n + m) cp, xs ++ ys⟩] := by
  have HN := Lib.hid hn; have HM := Lib.hid hm; have HA := Lib.hid h; have HB := Lib.hid h'; have H1 := Lib.hid h1; have H2 := Lib.hid h2; have NA := Lib.hid na; have NB := Lib.hid nb
  have C0 := Lib.hid c0; have C1 := Lib.hid c1
  clear hn hm h h' h1 h2 na nb
  go_enter Try.func25, Try.ntmps25
  go_wp2_with fail
  go_loop [3, 11] (fun s i => (s = .int .i64 0 ∧ i = .int .i64 0) ∨ (s = .int .i64 n ∧ i = .int .i64 1) ∨ (s = .int .i64 ((n : Int) + (m : Int)) ∧ i = .int .i64 2)) (fun _ i => 2 - (intOf i).toNat)
  case atStart => exact .inl ⟨rfl, rfl⟩
  case round =>
    rcases hrel with ⟨rfl, rfl⟩ | ⟨rfl, rfl⟩ | ⟨rfl, rfl⟩
    · go_wp2_with fail
      exact ⟨.inr (.inl ⟨by simp, by simp⟩), by decide⟩
    · go_wp2_with fail
      exact ⟨.inr (.inr ⟨by simp, by simp⟩), by decide⟩
    · go_wp2_with fail
      rw [show (n : Int) + (m : Int) = ((n + m : Nat) : Int) from by simp]
      refine (growI (n + m) hl _).mono ?_; rintro e w1 ⟨ad, cp, rfl, hf⟩
      have hc0 := (hf.bel.cell (p := ⟨g, 0, none⟩) hg).trans C0.out
      have hc1 := (hf.bel.cell (p := ⟨g, 1, none⟩) hg).trans C1.out
      have HF := Lib.hid hf
      have HG0 := Lib.hid hc0; have HG1 := Lib.hid hc1
      clear hf hc0 hc1 c0 c1
      go_wp2_with fail
      go_loopw [6, 27] (fun o i wr => (i = .int .i64 0 ∧ (∃ ad cp, o = .slice ad 0 cp ∧ Fr w wr [⟨3, .slice ad 0 cp, []⟩])) ∨ (i = .int .i64 1 ∧ (∃ ad cp, o = .slice ad n cp ∧ Fr w wr [⟨3, .slice ad n cp, xs⟩])) ∨ (i = .int .i64 2 ∧ (∃ ad cp, o = .slice ad (n + m) cp ∧ Fr w wr [⟨3, .slice ad (n + m) cp, xs ++ ys⟩]))) (fun _ i _ => 2 - (intOf i).toNat)
      case atStart => exact .inl ⟨rfl, ad, cp, rfl, HF.out⟩
      case round =>
        rcases hrel with ⟨rfl, ad, cp, rfl, hfr⟩ | ⟨rfl, ad, cp, rfl, hfr⟩ | ⟨rfl, ad, cp, rfl, hfr⟩
        · have hc0 := (hfr.bel.cell (p := ⟨g, 0, none⟩) hg).trans C0.out
          have HF := Lib.hid hfr; have HX := Lib.hid (hfr.old HA.out)
          clear hfr
          go_wp2_with (with_reducible refine at_slot 33 ?_; go_must (refine wpList_pushAll rfl (.tmp 31) (.tmp 32) 27 3 (.int .i64 0) 8 Try.underlying27 intInfo rfl (by omega) rfl ad a 0 cp n ca [] xs [] rfl HF.out rfl HX.out HN.out NA.out H1.out (by omega) ?_); intro ad2 cp2 w2 hf2 hsz2)
          rw [Nat.zero_add] at hf2
          exact ⟨.inr (.inl ⟨by simp, ad2, cp2, rfl, hf2⟩), by decide⟩
        · have hc1 := (hfr.bel.cell (p := ⟨g, 1, none⟩) hg).trans C1.out
          have HF := Lib.hid hfr; have HX := Lib.hid (hfr.old HB.out)
          clear hfr
          go_wp2_with (with_reducible refine at_slot 33 ?_; go_must (refine wpList_pushAll rfl (.tmp 31) (.tmp 32) 27 3 (.int .i64 0) 8 Try.underlying27 intInfo rfl (by omega) rfl ad b n cp m cb xs ys [] rfl HF.out rfl HX.out HM.out NB.out H2.out (by omega) ?_); intro ad2 cp2 w2 hf2 hsz2)
          exact ⟨.inr (.inr ⟨by simp, ad2, cp2, rfl, hf2⟩), by decide⟩
        · go_wp2_with fail
          go_ret
          exact ⟨ad, cp, rfl, hfr⟩
end Go.Proofs.Ytnjabochagahjaa
