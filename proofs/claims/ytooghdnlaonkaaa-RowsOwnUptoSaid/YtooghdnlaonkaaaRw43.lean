/- Several of my texts in one: CatS. -/
import Derived.Test.YtooghdnlaonkaaaRw09
import Derived.Lib.AppendZerosOnto
import Derived.Laws.AppendOwnNone
/- slices.Grow of nil and slices.Concat of two slices, for strings. -/
namespace Go.Proofs.Ytooghdnlaonkaaa
open Go.RowKit

theorem Fr.room {w0 w : World} {L : List Ent} (h : Fr w0 w L) (T : TypeId) (cs : Array Value) (G : Nat) (hG : cs.size = G) (hm : G ≤ maxLen) :
    Fr w0 (w.drew.alloc (.cells cs T)) (⟨T, .slice (some ⟨w.heap.size, 0, .none⟩) 0 G, []⟩ :: L) := by
  have ha := h.drew.alloc (.cells cs T)
  have hb := h.bel.size
  refine ⟨ha.bel, ⟨fun e he => ?_, List.pairwise_cons.2 ⟨fun b hb => .inr ?_, h.os.far⟩⟩⟩
  · rcases List.mem_cons.1 he with rfl | he
    · refine ⟨by simp, .inr ⟨w.heap.size, G, cs, rfl, hb, ?_, by simp, hm, by simpa using hG, by simp⟩⟩
      show (w.drew.heap.push _)[w.heap.size]? = _
      exact Array.getElem?_push_size
    · exact ha.os.own e he
  · intro e
    have := (Ent.own.lt (h.os.own b hb) _ e.symm).2
    simp only at this
    omega
theorem strInfoC : (Try.prog.info? 9).map (fun i => (i.zero, i.size, i.bytes)) = some (some (.string ByteArray.empty), 1, 16) := by kernel_rfl

/-- append of the cells of another slice to the first of them -/
theorem wpList_pushAllB {ops : Array Oper} {rest : List Oper} {o : Oper} {a : Act} {Q : Exit → Act → World → Prop} {w0 w : World} (hgd : o.guard = .none) (s x : Operand) (S T : TypeId) (z : Value) (bytes : Nat)
    (hS : Try.prog.underlying S = some (.slice T)) (hT : (Try.prog.info? T).map (fun i => (i.zero, i.size, i.bytes)) = some (some z, 1, bytes)) (hz : z.cells.size = 1) (hby : bytes ≤ 1000)
    (ho : o.op = .call { callee := .builtin .append, args := #[s, x], argTypes := #[S, S] })
    (ad sp : Option Addr) (n cap m c : Nat) (xs ys : List Value) (L : List Ent) (hs : a.eval s = .slice ad n cap) (hF : Fr w0 w (⟨T, .slice ad n cap, xs⟩ :: L))
    (hx : a.eval x = .slice sp m c) (hY : Sa w sp ys) (hm : ys.length = m) (hnone : sp = .none → c = 0 ∧ m = 0) (h1 : ∀ u ∈ ys, u.oneCell' = true) (hlen : n + m ≤ 4000000)
    (h : ∀ ad' cap' w', Fr w0 w' (⟨T, .slice ad' (n + m) cap', xs ++ ys⟩ :: L) → w.heap.size ≤ w'.heap.size → wpList Try.prog ops Q rest (a.put o.dst (.slice ad' (n + m) cap')) w') :
    wpList Try.prog ops Q (o :: rest) a w := by
  obtain ⟨i0, hi, hz0, hz1, hz2⟩ := info_parts hT
  have hn := hF.len
  have hO := hF.os.own _ List.mem_cons_self
  cases sp with
  | none =>
    obtain ⟨rfl, rfl⟩ := hnone rfl
    obtain rfl := List.eq_nil_of_length_eq_zero hm
    subst hn
    refine wpList_append_own_none hgd s x S ho w0.heap.size T i0 1 hS hi (.slice ad xs.length cap) xs.length xs hs (by rw [← hz1]; exact hz1 ▸ hO) hx ?_
    exact h ad cap w (by simpa using hF) (Nat.le_refl _)
  | some sad =>
    subst hn
    refine wpList_append_own_at _ hgd s x S ho w0.heap.size T i0 z 1 bytes hS hi hz0 hz1 hz2 hz (by decide) (.slice ad xs.length cap) xs.length xs hs hO
      sad m c ys hx (by omega) ?_ h1 ?_ ?_ ?_ ?_
    · intro j u hj
      have hjl : j < ys.length := (List.getElem?_eq_some_iff.1 hj).1
      obtain ⟨b, off, e, _, hc⟩ := hY.at j hjl
      cases e
      rw [show ((⟨b, off, .none⟩ : Addr).add j) = ⟨b, off + j, .none⟩ from by unfold Addr.add; split <;> simp_all, hc, hj]
    · unfold maxLen; omega
    · calc (xs.length + m) * bytes ≤ 4000001 * 1000 := Nat.mul_le_mul (by omega) hby
        _ ≤ _ := by omega
    · exact hF.bel.size
    · intro v' w' k1 k2 hnil hat
      have hsz := k2.size
      have hb0 := hF.bel.size
      have e1 : (xs ++ ys).length = xs.length + m := by rw [List.length_append, hm]
      obtain ⟨ad', cap', rfl⟩ : ∃ ad' cap', v' = .slice ad' (xs.length + m) cap' := by
        rcases k1.2 with ⟨e1, e2⟩ | ⟨g, cap', cur, e1, _⟩
        · exact ⟨.none, 0, by rw [e2, e1]⟩
        · exact ⟨_, _, e1⟩
      refine h ad' cap' w' ⟨?_, ⟨fun e he => ?_, ?_⟩⟩ (by omega)
      · refine Below.grown (row := (Value.slice ad xs.length cap).ownBlock) hF.bel k2 (by omega) ?_
        intro k hk
        exact (Ent.own.lt hO k hk).1
      · rcases List.mem_cons.1 he with rfl | he
        · unfold Ent.own; simp only [e1]; exact k1
        · refine World.ownsRow.kept (hF.os.own e (List.mem_cons_of_mem _ he)) k2 ?_
          exact ((List.pairwise_cons.1 hF.os.far).1 e he).symm
      · have hf := List.pairwise_cons.1 hF.os.far
        refine List.pairwise_cons.2 ⟨fun b hb => ?_, hf.2⟩
        have hbf := hf.1 b hb
        have hlt := Ent.own.lt (hF.os.own b (List.mem_cons_of_mem _ hb))
        rcases hat with hat | hat
        · rcases hbf with hbf | hbf
          · exact .inl (show (Value.slice ad' (xs.length + m) cap').ownBlock = .none by rw [hat]; exact hbf)
          · exact .inr (show (Value.slice ad' (xs.length + m) cap').ownBlock ≠ _ by rw [hat]; exact hbf)
        · refine .inr (show (Value.slice ad' (xs.length + m) cap').ownBlock ≠ _ from ?_)
          rw [hat]
          intro e
          have := (hlt _ e.symm).2
          omega

set_option maxRecDepth 100000 in
set_option maxHeartbeats 2000000 in
theorem growS (n : Nat) (hn : n ≤ 4000000) (w : World) :
    Calls Try.prog 135 #[.slice none 0 0, .int .i64 n] w fun e w' => ∃ ad cp, e = .returned (.slice ad 0 cp) ∧ Fr w w' [⟨9, .slice ad 0 cp, []⟩] := by
  obtain ⟨i0, hi, hz0, hz1, hz2⟩ := info_parts strInfoC
  by_cases h0 : n = 0
  · subst h0
    clear hi hz0 hz1 hz2
    go_enter Try.func135, Try.ntmps135
    go_wp2_with fail
    go_ret
    exact ⟨_, _, rfl, (Fr.start w).nilSlice _⟩
  · have hrz : ∀ ty, (Builtin.append_ #[40, 3] ty #[.slice none 0 0, .int .i64 (n : Int)]).run Try.prog w =
        .ok (.slice (some ⟨w.heap.size, 0, none⟩) n (grownCap w n 0 9)) (w.drew.alloc (.cells (([] : List Value).toArray ++ Builtin.zeroCells (Value.cells (.string ByteArray.empty)) n ++ Builtin.zeroCells (Value.cells (.string ByteArray.empty)) (grownCap w n 0 9 - n)) 9)) := fun ty => by
      have h := Lib.run_append_grow_zeros w 40 3 ty 9 i0 (.string ByteArray.empty) .i64 .i64 Try.underlying40 Try.underlying3 hi hz0 none 0 0 [] (by rw [hz1]; exact run_firstCells_none w.drew 1 0 0 0) n (by omega) (by omega) (by omega) (by omega)
        (by rw [hz2]; omega) (growslice_fits (by omega) (by rw [hz2]; omega))
      rw [Nat.zero_add] at h
      exact h
    have hGn : n ≤ grownCap w n 0 9 := grownCap_ge w _ _ _
    have hGm : grownCap w n 0 9 ≤ maxLen := grownCap_le_maxLen w n 0 9 (by unfold maxLen; omega)
    have hsz : (([] : List Value).toArray ++ Builtin.zeroCells (Value.cells (.string ByteArray.empty)) n ++ Builtin.zeroCells (Value.cells (.string ByteArray.empty)) (grownCap w n 0 9 - n)).size = grownCap w n 0 9 := by
      simp [Builtin.zeroCells, Value.cells]; omega
    obtain ⟨G, hG⟩ : ∃ G, G = grownCap w n 0 9 := ⟨_, rfl⟩
    rw [← hG] at hrz hGn hGm hsz
    have F1 := (Fr.start w).room 9 _ G hsz hGm
    have HF := Lib.hid F1
    unfold maxLen at hGm
    obtain ⟨cs, hcs⟩ : ∃ cs, (([] : List Value).toArray ++ Builtin.zeroCells (Value.cells (.string ByteArray.empty)) n ++ Builtin.zeroCells (Value.cells (.string ByteArray.empty)) (G - n)) = cs := ⟨_, rfl⟩
    rw [hcs] at hrz HF
    clear hi hz0 hz1 hz2 hsz F1 hG hcs
    have g0 : (G == 0) = false := by rw [beq_eq_false_iff_ne]; omega
    have g1 : G ≠ 0 := by omega
    go_enter Try.func135, Try.ntmps135
    go_wp2_with (at_builtin; refine Lib.wpList_append_run _ rfl _ _ _ _ rfl _ _ rfl rfl _ _ (hrz _) ?_)
    go_ret
    exact ⟨_, _, rfl, HF.out⟩

set_option maxRecDepth 100000 in
set_option maxHeartbeats 4000000 in
theorem catS (xs ys : List Value) (n m : Nat) (a b : Option Addr) (ca cb : Nat) (g : Nat) (w : World) (h : Sa w a xs) (h' : Sa w b ys) (hn : xs.length = n) (hm : ys.length = m)
    (h1 : ∀ v ∈ xs, v.oneCell' = true) (h2 : ∀ v ∈ ys, v.oneCell' = true) (na : a = none → ca = 0 ∧ n = 0) (nb : b = none → cb = 0 ∧ m = 0) (hl : n + m ≤ 4000000)
    (hg : g < w.heap.size) (c0 : w.cell? ⟨g, 0, none⟩ = some (.slice a n ca)) (c1 : w.cell? ⟨g, 1, none⟩ = some (.slice b m cb)) :
    Calls Try.prog 92 #[.slice (some ⟨g, 0, none⟩) 2 2] w fun e w' => ∃ ad cp, e = .returned (.slice ad (n + m) cp) ∧ Fr w w' [⟨9, .slice ad (n + m) cp, xs ++ ys⟩] := by
  have HN := Lib.hid hn; have HM := Lib.hid hm; have HA := Lib.hid h; have HB := Lib.hid h'; have H1 := Lib.hid h1; have H2 := Lib.hid h2; have NA := Lib.hid na; have NB := Lib.hid nb
  have C0 := Lib.hid c0; have C1 := Lib.hid c1
  clear hn hm h h' h1 h2 na nb
  go_enter Try.func92, Try.ntmps92
  go_wp2_with fail
  go_loop [3, 11] (fun s i => (s = .int .i64 0 ∧ i = .int .i64 0) ∨ (s = .int .i64 n ∧ i = .int .i64 1) ∨ (s = .int .i64 ((n : Int) + (m : Int)) ∧ i = .int .i64 2)) (fun _ i => 2 - (intOf i).toNat)
  case atStart => exact .inl ⟨rfl, rfl⟩
  case round =>
    rcases hrel with ⟨rfl, rfl⟩ | ⟨rfl, rfl⟩ | ⟨rfl, rfl⟩
    · go_wp2_with fail
      exact ⟨.inr (.inl ⟨by simp, by simp⟩), by decide⟩
    · go_wp2_with fail
      exact ⟨.inr (.inr ⟨by simp, by simp⟩), by decide⟩
    · go_wp2_with fail
      rw [show (n : Int) + (m : Int) = ((n + m : Nat) : Int) from by simp]
      refine (growS (n + m) hl _).mono ?_; rintro e w1 ⟨ad, cp, rfl, hf⟩
      have hc0 := (hf.bel.cell (p := ⟨g, 0, none⟩) hg).trans C0.out
      have hc1 := (hf.bel.cell (p := ⟨g, 1, none⟩) hg).trans C1.out
      have HF := Lib.hid hf
      have HG0 := Lib.hid hc0; have HG1 := Lib.hid hc1
      clear hf hc0 hc1 c0 c1
      go_wp2_with fail
      go_loopw [6, 27] (fun o i wr => (i = .int .i64 0 ∧ (∃ ad cp, o = .slice ad 0 cp ∧ Fr w wr [⟨9, .slice ad 0 cp, []⟩])) ∨ (i = .int .i64 1 ∧ (∃ ad cp, o = .slice ad n cp ∧ Fr w wr [⟨9, .slice ad n cp, xs⟩])) ∨ (i = .int .i64 2 ∧ (∃ ad cp, o = .slice ad (n + m) cp ∧ Fr w wr [⟨9, .slice ad (n + m) cp, xs ++ ys⟩]))) (fun _ i _ => 2 - (intOf i).toNat)
      case atStart => exact .inl ⟨rfl, ad, cp, rfl, HF.out⟩
      case round =>
        rcases hrel with ⟨rfl, ad, cp, rfl, hfr⟩ | ⟨rfl, ad, cp, rfl, hfr⟩ | ⟨rfl, ad, cp, rfl, hfr⟩
        · have hc0 := (hfr.bel.cell (p := ⟨g, 0, none⟩) hg).trans C0.out
          have HF := Lib.hid hfr; have HX := Lib.hid (hfr.old HA.out)
          clear hfr
          go_wp2_with (with_reducible refine at_slot 33 ?_; go_must (refine wpList_pushAllB rfl (.tmp 31) (.tmp 32) 40 9 (.string ByteArray.empty) 16 Try.underlying40 strInfoC rfl (by omega) rfl ad a 0 cp n ca [] xs [] rfl HF.out rfl HX.out HN.out NA.out H1.out (by omega) ?_); intro ad2 cp2 w2 hf2 hsz2)
          rw [Nat.zero_add] at hf2
          exact ⟨.inr (.inl ⟨by simp, ad2, cp2, rfl, hf2⟩), by decide⟩
        · have hc1 := (hfr.bel.cell (p := ⟨g, 1, none⟩) hg).trans C1.out
          have HF := Lib.hid hfr; have HX := Lib.hid (hfr.old HB.out)
          clear hfr
          go_wp2_with (with_reducible refine at_slot 33 ?_; go_must (refine wpList_pushAllB rfl (.tmp 31) (.tmp 32) 40 9 (.string ByteArray.empty) 16 Try.underlying40 strInfoC rfl (by omega) rfl ad b n cp m cb xs ys [] rfl HF.out rfl HX.out HM.out NB.out H2.out (by omega) ?_); intro ad2 cp2 w2 hf2 hsz2)
          exact ⟨.inr (.inr ⟨by simp, ad2, cp2, rfl, hf2⟩), by decide⟩
        · go_wp2_with fail
          go_ret
          exact ⟨ad, cp, rfl, hfr⟩
set_option maxRecDepth 100000 in
set_option maxHeartbeats 4000000 in
theorem catS3 (xs ys zs : List Value) (n m o : Nat) (a b c : Option Addr) (ca cb cc : Nat) (g : Nat) (w : World) (h : Sa w a xs) (h' : Sa w b ys) (h'' : Sa w c zs) (hn : xs.length = n) (hm : ys.length = m) (ho : zs.length = o)
    (h1 : ∀ v ∈ xs, v.oneCell' = true) (h2 : ∀ v ∈ ys, v.oneCell' = true) (h3 : ∀ v ∈ zs, v.oneCell' = true) (na : a = none → ca = 0 ∧ n = 0) (nb : b = none → cb = 0 ∧ m = 0) (nc : c = none → cc = 0 ∧ o = 0) (hl : n + m + o ≤ 4000000)
    (hg : g < w.heap.size) (c0 : w.cell? ⟨g, 0, none⟩ = some (.slice a n ca)) (c1 : w.cell? ⟨g, 1, none⟩ = some (.slice b m cb)) (c2 : w.cell? ⟨g, 2, none⟩ = some (.slice c o cc)) :
    Calls Try.prog 92 #[.slice (some ⟨g, 0, none⟩) 3 3] w fun e w' => ∃ ad cp, e = .returned (.slice ad (n + m + o) cp) ∧ Fr w w' [⟨9, .slice ad (n + m + o) cp, xs ++ ys ++ zs⟩] := by
  have HN := Lib.hid hn; have HM := Lib.hid hm; have HO := Lib.hid ho; have HA := Lib.hid h; have HB := Lib.hid h'; have HC := Lib.hid h''; have H1 := Lib.hid h1; have H2 := Lib.hid h2; have H3 := Lib.hid h3; have NA := Lib.hid na; have NB := Lib.hid nb; have NC := Lib.hid nc
  have C0 := Lib.hid c0; have C1 := Lib.hid c1; have C2 := Lib.hid c2
  clear hn hm ho h h' h'' h1 h2 h3 na nb nc
  go_enter Try.func92, Try.ntmps92
  go_wp2_with fail
  go_loop [3, 11] (fun s i => (s = .int .i64 0 ∧ i = .int .i64 0) ∨ (s = .int .i64 n ∧ i = .int .i64 1) ∨ (s = .int .i64 ((n : Int) + (m : Int)) ∧ i = .int .i64 2) ∨ (s = .int .i64 ((n : Int) + (m : Int) + (o : Int)) ∧ i = .int .i64 3)) (fun _ i => 3 - (intOf i).toNat)
  case atStart => exact .inl ⟨rfl, rfl⟩
  case round =>
    rcases hrel with ⟨rfl, rfl⟩ | ⟨rfl, rfl⟩ | ⟨rfl, rfl⟩ | ⟨rfl, rfl⟩
    · go_wp2_with fail
      exact ⟨.inr (.inl ⟨by simp, by simp⟩), by decide⟩
    · go_wp2_with fail
      exact ⟨.inr (.inr (.inl ⟨by simp, by simp⟩)), by decide⟩
    · go_wp2_with fail
      exact ⟨.inr (.inr (.inr ⟨by simp, by simp⟩)), by decide⟩
    · go_wp2_with fail
      rw [show (n : Int) + (m : Int) + (o : Int) = ((n + m + o : Nat) : Int) from by simp]
      refine (growS (n + m + o) hl _).mono ?_; rintro e w1 ⟨ad, cp, rfl, hf⟩
      have hc0 := (hf.bel.cell (p := ⟨g, 0, none⟩) hg).trans C0.out
      have hc1 := (hf.bel.cell (p := ⟨g, 1, none⟩) hg).trans C1.out
      have hc2 := (hf.bel.cell (p := ⟨g, 2, none⟩) hg).trans C2.out
      have HF := Lib.hid hf
      have HG0 := Lib.hid hc0; have HG1 := Lib.hid hc1; have HG2 := Lib.hid hc2
      clear hf hc0 hc1 hc2 c0 c1 c2
      go_wp2_with fail
      go_loopw [6, 27] (fun q i wr => (i = .int .i64 0 ∧ (∃ ad cp, q = .slice ad 0 cp ∧ Fr w wr [⟨9, .slice ad 0 cp, []⟩])) ∨ (i = .int .i64 1 ∧ (∃ ad cp, q = .slice ad n cp ∧ Fr w wr [⟨9, .slice ad n cp, xs⟩])) ∨ (i = .int .i64 2 ∧ (∃ ad cp, q = .slice ad (n + m) cp ∧ Fr w wr [⟨9, .slice ad (n + m) cp, xs ++ ys⟩])) ∨ (i = .int .i64 3 ∧ (∃ ad cp, q = .slice ad (n + m + o) cp ∧ Fr w wr [⟨9, .slice ad (n + m + o) cp, xs ++ ys ++ zs⟩]))) (fun _ i _ => 3 - (intOf i).toNat)
      case atStart => exact .inl ⟨rfl, ad, cp, rfl, HF.out⟩
      case round =>
        rcases hrel with ⟨rfl, ad, cp, rfl, hfr⟩ | ⟨rfl, ad, cp, rfl, hfr⟩ | ⟨rfl, ad, cp, rfl, hfr⟩ | ⟨rfl, ad, cp, rfl, hfr⟩
        · have hc0 := (hfr.bel.cell (p := ⟨g, 0, none⟩) hg).trans C0.out
          have HF := Lib.hid hfr; have HX := Lib.hid (hfr.old HA.out)
          clear hfr
          go_wp2_with (with_reducible refine at_slot 33 ?_; go_must (refine wpList_pushAllB rfl (.tmp 31) (.tmp 32) 40 9 (.string ByteArray.empty) 16 Try.underlying40 strInfoC rfl (by omega) rfl ad a 0 cp n ca [] xs [] rfl HF.out rfl HX.out HN.out NA.out H1.out (by omega) ?_); intro ad2 cp2 w2 hf2 hsz2)
          rw [Nat.zero_add] at hf2
          exact ⟨.inr (.inl ⟨by simp, ad2, cp2, rfl, hf2⟩), by decide⟩
        · have hc1 := (hfr.bel.cell (p := ⟨g, 1, none⟩) hg).trans C1.out
          have HF := Lib.hid hfr; have HX := Lib.hid (hfr.old HB.out)
          clear hfr
          go_wp2_with (with_reducible refine at_slot 33 ?_; go_must (refine wpList_pushAllB rfl (.tmp 31) (.tmp 32) 40 9 (.string ByteArray.empty) 16 Try.underlying40 strInfoC rfl (by omega) rfl ad b n cp m cb xs ys [] rfl HF.out rfl HX.out HM.out NB.out H2.out (by omega) ?_); intro ad2 cp2 w2 hf2 hsz2)
          exact ⟨.inr (.inr (.inl ⟨by simp, ad2, cp2, rfl, hf2⟩)), by decide⟩
        · have hc2 := (hfr.bel.cell (p := ⟨g, 2, none⟩) hg).trans C2.out
          have HF := Lib.hid hfr; have HX := Lib.hid (hfr.old HC.out)
          clear hfr
          go_wp2_with (with_reducible refine at_slot 33 ?_; go_must (refine wpList_pushAllB rfl (.tmp 31) (.tmp 32) 40 9 (.string ByteArray.empty) 16 Try.underlying40 strInfoC rfl (by omega) rfl ad c (n + m) cp o cc (xs ++ ys) zs [] rfl HF.out rfl HX.out HO.out NC.out H3.out (by omega) ?_); intro ad2 cp2 w2 hf2 hsz2)
          exact ⟨.inr (.inr (.inr ⟨by simp, ad2, cp2, rfl, hf2⟩)), by decide⟩
        · go_wp2_with fail
          go_ret
          exact ⟨ad, cp, rfl, hfr⟩
end Go.Proofs.Ytooghdnlaonkaaa
