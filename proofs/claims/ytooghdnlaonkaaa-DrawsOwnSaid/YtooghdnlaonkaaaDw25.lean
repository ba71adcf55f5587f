/- Several of my texts in one: CatS, HeldU. -/
import Derived.Test.YtooghdnlaonkaaaDw05
import Derived.Lib.AppendZerosOnto
import Derived.Laws.AppendOwnNone
import Derived.OrdersHeld
import Derived.RegionTactic
import Derived.Lib.Hide
/- slices.Grow of nil and slices.Concat of two slices, for strings. -/
namespace Go.Proofs.Ytooghdnlaonkaaa
open Go.RowKit

theorem Fr.room {w0 w : World} {L : List Ent} (h : Fr w0 w L) (T : TypeId) (cs : Array Value) (G : Nat) (hG : cs.size = G) (hm : G ≤ maxLen) :
    Fr w0 (w.drew.alloc (.cells cs T)) (⟨T, .slice (some ⟨w.heap.size, 0, .none⟩) 0 G, []⟩ :: L) := by
  have ha := h.drew.alloc (.cells cs T)
  have hb := h.bel.size
  refine ⟨ha.bel, ⟨fun e he => ?_, List.pairwise_cons.2 ⟨fun b hb => .inr ?_, h.os.far⟩⟩⟩
  · rcases List.mem_cons.1 he with rfl | he
    · refine ⟨by simp, .inr ⟨w.heap.size, G, cs, rfl, hb, ?_, by simp, hm, by simpa using hG, by simp⟩⟩
      show (w.drew.heap.push _)[w.heap.size]? = _
      exact Array.getElem?_push_size
    · exact ha.os.own e he
  · intro e
    have := (Ent.own.lt (h.os.own b hb) _ e.symm).2
    simp only at this
    omega
theorem strInfoC : (Try.prog.info? 9).map (fun i => (i.zero, i.size, i.bytes)) = some (some (.string ByteArray.empty), 1, 16) := by kernel_rfl

/-- append of the cells of another slice to the first of them -/
theorem wpList_pushAllB {ops : Array Oper} {rest : List Oper} {o : Oper} {a : Act} {Q : Exit → Act → World → Prop} {w0 w : World} (hgd : o.guard = .none) (s x : Operand) (S T : TypeId) (z : Value) (bytes : Nat)
    (hS : Try.prog.underlying S = some (.slice T)) (hT : (Try.prog.info? T).map (fun i => (i.zero, i.size, i.bytes)) = some (some z, 1, bytes)) (hz : z.cells.size = 1) (hby : bytes ≤ 1000)
    (ho : o.op = .call { callee := .builtin .append, args := #[s, x], argTypes := #[S, S] })
    (ad sp : Option Addr) (n cap m c : Nat) (xs ys : List Value) (L : List Ent) (hs : a.eval s = .slice ad n cap) (hF : Fr w0 w (⟨T, .slice ad n cap, xs⟩ :: L))
    (hx : a.eval x = .slice sp m c) (hY : Sa w sp ys) (hm : ys.length = m) (hnone : sp = .none → c = 0 ∧ m = 0) (h1 : ∀ u ∈ ys, u.oneCell' = true) (hlen : n + m ≤ 4000000)
    (h : ∀ ad' cap' w', Fr w0 w' (⟨T, .slice ad' (n + m) cap', xs ++ ys⟩ :: L) → w.heap.size ≤ w'.heap.size → wpList Try.prog ops Q rest (a.put o.dst (.slice ad' (n + m) cap')) w') :
    wpList Try.prog ops Q (o :: rest) a w := by
  obtain ⟨i0, hi, hz0, hz1, hz2⟩ := info_parts hT
  have hn := hF.len
  have hO := hF.os.own _ List.mem_cons_self
  cases sp with
  | none =>
    obtain ⟨rfl, rfl⟩ := hnone rfl
    obtain rfl := List.eq_nil_of_length_eq_zero hm
    subst hn
    refine wpList_append_own_none hgd s x S ho w0.heap.size T i0 1 hS hi (.slice ad xs.length cap) xs.length xs hs (by rw [← hz1]; exact hz1 ▸ hO) hx ?_
    exact h ad cap w (by simpa using hF) (Nat.le_refl _)
  | some sad =>
    subst hn
    refine wpList_append_own_at _ hgd s x S ho w0.heap.size T i0 z 1 bytes hS hi hz0 hz1 hz2 hz (by decide) (.slice ad xs.length cap) xs.length xs hs hO
      sad m c ys hx (by omega) ?_ h1 ?_ ?_ ?_ ?_
    · intro j u hj
      have hjl : j < ys.length := (List.getElem?_eq_some_iff.1 hj).1
      obtain ⟨b, off, e, _, hc⟩ := hY.at j hjl
      cases e
      rw [show ((⟨b, off, .none⟩ : Addr).add j) = ⟨b, off + j, .none⟩ from by unfold Addr.add; split <;> simp_all, hc, hj]
    · unfold maxLen; omega
    · calc (xs.length + m) * bytes ≤ 4000001 * 1000 := Nat.mul_le_mul (by omega) hby
        _ ≤ _ := by omega
    · exact hF.bel.size
    · intro v' w' k1 k2 hnil hat
      have hsz := k2.size
      have hb0 := hF.bel.size
      have e1 : (xs ++ ys).length = xs.length + m := by rw [List.length_append, hm]
      obtain ⟨ad', cap', rfl⟩ : ∃ ad' cap', v' = .slice ad' (xs.length + m) cap' := by
        rcases k1.2 with ⟨e1, e2⟩ | ⟨g, cap', cur, e1, _⟩
        · exact ⟨.none, 0, by rw [e2, e1]⟩
        · exact ⟨_, _, e1⟩
      refine h ad' cap' w' ⟨?_, ⟨fun e he => ?_, ?_⟩⟩ (by omega)
      · refine Below.grown (row := (Value.slice ad xs.length cap).ownBlock) hF.bel k2 (by omega) ?_
        intro k hk
        exact (Ent.own.lt hO k hk).1
      · rcases List.mem_cons.1 he with rfl | he
        · unfold Ent.own; simp only [e1]; exact k1
        · refine World.ownsRow.kept (hF.os.own e (List.mem_cons_of_mem _ he)) k2 ?_
          exact ((List.pairwise_cons.1 hF.os.far).1 e he).symm
      · have hf := List.pairwise_cons.1 hF.os.far
        refine List.pairwise_cons.2 ⟨fun b hb => ?_, hf.2⟩
        have hbf := hf.1 b hb
        have hlt := Ent.own.lt (hF.os.own b (List.mem_cons_of_mem _ hb))
        rcases hat with hat | hat
        · rcases hbf with hbf | hbf
          · exact .inl (show (Value.slice ad' (xs.length + m) cap').ownBlock = .none by rw [hat]; exact hbf)
          · exact .inr (show (Value.slice ad' (xs.length + m) cap').ownBlock ≠ _ by rw [hat]; exact hbf)
        · refine .inr (show (Value.slice ad' (xs.length + m) cap').ownBlock ≠ _ from ?_)
          rw [hat]
          intro e
          have := (hlt _ e.symm).2
          omega

set_option maxRecDepth 100000 in
set_option maxHeartbeats 2000000 in
theorem growS (n : Nat) (hn : n ≤ 4000000) (w : World) :
    Calls Try.prog 135 #[.slice none 0 0, .int .i64 n] w fun e w' => ∃ ad cp, e = .returned (.slice ad 0 cp) ∧ Fr w w' [⟨9, .slice ad 0 cp, []⟩] := by
  obtain ⟨i0, hi, hz0, hz1, hz2⟩ := info_parts strInfoC
  by_cases h0 : n = 0
  · subst h0
    clear hi hz0 hz1 hz2
    go_enter Try.func135, Try.ntmps135
    go_wp2_with fail
    go_ret
    exact ⟨_, _, rfl, (Fr.start w).nilSlice _⟩
  · have hrz : ∀ ty, (Builtin.append_ #[40, 3] ty #[.slice none 0 0, .int .i64 (n : Int)]).run Try.prog w =
        .ok (.slice (some ⟨w.heap.size, 0, none⟩) n (grownCap w n 0 9)) (w.drew.alloc (.cells (([] : List Value).toArray ++ Builtin.zeroCells (Value.cells (.string ByteArray.empty)) n ++ Builtin.zeroCells (Value.cells (.string ByteArray.empty)) (grownCap w n 0 9 - n)) 9)) := fun ty => by
      have h := Lib.run_append_grow_zeros w 40 3 ty 9 i0 (.string ByteArray.empty) .i64 .i64 Try.underlying40 Try.underlying3 hi hz0 none 0 0 [] (by rw [hz1]; exact run_firstCells_none w.drew 1 0 0 0) n (by omega) (by omega) (by omega) (by omega)
        (by rw [hz2]; omega) (growslice_fits (by omega) (by rw [hz2]; omega))
      rw [Nat.zero_add] at h
      exact h
    have hGn : n ≤ grownCap w n 0 9 := grownCap_ge w _ _ _
    have hGm : grownCap w n 0 9 ≤ maxLen := grownCap_le_maxLen w n 0 9 (by unfold maxLen; omega)
    have hsz : (([] : List Value).toArray ++ Builtin.zeroCells (Value.cells (.string ByteArray.empty)) n ++ Builtin.zeroCells (Value.cells (.string ByteArray.empty)) (grownCap w n 0 9 - n)).size = grownCap w n 0 9 := by
      simp [Builtin.zeroCells, Value.cells]; omega
    obtain ⟨G, hG⟩ : ∃ G, G = grownCap w n 0 9 := ⟨_, rfl⟩
    rw [← hG] at hrz hGn hGm hsz
    have F1 := (Fr.start w).room 9 _ G hsz hGm
    have HF := Lib.hid F1
    unfold maxLen at hGm
    obtain ⟨cs, hcs⟩ : ∃ cs, (([] : List Value).toArray ++ Builtin.zeroCells (Value.cells (.string ByteArray.empty)) n ++ Builtin.zeroCells (Value.cells (.string ByteArray.empty)) (G - n)) = cs := ⟨_, rfl⟩
    rw [hcs] at hrz HF
    clear hi hz0 hz1 hz2 hsz F1 hG hcs
    have g0 : (G == 0) = false := by rw [beq_eq_false_iff_ne]; omega
    have g1 : G ≠ 0 := by omega
    go_enter Try.func135, Try.ntmps135
    go_wp2_with (at_builtin; refine Lib.wpList_append_run _ rfl _ _ _ _ rfl _ _ rfl rfl _ _ (hrz _) ?_)
    go_ret
    exact ⟨_, _, rfl, HF.out⟩

set_option maxRecDepth 100000 in
set_option maxHeartbeats 4000000 in
theorem catS (xs ys : List Value) (n m : Nat) (a b : Option Addr) (ca cb : Nat) (g : Nat) (w : World) (h : Sa w a xs) (h' : Sa w b ys) (hn : xs.length = n) (hm : ys.length = m)
    (h1 : ∀ v ∈ xs, v.oneCell' = true) (h2 : ∀ v ∈ ys, v.oneCell' = true) (na : a = none → ca = 0 ∧ n = 0) (nb : b = none → cb = 0 ∧ m = 0) (hl : n + m ≤ 4000000)
    (hg : g < w.heap.size) (c0 : w.cell? ⟨g, 0, none⟩ = some (.slice a n ca)) (c1 : w.cell? ⟨g, 1, none⟩ = some (.slice b m cb)) :
    Calls Try.prog 92 #[.slice (some ⟨g, 0, none⟩) 2 2] w fun e w' => ∃ ad cp, e = .returned (.slice ad (n + m) cp) ∧ Fr w w' [⟨9, .slice ad (n + m) cp, xs ++ ys⟩] := by
  have HN := Lib.hid hn; have HM := Lib.hid hm; have HA := Lib.hid h; have HB := Lib.hid h'; have H1 := Lib.hid h1; have H2 := Lib.hid h2; have NA := Lib.hid na; have NB := Lib.hid nb
  have C0 := Lib.hid c0; have C1 := Lib.hid c1
  clear hn hm h h' h1 h2 na nb
  go_enter Try.func92, Try.ntmps92
  go_wp2_with fail
  go_loop [3, 11] (fun s i => (s = .int .i64 0 ∧ i = .int .i64 0) ∨ (s = .int .i64 n ∧ i = .int .i64 1) ∨ (s = .int .i64 ((n : Int) + (m : Int)) ∧ i = .int .i64 2)) (fun _ i => 2 - (intOf i).toNat)
  case atStart => exact .inl ⟨rfl, rfl⟩
  case round =>
    rcases hrel with ⟨rfl, rfl⟩ | ⟨rfl, rfl⟩ | ⟨rfl, rfl⟩
    · go_wp2_with fail
      exact ⟨.inr (.inl ⟨by simp, by simp⟩), by decide⟩
    · go_wp2_with fail
      exact ⟨.inr (.inr ⟨by simp, by simp⟩), by decide⟩
    · go_wp2_with fail
      rw [show (n : Int) + (m : Int) = ((n + m : Nat) : Int) from by simp]
      refine (growS (n + m) hl _).mono ?_; rintro e w1 ⟨ad, cp, rfl, hf⟩
      have hc0 := (hf.bel.cell (p := ⟨g, 0, none⟩) hg).trans C0.out
      have hc1 := (hf.bel.cell (p := ⟨g, 1, none⟩) hg).trans C1.out
      have HF := Lib.hid hf
      have HG0 := Lib.hid hc0; have HG1 := Lib.hid hc1
      clear hf hc0 hc1 c0 c1
      go_wp2_with fail
      go_loopw [6, 27] (fun o i wr => (i = .int .i64 0 ∧ (∃ ad cp, o = .slice ad 0 cp ∧ Fr w wr [⟨9, .slice ad 0 cp, []⟩])) ∨ (i = .int .i64 1 ∧ (∃ ad cp, o = .slice ad n cp ∧ Fr w wr [⟨9, .slice ad n cp, xs⟩])) ∨ (i = .int .i64 2 ∧ (∃ ad cp, o = .slice ad (n + m) cp ∧ Fr w wr [⟨9, .slice ad (n + m) cp, xs ++ ys⟩]))) (fun _ i _ => 2 - (intOf i).toNat)
      case atStart => exact .inl ⟨rfl, ad, cp, rfl, HF.out⟩
      case round =>
        rcases hrel with ⟨rfl, ad, cp, rfl, hfr⟩ | ⟨rfl, ad, cp, rfl, hfr⟩ | ⟨rfl, ad, cp, rfl, hfr⟩
        · have hc0 := (hfr.bel.cell (p := ⟨g, 0, none⟩) hg).trans C0.out
          have HF := Lib.hid hfr; have HX := Lib.hid (hfr.old HA.out)
          clear hfr
          go_wp2_with (with_reducible refine at_slot 33 ?_; go_must (refine wpList_pushAllB rfl (.tmp 31) (.tmp 32) 40 9 (.string ByteArray.empty) 16 Try.underlying40 strInfoC rfl (by omega) rfl ad a 0 cp n ca [] xs [] rfl HF.out rfl HX.out HN.out NA.out H1.out (by omega) ?_); intro ad2 cp2 w2 hf2 hsz2)
          rw [Nat.zero_add] at hf2
          exact ⟨.inr (.inl ⟨by simp, ad2, cp2, rfl, hf2⟩), by decide⟩
        · have hc1 := (hfr.bel.cell (p := ⟨g, 1, none⟩) hg).trans C1.out
          have HF := Lib.hid hfr; have HX := Lib.hid (hfr.old HB.out)
          clear hfr
          go_wp2_with (with_reducible refine at_slot 33 ?_; go_must (refine wpList_pushAllB rfl (.tmp 31) (.tmp 32) 40 9 (.string ByteArray.empty) 16 Try.underlying40 strInfoC rfl (by omega) rfl ad b n cp m cb xs ys [] rfl HF.out rfl HX.out HM.out NB.out H2.out (by omega) ?_); intro ad2 cp2 w2 hf2 hsz2)
          exact ⟨.inr (.inr ⟨by simp, ad2, cp2, rfl, hf2⟩), by decide⟩
        · go_wp2_with fail
          go_ret
          exact ⟨ad, cp, rfl, hfr⟩
set_option maxRecDepth 100000 in
set_option maxHeartbeats 4000000 in
theorem catS3 (xs ys zs : List Value) (n m o : Nat) (a b c : Option Addr) (ca cb cc : Nat) (g : Nat) (w : World) (h : Sa w a xs) (h' : Sa w b ys) (h'' : Sa w c zs) (hn : xs.length = n) (hm : ys.length = m) (ho : zs.length = o)
    (h1 : ∀ v ∈ xs, v.oneCell' = true) (h2 : ∀ v ∈ ys, v.oneCell' = true) (h3 : ∀ v ∈ zs, v.oneCell' = true) (na : a = none → ca = 0 ∧ n = 0) (nb : b = none → cb = 0 ∧ m = 0) (nc : c = none → cc = 0 ∧ o = 0) (hl : n + m + o ≤ 4000000)
    (hg : g < w.heap.size) (c0 : w.cell? ⟨g, 0, none⟩ = some (.slice a n ca)) (c1 : w.cell? ⟨g, 1, none⟩ = some (.slice b m cb)) (c2 : w.cell? ⟨g, 2, none⟩ = some (.slice c o cc)) :
    Calls Try.prog 92 #[.slice (some ⟨g, 0, none⟩) 3 3] w fun e w' => ∃ ad cp, e = .returned (.slice ad (n + m + o) cp) ∧ Fr w w' [⟨9, .slice ad (n + m + o) cp, xs ++ ys ++ zs⟩] := by
  have HN := Lib.hid hn; have HM := Lib.hid hm; have HO := Lib.hid ho; have HA := Lib.hid h; have HB := Lib.hid h'; have HC := Lib.hid h''; have H1 := Lib.hid h1; have H2 := Lib.hid h2; have H3 := Lib.hid h3; have NA := Lib.hid na; have NB := Lib.hid nb; have NC := Lib.hid nc
  have C0 := Lib.hid c0; have C1 := Lib.hid c1; have C2 := Lib.hid c2
  clear hn hm ho h h' h'' h1 h2 h3 na nb nc
  go_enter Try.func92, Try.ntmps92
  go_wp2_with fail
  go_loop [3, 11] (fun s i => (s = .int .i64 0 ∧ i = .int .i64 0) ∨ (s = .int .i64 n ∧ i = .int .i64 1) ∨ (s = .int .i64 ((n : Int) + (m : Int)) ∧ i = .int .i64 2) ∨ (s = .int .i64 ((n : Int) + (m : Int) + (o : Int)) ∧ i = .int .i64 3)) (fun _ i => 3 - (intOf i).toNat)
  case atStart => exact .inl ⟨rfl, rfl⟩
  case round =>
    rcases hrel with ⟨rfl, rfl⟩ | ⟨rfl, rfl⟩ | ⟨rfl, rfl⟩ | ⟨rfl, rfl⟩
    · go_wp2_with fail
      exact ⟨.inr (.inl ⟨by simp, by simp⟩), by decide⟩
    · go_wp2_with fail
      exact ⟨.inr (.inr (.inl ⟨by simp, by simp⟩)), by decide⟩
    · go_wp2_with fail
      exact ⟨.inr (.inr (.inr ⟨by simp, by simp⟩)), by decide⟩
    · go_wp2_with fail
      rw [show (n : Int) + (m : Int) + (o : Int) = ((n + m + o : Nat) : Int) from by simp]
      refine (growS (n + m + o) hl _).mono ?_; rintro e w1 ⟨ad, cp, rfl, hf⟩
      have hc0 := (hf.bel.cell (p := ⟨g, 0, none⟩) hg).trans C0.out
      have hc1 := (hf.bel.cell (p := ⟨g, 1, none⟩) hg).trans C1.out
      have hc2 := (hf.bel.cell (p := ⟨g, 2, none⟩) hg).trans C2.out
      have HF := Lib.hid hf
      have HG0 := Lib.hid hc0; have HG1 := Lib.hid hc1; have HG2 := Lib.hid hc2
      clear hf hc0 hc1 hc2 c0 c1 c2
      go_wp2_with fail
      go_loopw [6, 27] (fun q i wr => (i = .int .i64 0 ∧ (∃ ad cp, q = .slice ad 0 cp ∧ Fr w wr [⟨9, .slice ad 0 cp, []⟩])) ∨ (i = .int .i64 1 ∧ (∃ ad cp, q = .slice ad n cp ∧ Fr w wr [⟨9, .slice ad n cp, xs⟩])) ∨ (i = .int .i64 2 ∧ (∃ ad cp, q = .slice ad (n + m) cp ∧ Fr w wr [⟨9, .slice ad (n + m) cp, xs ++ ys⟩])) ∨ (i = .int .i64 3 ∧ (∃ ad cp, q = .slice ad (n + m + o) cp ∧ Fr w wr [⟨9, .slice ad (n + m + o) cp, xs ++ ys ++ zs⟩]))) (fun _ i _ => 3 - (intOf i).toNat)
      case atStart => exact .inl ⟨rfl, ad, cp, rfl, HF.out⟩
      case round =>
        rcases hrel with ⟨rfl, ad, cp, rfl, hfr⟩ | ⟨rfl, ad, cp, rfl, hfr⟩ | ⟨rfl, ad, cp, rfl, hfr⟩ | ⟨rfl, ad, cp, rfl, hfr⟩
        · have hc0 := (hfr.bel.cell (p := ⟨g, 0, none⟩) hg).trans C0.out
          have HF := Lib.hid hfr; have HX := Lib.hid (hfr.old HA.out)
          clear hfr
          go_wp2_with (with_reducible refine at_slot 33 ?_; go_must (refine wpList_pushAllB rfl (.tmp 31) (.tmp 32) 40 9 (.string ByteArray.empty) 16 Try.underlying40 strInfoC rfl (by omega) rfl ad a 0 cp n ca [] xs [] rfl HF.out rfl HX.out HN.out NA.out H1.out (by omega) ?_); intro ad2 cp2 w2 hf2 hsz2)
          rw [Nat.zero_add] at hf2
          exact ⟨.inr (.inl ⟨by simp, ad2, cp2, rfl, hf2⟩), by decide⟩
        · have hc1 := (hfr.bel.cell (p := ⟨g, 1, none⟩) hg).trans C1.out
          have HF := Lib.hid hfr; have HX := Lib.hid (hfr.old HB.out)
          clear hfr
          go_wp2_with (with_reducible refine at_slot 33 ?_; go_must (refine wpList_pushAllB rfl (.tmp 31) (.tmp 32) 40 9 (.string ByteArray.empty) 16 Try.underlying40 strInfoC rfl (by omega) rfl ad b n cp m cb xs ys [] rfl HF.out rfl HX.out HM.out NB.out H2.out (by omega) ?_); intro ad2 cp2 w2 hf2 hsz2)
          exact ⟨.inr (.inr (.inl ⟨by simp, ad2, cp2, rfl, hf2⟩)), by decide⟩
        · have hc2 := (hfr.bel.cell (p := ⟨g, 2, none⟩) hg).trans C2.out
          have HF := Lib.hid hfr; have HX := Lib.hid (hfr.old HC.out)
          clear hfr
          go_wp2_with (with_reducible refine at_slot 33 ?_; go_must (refine wpList_pushAllB rfl (.tmp 31) (.tmp 32) 40 9 (.string ByteArray.empty) 16 Try.underlying40 strInfoC rfl (by omega) rfl ad c (n + m) cp o cc (xs ++ ys) zs [] rfl HF.out rfl HX.out HO.out NC.out H3.out (by omega) ?_); intro ad2 cp2 w2 hf2 hsz2)
          exact ⟨.inr (.inr (.inr ⟨by simp, ad2, cp2, rfl, hf2⟩)), by decide⟩
        · go_wp2_with fail
          go_ret
          exact ⟨ad, cp, rfl, hfr⟩
end Go.Proofs.Ytooghdnlaonkaaa
/- A region that draws its order, with loads beside stores into the loaded cells that wait for the loads: the condition S stands till one of the stores 'st' has come up. -/
namespace Go.Proofs.Ytooghdnlaonkaaa
open Go.RowKit
section
variable {P : Program} {ops : Array Oper} {Q : Exit → Act → World → Prop} {md : Region.Mode} {S : World → Prop} {st : List Nat}

/-- has one of them come up? -/
def wrote (st : List Nat) (listed : Array Bool) : Bool := st.any fun s => listed.getD s false
def wpAnyU (P : Program) (md : Region.Mode) (ops : Array Oper) (Q : Exit → Act → World → Prop) (st : List Nat) (S : World → Prop) : Nat → Array Bool → Act → World → Prop
  | 0, listed, a, w => Region.ready md ops listed = [] ∧ Q .normal a w
  | fuel + 1, listed, a, w => (Region.ready md ops listed = [] → Q .normal a w) ∧
    ∀ i ∈ Region.ready md ops listed, wpOp P ops Q i (fun a' w' => (wrote st (listed.setIfInBounds i true) = false → S w') ∧ wpAnyU P md ops Q st S fuel (listed.setIfInBounds i true) a' w') a w
theorem wpAny_of_U : ∀ (fuel : Nat) (listed : Array Bool) (a : Act) (w : World), wpAnyU P md ops Q st S fuel listed a w → wpAny P md ops Q fuel listed a w
  | 0, _, _, _, h => h
  | fuel + 1, _, _, _, h => ⟨h.1, fun i hi => wpOp_mono (fun a' w' h' => wpAny_of_U fuel _ a' w' h'.2) (h.2 i hi)⟩
theorem wrote_set {listed : Array Bool} {j : Nat} (hj : j ∉ st) : wrote st (listed.setIfInBounds j true) = wrote st listed := by
  unfold wrote
  rw [Bool.eq_iff_iff, List.any_eq_true, List.any_eq_true]
  constructor
  · rintro ⟨s, hs, h⟩; exact ⟨s, hs, by rw [getD_set_ne false (show j ≠ s from fun e => hj (e ▸ hs))] at h; exact h⟩
  · rintro ⟨s, hs, h⟩; exact ⟨s, hs, by rw [getD_set_ne false (show j ≠ s from fun e => hj (e ▸ hs))]; exact h⟩
/-- an operation waits for another one, maybe by way of others -/
inductive Needs (md : Region.Mode) (ops : Array Oper) : Nat → Nat → Prop
  | step {s : Nat} {o : Oper} {e : Edge} : ops[s]? = some o → e ∈ o.after → Region.binds md e = true → Needs md ops s e.on
  | trans {s i : Nat} {o : Oper} {e : Edge} : ops[s]? = some o → e ∈ o.after → Region.binds md e = true → Needs md ops e.on i → Needs md ops s i
/-- with each operation that has come up those have, for which it waits -/
def Clo (md : Region.Mode) (ops : Array Oper) (listed : Array Bool) : Prop := ∀ x o, listed.getD x false = true → ops[x]? = some o → ∀ e ∈ o.after, Region.binds md e = true → listed.getD e.on false = true
theorem Needs.listed {s i : Nat} (h : Needs md ops s i) {listed : Array Bool} (hc : Clo md ops listed) (hs : listed.getD s false = true) : listed.getD i false = true := by
  induction h with
  | step ho he hb => exact hc _ _ hs ho _ he hb
  | trans ho he hb _ ih => exact ih (hc _ _ hs ho _ he hb)
theorem Needs.ready {s i : Nat} (h : Needs md ops s i) {listed : Array Bool} (hc : Clo md ops listed) (hs : s ∈ Region.ready md ops listed) : listed.getD i false = true := by
  obtain ⟨_, o, ho, hall⟩ := mem_ready.1 hs
  cases h with
  | step ho' he hb => rw [ho] at ho'; cases ho'; exact hall _ he hb
  | trans ho' he hb h2 => rw [ho] at ho'; cases ho'; exact h2.listed hc (hall _ he hb)
theorem getD_at (l : Array Bool) (x : Nat) (d : Bool) (h : x < l.size) : l.getD x d = l[x] := by simp [h]
theorem set_true {l : Array Bool} {j x : Nat} (h : l.getD x false = true) : (l.setIfInBounds j true).getD x false = true := by
  by_cases hjx : j = x
  · subst hjx
    by_cases hlt : j < l.size
    · simp [hlt]
    · simp [hlt] at h
  · rw [getD_set_ne false hjx]; exact h
theorem Clo.set {listed : Array Bool} (hc : Clo md ops listed) {j : Nat} (hj : j ∈ Region.ready md ops listed) : Clo md ops (listed.setIfInBounds j true) := by
  intro x o hx ho e he hb
  obtain ⟨_, oj, hoj, hall⟩ := mem_ready.1 hj
  refine set_true ?_
  by_cases hjx : j = x
  · subst hjx; rw [ho] at hoj; cases hoj; exact hall e he hb
  · rw [getD_set_ne false hjx] at hx; exact hc x o hx ho e he hb
def needsB (md : Region.Mode) (ops : Array Oper) (i : Nat) : Nat → Nat → Bool
  | 0, _ => false
  | fuel + 1, s => match ops[s]? with
    | some o => o.after.any fun e => Region.binds md e && (e.on == i || needsB md ops i fuel e.on)
    | none => false
theorem needsB_spec {i : Nat} : ∀ (fuel s : Nat), needsB md ops i fuel s = true → Needs md ops s i
  | 0, _, h => by cases h
  | fuel + 1, s, h => by
    unfold needsB at h
    cases ho : ops[s]? with
    | none => rw [ho] at h; cases h
    | some o =>
      rw [ho] at h
      obtain ⟨e, he, h2⟩ := Array.any_eq_true'.1 h
      simp only [Bool.and_eq_true, Bool.or_eq_true, beq_iff_eq] at h2
      rcases h2.2 with h3 | h3
      · exact h3 ▸ .step ho he h2.1
      · exact .trans ho he h2.1 (needsB_spec fuel e.on h3)
def cloB (md : Region.Mode) (ops : Array Oper) (listed : Array Bool) : Bool :=
  (List.range ops.size).all fun x => !listed.getD x false || (match ops[x]? with | some o => o.after.all fun e => !Region.binds md e || listed.getD e.on false | none => true)
theorem cloB_spec {listed : Array Bool} (h : cloB md ops listed = true) : Clo md ops listed := by
  intro x o hx ho e he hb
  have hlt : x < ops.size := (Array.getElem?_eq_some_iff.1 ho).1
  have := List.all_eq_true.1 h x (List.mem_range.2 hlt)
  rw [hx, ho] at this
  simp only [Bool.not_true, Bool.false_or] at this
  have h2 := Array.all_eq_true_iff_forall_mem.1 this e he
  simpa [hb] using h2
theorem wpAnyU_first {i : Nat} {oi : Oper} {v : Value} (hi : ops[i]? = some oi) (hsel : ∀ (j : Nat) (o : Oper) cs b, ops[j]? = some o → o.op ≠ .select cs b)
    (hQ : ∀ c a w, Q (.panic c) (a.put oi.dst v) w → Q (.panic c) a w) (hit : i ∉ st)
    (hst : ∀ s ∈ st, Needs md ops s i) :
    ∀ (fuel : Nat) (listed : Array Bool) (a : Act) (w : World),
      (∀ j oj, ops[j]? = some oj → j ≠ i → listed.getD j true = false → (∀ e ∈ oj.after, Region.binds md e = true → e.on ≠ i) → oi.apart ops oj = true) →
      Clo md ops listed → i ∈ Region.ready md ops listed → YieldsIf P ops S oi v a → wrote st listed = false → S w →
      wpAnyU P md ops Q st S fuel (listed.setIfInBounds i true) (a.put oi.dst v) w → wpAnyU P md ops Q st S (fuel + 1) listed a w := by
  intro fuel
  induction fuel with
  | zero =>
    intro listed a w _ _ hr hy hw hS H
    refine ⟨fun h => (by rw [h] at hr; cases hr), fun j hj => ?_⟩
    by_cases hji : j = i
    · subst hji; exact hy.wpOp hi hS ⟨fun _ => hS, H⟩
    · have := ready_mono hj hji
      rw [H.1] at this
      cases this
  | succ fuel ih =>
    intro listed a w hfree hcl hr hy hw hS H
    refine ⟨fun h => (by rw [h] at hr; cases hr), fun j hj => ?_⟩
    by_cases hji : j = i
    · subst hji; exact hy.wpOp hi hS ⟨fun _ => hS, H⟩
    · have h1 := H.2 j (ready_mono hj hji)
      obtain ⟨hjun, oj, hoj, hall⟩ := mem_ready.1 hj
      have hnot : ∀ e ∈ oj.after, Region.binds md e = true → e.on ≠ i := fun e he hb heq => by
        have h2 := hall e he hb
        have h0 := (mem_ready.1 hr).1
        rw [heq] at h2
        rcases Nat.lt_or_ge i listed.size with h' | h'
        · simp [h'] at h0 h2; rw [h0] at h2; cases h2
        · simp [Array.getElem?_eq_none h'] at h2
      have hjst : j ∉ st := fun hm => by
        have h2 := (hst j hm).ready hcl hj
        have h0 := (mem_ready.1 hr).1
        rcases Nat.lt_or_ge i listed.size with h' | h'
        · simp [h'] at h0 h2; rw [h0] at h2; cases h2
        · simp [Array.getElem?_eq_none h'] at h2
      have hwj : wrote st (listed.setIfInBounds j true) = false := by rw [wrote_set hjst]; exact hw
      have hwij : wrote st ((listed.setIfInBounds i true).setIfInBounds j true) = false := by rw [wrote_set hjst, wrote_set hit]; exact hw
      have h2 := wpOp_putIf hoj (hfree j oj hoj hji hjun hnot) (fun cs b => hsel i oi cs b hi) (fun cs b => hsel j oj cs b hoj) hQ hy h1
      have hfree' : ∀ k ok, ops[k]? = some ok → k ≠ i → (listed.setIfInBounds j true).getD k true = false →
          (∀ e ∈ ok.after, Region.binds md e = true → e.on ≠ i) → oi.apart ops ok = true := fun k ok hk hki hun hno => by
        refine hfree k ok hk hki ?_ hno
        by_cases hjk : j = k
        · subst hjk; exact hjun
        · rw [getD_set_ne true hjk] at hun; exact hun
      refine wpOp_mono (fun a' w' h3 => ⟨fun _ => h3.2.1 hwij, ih (listed.setIfInBounds j true) a' w' hfree' (hcl.set hj) (ready_mono hr (Ne.symm hji)) h3.1 hwj (h3.2.1 hwij) ?_⟩) h2
      rw [Array.setIfInBounds_comm _ _ hji]
      exact h3.2.2

/-- the same for what yields in whatever world -/
theorem wpAnyU_firstY {i : Nat} {oi : Oper} {v : Value} (hi : ops[i]? = some oi) (hsel : ∀ (j : Nat) (o : Oper) cs b, ops[j]? = some o → o.op ≠ .select cs b)
    (hQ : ∀ c a w, Q (.panic c) (a.put oi.dst v) w → Q (.panic c) a w) (hit : i ∉ st) :
    ∀ (fuel : Nat) (listed : Array Bool) (a : Act) (w : World),
      (∀ j oj, ops[j]? = some oj → j ≠ i → listed.getD j true = false → (∀ e ∈ oj.after, Region.binds md e = true → e.on ≠ i) → oi.apart ops oj = true) →
      i ∈ Region.ready md ops listed → YieldsIf P ops (fun _ => True) oi v a → (wrote st listed = false → S w) →
      wpAnyU P md ops Q st S fuel (listed.setIfInBounds i true) (a.put oi.dst v) w → wpAnyU P md ops Q st S (fuel + 1) listed a w := by
  intro fuel
  induction fuel with
  | zero =>
    intro listed a w _ hr hy hS H
    refine ⟨fun h => (by rw [h] at hr; cases hr), fun j hj => ?_⟩
    by_cases hji : j = i
    · subst hji; exact hy.wpOp hi trivial ⟨fun h => hS (by rwa [wrote_set hit] at h), H⟩
    · have := ready_mono hj hji
      rw [H.1] at this
      cases this
  | succ fuel ih =>
    intro listed a w hfree hr hy hS H
    refine ⟨fun h => (by rw [h] at hr; cases hr), fun j hj => ?_⟩
    by_cases hji : j = i
    · subst hji; exact hy.wpOp hi trivial ⟨fun h => hS (by rwa [wrote_set hit] at h), H⟩
    · have h1 := H.2 j (ready_mono hj hji)
      obtain ⟨hjun, oj, hoj, hall⟩ := mem_ready.1 hj
      have hnot : ∀ e ∈ oj.after, Region.binds md e = true → e.on ≠ i := fun e he hb heq => by
        have h2 := hall e he hb
        have h0 := (mem_ready.1 hr).1
        rw [heq] at h2
        rcases Nat.lt_or_ge i listed.size with h' | h'
        · simp [h'] at h0 h2; rw [h0] at h2; cases h2
        · simp [Array.getElem?_eq_none h'] at h2
      have h2 := wpOp_putIf hoj (hfree j oj hoj hji hjun hnot) (fun cs b => hsel i oi cs b hi) (fun cs b => hsel j oj cs b hoj) hQ hy h1
      have hfree' : ∀ k ok, ops[k]? = some ok → k ≠ i → (listed.setIfInBounds j true).getD k true = false →
          (∀ e ∈ ok.after, Region.binds md e = true → e.on ≠ i) → oi.apart ops ok = true := fun k ok hk hki hun hno => by
        refine hfree k ok hk hki ?_ hno
        by_cases hjk : j = k
        · subst hjk; exact hjun
        · rw [getD_set_ne true hjk] at hun; exact hun
      have hwij : wrote st ((listed.setIfInBounds i true).setIfInBounds j true) = wrote st (listed.setIfInBounds j true) := by rw [Array.setIfInBounds_comm _ _ (Ne.symm hji), wrote_set hit]
      refine wpOp_mono (fun a' w' h3 => ⟨fun h => h3.2.1 (by rw [hwij]; exact h), ih (listed.setIfInBounds j true) a' w' hfree' (ready_mono hr (Ne.symm hji)) h3.1 (fun h => h3.2.1 (by rw [hwij]; exact h)) ?_⟩) h2
      rw [Array.setIfInBounds_comm _ _ hji]
      exact h3.2.2
theorem wpAnyU_takeY {i : Nat} {oi : Oper} {v : Value} {fuel : Nat} {listed : Array Bool} {a : Act} {w : World} (hi : ops[i]? = some oi)
    (hs : Region.noSelect ops = true) (hf : Region.free md ops listed i = true) (hr : (Region.ready md ops listed).contains i = true) (hit : (!st.contains i) = true)
    (hQ : ∀ c a w, Q (.panic c) (a.put oi.dst v) w → Q (.panic c) a w) (hy : YieldsIf P ops (fun _ => True) oi v a) (hS : S w)
    (h : wpAnyU P md ops Q st S fuel (listed.setIfInBounds i true) (a.put oi.dst v) w) : wpAnyU P md ops Q st S (fuel + 1) listed a w :=
  wpAnyU_firstY hi (Region.noSelect_spec hs) hQ (by simpa using hit) fuel listed a w (Region.free_spec hi hf) (by simpa using hr) hy (fun _ => hS) h

/-- behind a store S is of no use any more -/
theorem wpAnyU_takeW {i : Nat} {oi : Oper} {v : Value} {fuel : Nat} {listed : Array Bool} {a : Act} {w : World} (hi : ops[i]? = some oi)
    (hs : Region.noSelect ops = true) (hf : Region.free md ops listed i = true) (hr : (Region.ready md ops listed).contains i = true) (hit : (!st.contains i && wrote st listed) = true)
    (hQ : ∀ c a w, Q (.panic c) (a.put oi.dst v) w → Q (.panic c) a w) (hy : YieldsIf P ops (fun _ => True) oi v a)
    (h : wpAnyU P md ops Q st S fuel (listed.setIfInBounds i true) (a.put oi.dst v) w) : wpAnyU P md ops Q st S (fuel + 1) listed a w := by
  rw [Bool.and_eq_true] at hit
  exact wpAnyU_firstY hi (Region.noSelect_spec hs) hQ (by simpa using hit.1) fuel listed a w (Region.free_spec hi hf) (by simpa using hr) hy (fun e => by rw [hit.2] at e; cases e) h

/-- do the stores wait for it? -/
def waits (md : Region.Mode) (ops : Array Oper) (st : List Nat) (i : Nat) : Bool := st.all (needsB md ops i 6)
theorem wpAnyU_take {i : Nat} {oi : Oper} {v : Value} {fuel : Nat} {listed : Array Bool} {a : Act} {w : World} (hi : ops[i]? = some oi)
    (hs : Region.noSelect ops = true) (hf : Region.free md ops listed i = true) (hr : (Region.ready md ops listed).contains i = true) (hst : waits md ops st i = true) (hit : (!st.contains i && cloB md ops listed) = true) (hwr : wrote st listed = false)
    (hQ : ∀ c a w, Q (.panic c) (a.put oi.dst v) w → Q (.panic c) a w) (hy : YieldsIf P ops S oi v a) (hS : S w)
    (h : wpAnyU P md ops Q st S fuel (listed.setIfInBounds i true) (a.put oi.dst v) w) : wpAnyU P md ops Q st S (fuel + 1) listed a w := by
  rw [Bool.and_eq_true] at hit
  exact wpAnyU_first hi (Region.noSelect_spec hs) hQ (by simpa using hit.1) (fun s hs => needsB_spec 6 s (List.all_eq_true.1 hst s hs)) fuel listed a w (Region.free_spec hi hf) (cloB_spec hit.2) (by simpa using hr) hy hwr hS h
def AllReadyU (P : Program) (md : Region.Mode) (ops : Array Oper) (Q : Exit → Act → World → Prop) (st : List Nat) (S : World → Prop) (fuel : Nat) (listed : Array Bool) (a : Act) (w : World) (rs : List Nat) : Prop :=
  ∀ i ∈ rs, wpOp P ops Q i (fun a' w' => (wrote st (listed.setIfInBounds i true) = false → S w') ∧ wpAnyU P md ops Q st S fuel (listed.setIfInBounds i true) a' w') a w
theorem AllReadyU.nil {fuel : Nat} {listed : Array Bool} {a : Act} {w : World} : AllReadyU P md ops Q st S fuel listed a w [] := fun _ h => by cases h
theorem AllReadyU.cons {fuel : Nat} {listed : Array Bool} {a : Act} {w : World} {i : Nat} {o : Oper} {rs : List Nat} (ho : ops[i]? = some o)
    (h : ∀ K' : Act → World → Prop, Hid (∀ a w, (wrote st (listed.setIfInBounds i true) = false → S w) → wpAnyU P md ops Q st S fuel (listed.setIfInBounds i true) a w → K' a w) → if Region.wanted o (yielded ops a.tmps) = true then Oper.wp P o a w K' Q else K' (a.put o.dst undef) w)
    (hs : AllReadyU P md ops Q st S fuel listed a w rs) : AllReadyU P md ops Q st S fuel listed a w (i :: rs) := fun j hj => by
  rcases List.mem_cons.1 hj with rfl | hj
  · exact wpOp_step ho (fun K' hK => h K' (Lib.hid fun a w hS hW => hK a w ⟨hS, hW⟩))
  · exact hs j hj
theorem wpAnyU_ready {rs : List Nat} {fuel : Nat} {listed : Array Bool} {a : Act} {w : World} (hr : Region.ready md ops listed = rs) (hne : rs ≠ [])
    (h : AllReadyU P md ops Q st S fuel listed a w rs) : wpAnyU P md ops Q st S (fuel + 1) listed a w := ⟨fun h0 => absurd (hr ▸ h0) hne, hr ▸ h⟩
theorem wpAnyU_done {listed : Array Bool} {a : Act} {w : World} (hr : Region.ready md ops listed = []) (h : Q .normal a w) :
    ∀ fuel, wpAnyU P md ops Q st S fuel listed a w
  | 0 => ⟨hr, h⟩
  | _ + 1 => ⟨fun _ => h, by rw [hr]; simp⟩
theorem wp_region_U {id : Nat} {a : Act} {w : World} (st : List Nat) (S : World → Prop) (hm : P.follows .mixedOrders = true)
    (h : wpAnyU P .any ops Q st S ops.size (Array.replicate ops.size false) a w.drew) : (Code.region id ops true).wp P Q a w :=
  wp_region_any hm (wpAny_of_U _ _ _ _ h)
end
end Go.Proofs.Ytooghdnlaonkaaa
