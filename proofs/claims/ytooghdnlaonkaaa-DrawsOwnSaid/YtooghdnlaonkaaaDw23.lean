/- Several of my texts in one: OwnC, Bot1G. -/
import Derived.Test.YtooghdnlaonkaaaDw22
import Derived.Test.YtooghdnlaonkaaaDw17
import Derived.Deep.QuietTactic
import Derived.Test.YtooghdnlaonkaaaDw19
import Derived.Sort.Grow
/- Slices of structs: equal ones, copies; from the frame. -/
namespace Go.Proofs.Ytooghdnlaonkaaa
open Go.RowKit

set_option maxRecDepth 100000 in
set_option maxHeartbeats 4000000 in
theorem slEqTh (l : List Rn) (n : Nat) (a b : Option Addr) (ca cb : Nat) (w : World) (h : Sa w a (ths l)) (h' : Sa w b (ths l)) (hn : l.length = n) (hl : n ≤ maxLen) :
    Calls Try.prog 18 #[.slice a n ca, .slice b n cb] w (RetB true w) := by
  have HN := Lib.hid hn; have HA := Lib.hid h; have HB := Lib.hid h'
  unfold maxLen at hl
  clear hn h h'
  have hne : (((n : Nat) : Int) == ((n : Nat) : Int)) = true := beq_self_eq_true _
  go_enter Try.func18, Try.ntmps18
  go_wp2_with fail
  go_loopw [13] (fun i wr => ∃ j : Nat, j ≤ n ∧ i = .int .i64 j ∧ Fr w wr []) (fun i _ => n - (intOf i).toNat)
  case atStart => exact ⟨0, by omega, rfl, Fr.start w⟩
  case round =>
    obtain ⟨j, hj, rfl, hfr⟩ := hrel
    by_cases hlt : j < n
    · obtain ⟨b1, o1, rfl, hb1, p1, p2, p3, p4⟩ := (hfr.old HA.out).thA j (by rw [HN.out]; exact hlt)
      obtain ⟨b2, o2, rfl, hb2, q1, q2, q3, q4⟩ := (hfr.old HB.out).thA j (by rw [HN.out]; exact hlt)
      generalize rnA l j = r at *
      obtain ⟨r1, r2, r3, r4, r5⟩ := r
      simp only at p1 p2 p3 p4 q1 q2 q3 q4
      have d1 : (0 : Int) ≤ (j : Int) := by omega
      have d2 : (j : Int) < (n : Int) := by omega
      have g1 : (r1 == r1) = true := beq_self_eq_true _
      have g2 : (r2 == r2) = true := beq_self_eq_true _
      have g3 : (r3 == r3) = true := beq_self_eq_true _
      have g4 : (r4 == r4) = true := beq_self_eq_true _
      go_wp2_with fail
      go_quiet (fail)
      go_wp2_with fail
      go_roundw
      case rel => exact ⟨j + 1, by omega, by go_num, hfr.drewN _⟩
      case measure => simp [intOf]; omega
    · go_wp2_with fail
      go_ret
      exact ⟨rfl, hfr⟩
set_option maxRecDepth 100000 in
set_option maxHeartbeats 4000000 in
theorem slEqTu (l : List Tu) (n : Nat) (a b : Option Addr) (ca cb : Nat) (w : World) (h : Sa w a (tus l)) (h' : Sa w b (tus l)) (hn : l.length = n) (hl : n ≤ maxLen) :
    Calls Try.prog 19 #[.slice a n ca, .slice b n cb] w (RetB true w) := by
  have HN := Lib.hid hn; have HA := Lib.hid h; have HB := Lib.hid h'
  unfold maxLen at hl
  clear hn h h'
  have hne : (((n : Nat) : Int) == ((n : Nat) : Int)) = true := beq_self_eq_true _
  go_enter Try.func19, Try.ntmps19
  go_wp2_with fail
  go_loopw [13] (fun i wr => ∃ j : Nat, j ≤ n ∧ i = .int .i64 j ∧ Fr w wr []) (fun i _ => n - (intOf i).toNat)
  case atStart => exact ⟨0, by omega, rfl, Fr.start w⟩
  case round =>
    obtain ⟨j, hj, rfl, hfr⟩ := hrel
    by_cases hlt : j < n
    · obtain ⟨b1, o1, rfl, hb1, p1, p2, p3⟩ := (hfr.old HA.out).tuA j (by rw [HN.out]; exact hlt)
      obtain ⟨b2, o2, rfl, hb2, q1, q2, q3⟩ := (hfr.old HB.out).tuA j (by rw [HN.out]; exact hlt)
      generalize tuA l j = r at *
      obtain ⟨r1, r2, r3⟩ := r
      simp only at p1 p2 p3 q1 q2 q3
      have d1 : (0 : Int) ≤ (j : Int) := by omega
      have d2 : (j : Int) < (n : Int) := by omega
      have g1 : (r1 == r1) = true := beq_self_eq_true _
      have g2 : (r2 == r2) = true := beq_self_eq_true _
      have g3 : (r3 == r3) = true := beq_self_eq_true _
      go_wp2_with fail
      go_quiet (fail)
      go_wp2_with fail
      go_roundw
      case rel => exact ⟨j + 1, by omega, by go_num, hfr.drewN _⟩
      case measure => simp [intOf]; omega
    · go_wp2_with fail
      go_ret
      exact ⟨rfl, hfr⟩

/-- append of foreign structs to an empty slice of the call's own -/
theorem wpList_cloneC {ops : Array Oper} {rest : List Oper} {o : Oper} {a : Act} {Q : Exit → Act → World → Prop} {w : World} (hgd : o.guard = none) (s x : Operand) (S T : TypeId) (z : Value) (c bytes : Nat)
    (hS : Try.prog.underlying S = some (.slice T)) (hT : (Try.prog.info? T).map (fun i => (i.zero, i.size, i.bytes)) = some (some z, c, bytes)) (hz : z.cells.size = c) (hc : 0 < c) (hby : 0 < bytes)
    (ho : o.op = .call { callee := .builtin .append, args := #[s, x], argTypes := #[S, S] })
    (N : Nat) (hN : w.heap.size = N) (sad : Addr) (m cp : Nat) (ys : List Value) (hs : a.eval s = .slice (some ⟨N, 0, none⟩) 0 0)
    (hx : a.eval x = .slice (some sad) m cp) (hY : Sa w (some sad) ys) (hm : ys.length = m * c) (h1 : ∀ u ∈ ys, u.oneCell' = true) (hlen : m * bytes ≤ 140737488355328)
    (h : ∀ ad' cap' w', Sa w' ad' ys → Below w.heap.size w w' → w'.ownsRow w.heap.size T c (.slice ad' m cap') m ys → wpList Try.prog ops Q rest (a.put o.dst (.slice ad' m cap')) w') :
    wpList Try.prog ops Q (o :: rest) a (w.alloc (.cells #[] T)) := by
  subst hN
  obtain ⟨i0, hi, hz0, hz1, hz2⟩ := info_parts hT
  have hO : (w.alloc (.cells #[] T)).ownsRow w.heap.size T c (.slice (some ⟨w.heap.size, 0, none⟩) 0 0) 0 [] := World.ownsRow_made w #[] 0 (Nat.le_refl _) (Nat.zero_le _) (by simp)
  have hY' := hY.alloc (.cells #[] T)
  refine wpList_append_own_at _ hgd s x S ho w.heap.size T i0 z c bytes hS hi hz0 hz1 hz2 hz hc (.slice (some ⟨w.heap.size, 0, none⟩) 0 0) 0 [] hs hO
    sad m cp ys hx hm ?_ h1 ?_ ?_ ?_ ?_
  · intro j u hj
    have hjl : j < ys.length := (List.getElem?_eq_some_iff.1 hj).1
    obtain ⟨b, off, e, _, hcl⟩ := hY'.at j hjl
    cases e
    rw [show ((⟨b, off, none⟩ : Addr).add j) = ⟨b, off + j, none⟩ from by unfold Addr.add; split <;> simp_all, hcl, hj]
  · have := Nat.le_mul_of_pos_right m hby
    unfold maxLen; omega
  · rw [Nat.zero_add]; exact hlen
  · simp
  · intro v' w' k1 k2 hnil hat
    have hsz := k2.size
    rw [Nat.zero_add, List.nil_append] at k1
    have hbel : Below w.heap.size w w' := Below.grown (row := some w.heap.size) ((Fr.start w).alloc (.cells #[] T)).bel k2 (by simp) (fun k hk => by cases hk; exact Nat.le_refl _)
    rcases k1.2 with ⟨e1, e2⟩ | ⟨g, cap', cur, e1, h3, h4, h5, h6, h7, h8⟩
    · subst e1 e2
      have : ys = [] := List.eq_nil_of_length_eq_zero (by omega)
      subst this
      exact h none 0 w' (Sa.nil _ _) hbel k1
    · subst e1
      refine h (some ⟨g, 0, none⟩) cap' w' (fun h0 => ⟨g, 0, rfl, (Array.getElem?_eq_some_iff.1 h4).1, fun i hi => ?_⟩) hbel k1
      rw [Nat.zero_add]
      exact World.ownsRow.cellAt k1 i (by rw [← hm]; exact hi)
set_option maxRecDepth 100000 in
set_option maxHeartbeats 4000000 in
theorem clnTh (l : List Rn) (n : Nat) (a : Option Addr) (cap : Nat) (w : World) (h : Sa w a (ths l)) (hn : l.length = n) (hnil : a = none → n = 0 ∧ cap = 0) (hl : n * 24 ≤ 140737488355328) :
    Calls Try.prog 9 #[.slice a n cap] w fun e w' => ∃ ad cp, e = .returned (.slice ad n cp) ∧ Sa w' ad (ths l) ∧ Below w.heap.size w w' := by
  cases a with
  | none =>
    obtain ⟨rfl, rfl⟩ := hnil rfl
    obtain rfl := List.eq_nil_of_length_eq_zero hn
    have heq : ∀ w, Sem.run Try.prog (binOp .eql 22 (.slice none 0 0) (.slice none 0 0)) w = .ok (.bool true) w := fun w => Lib.run_eql_slice_nil w 22 28 none 0 0 0 0 Try.underlying22
    go_enter Try.func9, Try.ntmps9
    go_wp2_with fail
    go_ret
    exact ⟨none, ⟨0, rfl⟩, Sa.nil _ _, Below.refl _ _⟩
  | some sad =>
    have HS := Lib.hid h
    have HL := Lib.hid (show (ths l).length = n * 4 by rw [ths_len, hn])
    have H1 : Hid (∀ u ∈ ths l, u.oneCell' = true) := Lib.hid (fun u hu => by
      obtain ⟨r, _, hr⟩ := List.mem_flatMap.1 hu
      simp only [thC, List.mem_cons, List.not_mem_nil, or_false] at hr
      rcases hr with rfl | rfl | rfl | rfl <;> rfl)
    clear h hn hnil
    have heq : ∀ w, Sem.run Try.prog (binOp .eql 22 (.slice (some sad) n cap) (.slice none 0 0)) w = .ok (.bool false) w := fun w => Lib.run_eql_slice_nil w 22 28 (some sad) n cap 0 0 Try.underlying22
    go_enter Try.func9, Try.ntmps9
    go_wp2_with (with_reducible refine at_slot 7 ?_; go_must (refine wpList_cloneC rfl _ _ 22 28 (.agg #[.int .i64 0, .int .i64 0, .bool false, .bool false]) 4 24 Try.underlying22 (by kernel_rfl) rfl (by omega) (by omega) rfl w.heap.size rfl sad n cap (ths l) rfl rfl HS.out HL.out H1.out hl ?_); intro ad' cp' w2 hs2 hb2 _; have HS2 := Lib.hid hs2; have HB2 := Lib.hid hb2; clear hs2 hb2)
    go_ret
    exact ⟨_, _, rfl, HS2.out, HB2.out⟩
set_option maxRecDepth 100000 in
set_option maxHeartbeats 4000000 in
theorem clnTu (l : List Tu) (n : Nat) (a : Option Addr) (cap : Nat) (w : World) (h : Sa w a (tus l)) (hn : l.length = n) (hnil : a = none → n = 0 ∧ cap = 0) (hl : n * 24 ≤ 140737488355328) :
    Calls Try.prog 10 #[.slice a n cap] w fun e w' => ∃ ad cp, e = .returned (.slice ad n cp) ∧ Sa w' ad (tus l) ∧ Below w.heap.size w w' := by
  cases a with
  | none =>
    obtain ⟨rfl, rfl⟩ := hnil rfl
    obtain rfl := List.eq_nil_of_length_eq_zero hn
    have heq : ∀ w, Sem.run Try.prog (binOp .eql 23 (.slice none 0 0) (.slice none 0 0)) w = .ok (.bool true) w := fun w => Lib.run_eql_slice_nil w 23 31 none 0 0 0 0 Try.underlying23
    go_enter Try.func10, Try.ntmps10
    go_wp2_with fail
    go_ret
    exact ⟨none, ⟨0, rfl⟩, Sa.nil _ _, Below.refl _ _⟩
  | some sad =>
    have HS := Lib.hid h
    have HL := Lib.hid (show (tus l).length = n * 3 by rw [tus_len, hn])
    have H1 : Hid (∀ u ∈ tus l, u.oneCell' = true) := Lib.hid (fun u hu => by
      obtain ⟨r, _, hr⟩ := List.mem_flatMap.1 hu
      simp only [tuC, List.mem_cons, List.not_mem_nil, or_false] at hr
      rcases hr with rfl | rfl | rfl <;> rfl)
    clear h hn hnil
    have heq : ∀ w, Sem.run Try.prog (binOp .eql 23 (.slice (some sad) n cap) (.slice none 0 0)) w = .ok (.bool false) w := fun w => Lib.run_eql_slice_nil w 23 31 (some sad) n cap 0 0 Try.underlying23
    go_enter Try.func10, Try.ntmps10
    go_wp2_with (with_reducible refine at_slot 7 ?_; go_must (refine wpList_cloneC rfl _ _ 23 31 (.agg #[.int .i64 0, .int .i64 0, .int .i64 0]) 3 24 Try.underlying23 (by kernel_rfl) rfl (by omega) (by omega) rfl w.heap.size rfl sad n cap (tus l) rfl rfl HS.out HL.out H1.out hl ?_); intro ad' cp' w2 hs2 hb2 _; have HS2 := Lib.hid hs2; have HB2 := Lib.hid hb2; clear hs2 hb2)
    go_ret
    exact ⟨_, _, rfl, HS2.out, HB2.out⟩
set_option maxRecDepth 100000 in
set_option maxHeartbeats 4000000 in
theorem clnSt (l : List ByteArray) (n : Nat) (a : Option Addr) (cap : Nat) (w : World) (h : Sa w a (strV l)) (hn : l.length = n) (hnil : a = none → n = 0 ∧ cap = 0) (hl : n * 16 ≤ 140737488355328) :
    Calls Try.prog 16 #[.slice a n cap] w fun e w' => ∃ ad cp, e = .returned (.slice ad n cp) ∧ Fr w w' [⟨9, .slice ad n cp, strV l⟩] := by
  cases a with
  | none =>
    obtain ⟨rfl, rfl⟩ := hnil rfl
    obtain rfl := List.eq_nil_of_length_eq_zero hn
    have heq : ∀ w, Sem.run Try.prog (binOp .eql 40 (.slice none 0 0) (.slice none 0 0)) w = .ok (.bool true) w := fun w => Lib.run_eql_slice_nil w 40 9 none 0 0 0 0 Try.underlying40
    go_enter Try.func16, Try.ntmps16
    go_wp2_with fail
    go_ret
    exact ⟨none, 0, rfl, (Fr.start w).nilSlice _⟩
  | some sad =>
    have HS := Lib.hid h
    have HL := Lib.hid (show (strV l).length = n * 1 by rw [strV_len, hn, Nat.mul_one])
    have H1 : Hid (∀ u ∈ strV l, u.oneCell' = true) := Lib.hid (fun u hu => by
      obtain ⟨r, _, rfl⟩ := List.mem_map.1 hu
      rfl)
    have HN := Lib.hid (show (strV l).length = n by rw [strV_len, hn])
    clear h hn hnil
    have heq : ∀ w, Sem.run Try.prog (binOp .eql 40 (.slice (some sad) n cap) (.slice none 0 0)) w = .ok (.bool false) w := fun w => Lib.run_eql_slice_nil w 40 9 (some sad) n cap 0 0 Try.underlying40
    go_enter Try.func16, Try.ntmps16
    go_wp2_with (with_reducible refine at_slot 7 ?_; go_must (refine wpList_cloneC rfl _ _ 40 9 (.string ByteArray.empty) 1 16 Try.underlying40 (by kernel_rfl) rfl (by omega) (by omega) rfl w.heap.size rfl sad n cap (strV l) rfl rfl HS.out HL.out H1.out hl ?_); intro ad' cp' w2 hs2 hb2 ho2; have HB2 := Lib.hid hb2; have HO2 := Lib.hid ho2; clear hs2 hb2 ho2)
    go_ret
    refine ⟨_, _, rfl, HB2.out, ⟨fun e he => ?_, List.pairwise_singleton _ _⟩⟩
    rcases List.mem_singleton.1 he with rfl
    unfold Ent.own
    rw [HN.out]; exact HO2.out
theorem IsStr.ths {w : World} {a : Option Addr} {len cap : Nat} (h : IsStr [.int, .int, .bool, .bool] w a len cap) : ∃ l : List Rn, l.length = len ∧ len ≤ cap ∧ len ≤ maxLen ∧ Sa w a (ths l) := by
  obtain ⟨h1, h2, h3⟩ := h
  rcases h3 with ⟨rfl, rfl, rfl⟩ | ⟨x, rfl, hc⟩
  · exact ⟨[], rfl, h1, h2, Sa.nil _ _⟩
  · obtain ⟨l, e, _, hs⟩ := sa_structs thC 4 (fun _ => rfl) (by decide) rn0 (w := w) (a := x) (len := len) (fun i hi => by
      obtain ⟨v0, c0, n0, rfl⟩ := hc i hi 0 .int rfl
      obtain ⟨v1, c1, n1, rfl⟩ := hc i hi 1 .int rfl
      obtain ⟨v2, c2, n2, rfl⟩ := hc i hi 2 .bool rfl
      obtain ⟨v3, c3, n3, rfl⟩ := hc i hi 3 .bool rfl
      refine ⟨⟨n0, n1, n2, n3, 0⟩, fun j hj => ?_⟩
      have : j = 0 ∨ j = 1 ∨ j = 2 ∨ j = 3 := by omega
      rcases this with rfl | rfl | rfl | rfl
      · exact c0
      · exact c1
      · exact c2
      · exact c3)
    exact ⟨l, e, h1, h2, hs⟩
theorem IsStr.tus {w : World} {a : Option Addr} {len cap : Nat} (h : IsStr [.int, .int, .int] w a len cap) : ∃ l : List Tu, l.length = len ∧ len ≤ cap ∧ len ≤ maxLen ∧ Sa w a (tus l) := by
  obtain ⟨h1, h2, h3⟩ := h
  rcases h3 with ⟨rfl, rfl, rfl⟩ | ⟨x, rfl, hc⟩
  · exact ⟨[], rfl, h1, h2, Sa.nil _ _⟩
  · obtain ⟨l, e, _, hs⟩ := sa_structs tuC 3 (fun _ => rfl) (by decide) tu0 (w := w) (a := x) (len := len) (fun i hi => by
      obtain ⟨v0, c0, n0, rfl⟩ := hc i hi 0 .int rfl
      obtain ⟨v1, c1, n1, rfl⟩ := hc i hi 1 .int rfl
      obtain ⟨v2, c2, n2, rfl⟩ := hc i hi 2 .int rfl
      refine ⟨⟨n0, n1, n2⟩, fun j hj => ?_⟩
      have : j = 0 ∨ j = 1 ∨ j = 2 := by omega
      rcases this with rfl | rfl | rfl
      · exact c0
      · exact c1
      · exact c2)
    exact ⟨l, e, h1, h2, hs⟩
end Go.Proofs.Ytooghdnlaonkaaa
/- bottom.Mark and bottom.ahead: the world grows by blocks alone (for slices.SortFunc). -/
namespace Go.Proofs.Ytooghdnlaonkaaa
open Go.RowKit Go.Sort

/-- the world has drawn, and grown by blocks -/
def Grew (w w' : World) : Prop := ∃ q os, w' = grow (w.drewN q) os
theorem Grew.trans {w w1 w2 : World} (h : Grew w w1) (h' : Grew w1 w2) : Grew w w2 := by
  obtain ⟨q, os, rfl⟩ := h
  obtain ⟨q', os', rfl⟩ := h'
  refine ⟨q + q', os ++ os', ?_⟩
  show grow (grow ((w.drewN q).drewN q') os) os' = _
  rw [grow_grow, World.drewN_drewN]
theorem toBytesG (s : ByteArray) (w : World) : ∃ N C W, Sem.run Try.prog (convert 9 69 (.string s)) w = .ok (.slice (some ⟨N, 0, none⟩) s.size C) W ∧ Grew w W ∧ ∀ j, j < s.size → W.cell? ⟨N, j, none⟩ = some (.int .u8 ((byA s j).toNat : Nat)) := by
  refine ⟨_, _, _, run_bytes_of_string w _ _ 5 s Try.underlying9 Try.underlying69 Try.underlying5, ⟨1, #[_], alloc_eq_grow w.drew _⟩, fun j hj => ?_⟩
  have hN : w.heap.size = w.drew.heap.size := rfl
  unfold World.cell?
  have h0 : (w.drew.alloc (.cells (bytesRow s (grownCap w s.size 0 5)) 5 ((bytesRow s (grownCap w s.size 0 5)).size, (bytesRow s (grownCap w s.size 0 5)).size + 1))).heap[w.heap.size]? = some (.cells (bytesRow s (grownCap w s.size 0 5)) 5 ((bytesRow s (grownCap w s.size 0 5)).size, (bytesRow s (grownCap w s.size 0 5)).size + 1)) := by
    show (w.heap.push _)[w.heap.size]? = _
    simp
  simp only [h0]
  have hj' : j < s.data.size := hj
  simp [bytesRow, byA, Array.getElem?_append]
  rw [if_pos hj, Array.getElem?_eq_getElem hj']; rfl
set_option maxRecDepth 100000 in
set_option maxHeartbeats 4000000 in
theorem botMarkG (s : ByteArray) (w : World) (hs : s.size ≤ maxLen) :
    Calls Try.prog 159 #[.string s] w fun e w' => e = .returned (.int .u32 (markS s)) ∧ Grew w w' := by
  unfold maxLen at hs
  obtain ⟨N, C, W, hcv, hfr, hcell⟩ := toBytesG s w
  have HF := Lib.hid hfr; have HC := Lib.hid hcell
  clear hfr hcell
  go_enter Try.func159, Try.ntmps159
  go_wp2_with fail
  clear hcv
  obtain ⟨n, hn⟩ : ∃ n, s.size = n := ⟨_, rfl⟩
  rw [hn] at hs ⊢
  have HN := Lib.hid hn
  clear hn
  go_loop [3, 9] (fun x i => ∃ k : Nat, k ≤ n ∧ i = .int .i64 k ∧ x = .int .u32 (mkAll s k)) (fun _ i => n - (intOf i).toNat)
  case atStart => exact ⟨0, by omega, rfl, rfl⟩
  case round =>
    obtain ⟨k, hk, rfl, rfl⟩ := hrel
    by_cases hlt : k < n
    · have hc := HC.out k (by rw [HN.out]; exact hlt)
      have d1 : (0 : Int) ≤ (k : Int) := by omega
      have d2 : (k : Int) < (n : Int) := by omega
      have HST := Lib.hid (mkAll_succ s k (by rw [HN.out]; exact hlt))
      obtain ⟨c, hcc⟩ : ∃ c, byA s k = c := ⟨_, rfl⟩
      rw [hcc] at hc HST
      clear hcc
      go_wp2_with fail
      exact ⟨⟨k + 1, by omega, by simp, by rw [HST.out]; rfl⟩, by simp only [intOf]; omega⟩
    · obtain rfl : k = n := by omega
      go_wp2_with fail
      go_ret
      exact ⟨by unfold markS; rw [HN.out]; rfl, HF.out⟩
set_option maxRecDepth 100000 in
set_option maxHeartbeats 4000000 in
theorem botAheadG (a b : ByteArray) (w : World) (ha : a.size ≤ maxLen) (hb : b.size ≤ maxLen) :
    Calls Try.prog 129 #[.string a, .string b] w fun e w' => e = .returned (.int .i64 (ahS a b)) ∧ Grew w w' := by
  have hM1 := botMarkG a w ha
  have hM2 := fun w' => botMarkG b w' hb
  unfold ahS
  obtain ⟨x, hx⟩ : ∃ x, markS a = x := ⟨_, rfl⟩
  obtain ⟨y, hy⟩ : ∃ y, markS b = y := ⟨_, rfl⟩
  rw [hx] at hM1 ⊢
  simp only [hy] at hM2 ⊢
  have HM1 := Lib.hid hM1
  have HM2 := fun w' => Lib.hid (hM2 w')
  obtain ⟨R, hR⟩ : ∃ R : Int, (if x < y ∨ (x = y ∧ Op.bytesLess a.toList b.toList = true) then -1 else if a = b then 0 else 1) = R := ⟨_, rfl⟩
  rw [hR]
  have HR := Lib.hid hR
  clear ha hb hx hy hM1 hM2 hR
  go_enter Try.func129, Try.ntmps129
  go_wp2_with fail
  refine HM1.out.mono ?_; rintro e w1 ⟨rfl, hf1⟩
  have HF1 := Lib.hid hf1
  clear hf1
  go_wp2_with fail
  refine (HM2 w1).out.mono ?_; rintro e w2 ⟨rfl, hf2⟩
  have HF2 := Lib.hid (HF1.out.trans hf2)
  clear hf2
  by_cases c1 : x < y
  · have g1 : decide (x < y) = true := decide_eq_true c1
    have hr := HR.out
    rw [if_pos (.inl c1)] at hr
    have HR2 := Lib.hid hr
    clear hr
    go_wp2_with fail
    go_ret
    exact ⟨by rw [← HR2.out]; rfl, HF2.out⟩
  · have g1 : decide (x < y) = false := decide_eq_false c1
    by_cases c2 : x = y
    · have g2 : (x == y) = true := by rw [c2]; exact beq_self_eq_true _
      have hr := HR.out
      cases hbl : Op.bytesLess a.toList b.toList
      · rw [if_neg (by rintro (h | ⟨_, h⟩); exact c1 h; rw [hbl] at h; cases h)] at hr
        have g3 := str_eq a b
        by_cases c3 : a = b
        · rw [decide_eq_true c3] at g3
          rw [if_pos c3] at hr
          have HR2 := Lib.hid hr
          clear hr c3 c2 c1
          go_wp2_with fail
          go_ret
          exact ⟨by rw [← HR2.out]; rfl, HF2.out⟩
        · rw [decide_eq_false c3] at g3
          rw [if_neg c3] at hr
          have HR2 := Lib.hid hr
          clear hr c3 c2 c1
          go_wp2_with fail
          go_ret
          exact ⟨by rw [← HR2.out]; rfl, HF2.out⟩
      · rw [if_pos (.inr ⟨c2, hbl⟩)] at hr
        have HR2 := Lib.hid hr
        clear hr c2 c1
        go_wp2_with fail
        go_ret
        exact ⟨by rw [← HR2.out]; rfl, HF2.out⟩
    · have g2 : (x == y) = false := beq_eq_false_iff_ne.2 c2
      have g3 := str_eq a b
      have hr := HR.out
      rw [if_neg (by rintro (h | ⟨h, _⟩); exact c1 h; exact c2 h)] at hr
      by_cases c3 : a = b
      · rw [decide_eq_true c3] at g3
        rw [if_pos c3] at hr
        have HR2 := Lib.hid hr
        clear hr c3
        go_wp2_with fail
        go_ret
        exact ⟨by rw [← HR2.out]; rfl, HF2.out⟩
      · rw [decide_eq_false c3] at g3
        rw [if_neg c3] at hr
        have HR2 := Lib.hid hr
        clear hr c3
        go_wp2_with fail
        go_ret
        exact ⟨by rw [← HR2.out]; rfl, HF2.out⟩
end Go.Proofs.Ytooghdnlaonkaaa
