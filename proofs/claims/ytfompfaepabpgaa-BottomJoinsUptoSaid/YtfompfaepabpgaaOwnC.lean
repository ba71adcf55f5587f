/- Slices of structs: equal ones, copies; from the frame. -/
import Derived.Test.YtfompfaepabpgaaMgWar
import Derived.Test.YtfompfaepabpgaaStrus
import Derived.Test.YtfompfaepabpgaaSlEqS
import Derived.Deep.QuietTactic
namespace Go.Proofs.Ytfompfaepabpgaa
open Go.RowKit

set_option maxRecDepth 100000 in
set_option maxHeartbeats 4000000 in
theorem slEqTh (l : List Rn) (n : Nat) (a b : Option Addr) (ca cb : Nat) (w : World) (h : Sa w a (ths l)) (h' : Sa w b (ths l)) (hn : l.length = n) (hl : n ≤ maxLen) :
    Calls Try.prog 43 #[.slice a n ca, .slice b n cb] w (RetB true w) := by
  have HN := Lib.hid hn; have HA := Lib.hid h; have HB := Lib.hid h'
  unfold maxLen at hl
  clear hn h h'
  have hne : (((n : Nat) : Int) == ((n : Nat) : Int)) = true := beq_self_eq_true _
  go_enter Try.func43, Try.ntmps43
  go_wp2_with fail
  go_loopw [13] (fun i wr => ∃ j : Nat, j ≤ n ∧ i = .int .i64 j ∧ Fr w wr []) (fun i _ => n - (intOf i).toNat)
  case atStart => exact ⟨0, by omega, rfl, Fr.start w⟩
  case round =>
    obtain ⟨j, hj, rfl, hfr⟩ := hrel
    by_cases hlt : j < n
    · obtain ⟨b1, o1, rfl, hb1, p1, p2, p3, p4⟩ := (hfr.old HA.out).thA j (by rw [HN.out]; exact hlt)
      obtain ⟨b2, o2, rfl, hb2, q1, q2, q3, q4⟩ := (hfr.old HB.out).thA j (by rw [HN.out]; exact hlt)
      generalize rnA l j = r at *
      obtain ⟨r1, r2, r3, r4, r5⟩ := r
      simp only at p1 p2 p3 p4 q1 q2 q3 q4
      have d1 : (0 : Int) ≤ (j : Int) := by omega
      have d2 : (j : Int) < (n : Int) := by omega
      have g1 : (r1 == r1) = true := beq_self_eq_true _
      have g2 : (r2 == r2) = true := beq_self_eq_true _
      have g3 : (r3 == r3) = true := beq_self_eq_true _
      have g4 : (r4 == r4) = true := beq_self_eq_true _
      go_wp2_with fail
      go_quiet (fail)
      go_wp2_with fail
      go_roundw
      case rel => exact ⟨j + 1, by omega, by go_num, hfr.drewN _⟩
      case measure => simp [intOf]; omega
    · go_wp2_with fail
      go_ret
      exact ⟨rfl, hfr⟩
set_option maxRecDepth 100000 in
set_option maxHeartbeats 4000000 in
theorem slEqTu (l : List Tu) (n : Nat) (a b : Option Addr) (ca cb : Nat) (w : World) (h : Sa w a (tus l)) (h' : Sa w b (tus l)) (hn : l.length = n) (hl : n ≤ maxLen) :
    Calls Try.prog 44 #[.slice a n ca, .slice b n cb] w (RetB true w) := by
  have HN := Lib.hid hn; have HA := Lib.hid h; have HB := Lib.hid h'
  unfold maxLen at hl
  clear hn h h'
  have hne : (((n : Nat) : Int) == ((n : Nat) : Int)) = true := beq_self_eq_true _
  go_enter Try.func44, Try.ntmps44
  go_wp2_with fail
  go_loopw [13] (fun i wr => ∃ j : Nat, j ≤ n ∧ i = .int .i64 j ∧ Fr w wr []) (fun i _ => n - (intOf i).toNat)
  case atStart => exact ⟨0, by omega, rfl, Fr.start w⟩
  case round =>
    obtain ⟨j, hj, rfl, hfr⟩ := hrel
    by_cases hlt : j < n
    · obtain ⟨b1, o1, rfl, hb1, p1, p2, p3⟩ := (hfr.old HA.out).tuA j (by rw [HN.out]; exact hlt)
      obtain ⟨b2, o2, rfl, hb2, q1, q2, q3⟩ := (hfr.old HB.out).tuA j (by rw [HN.out]; exact hlt)
      generalize tuA l j = r at *
      obtain ⟨r1, r2, r3⟩ := r
      simp only at p1 p2 p3 q1 q2 q3
      have d1 : (0 : Int) ≤ (j : Int) := by omega
      have d2 : (j : Int) < (n : Int) := by omega
      have g1 : (r1 == r1) = true := beq_self_eq_true _
      have g2 : (r2 == r2) = true := beq_self_eq_true _
      have g3 : (r3 == r3) = true := beq_self_eq_true _
      go_wp2_with fail
      go_quiet (fail)
      go_wp2_with fail
      go_roundw
      case rel => exact ⟨j + 1, by omega, by go_num, hfr.drewN _⟩
      case measure => simp [intOf]; omega
    · go_wp2_with fail
      go_ret
      exact ⟨rfl, hfr⟩

/-- append of foreign structs to an empty slice of the call's own -/
theorem wpList_cloneC {ops : Array Oper} {rest : List Oper} {o : Oper} {a : Act} {Q : Exit → Act → World → Prop} {w : World} (hgd : o.guard = none) (s x : Operand) (S T : TypeId) (z : Value) (c bytes : Nat)
    (hS : Try.prog.underlying S = some (.slice T)) (hT : (Try.prog.info? T).map (fun i => (i.zero, i.size, i.bytes)) = some (some z, c, bytes)) (hz : z.cells.size = c) (hc : 0 < c) (hby : 0 < bytes)
    (ho : o.op = .call { callee := .builtin .append, args := #[s, x], argTypes := #[S, S] })
    (N : Nat) (hN : w.heap.size = N) (sad : Addr) (m cp : Nat) (ys : List Value) (hs : a.eval s = .slice (some ⟨N, 0, none⟩) 0 0)
    (hx : a.eval x = .slice (some sad) m cp) (hY : Sa w (some sad) ys) (hm : ys.length = m * c) (h1 : ∀ u ∈ ys, u.oneCell' = true) (hlen : m * bytes ≤ 140737488355328)
    (h : ∀ ad' cap' w', Sa w' ad' ys → Below w.heap.size w w' → w'.ownsRow w.heap.size T c (.slice ad' m cap') m ys → wpList Try.prog ops Q rest (a.put o.dst (.slice ad' m cap')) w') :
    wpList Try.prog ops Q (o :: rest) a (w.alloc (.cells #[] T)) := by
  subst hN
  obtain ⟨i0, hi, hz0, hz1, hz2⟩ := info_parts hT
  have hO : (w.alloc (.cells #[] T)).ownsRow w.heap.size T c (.slice (some ⟨w.heap.size, 0, none⟩) 0 0) 0 [] := World.ownsRow_made w #[] 0 (Nat.le_refl _) (Nat.zero_le _) (by simp)
  have hY' := hY.alloc (.cells #[] T)
  refine wpList_append_own_at _ hgd s x S ho w.heap.size T i0 z c bytes hS hi hz0 hz1 hz2 hz hc (.slice (some ⟨w.heap.size, 0, none⟩) 0 0) 0 [] hs hO
    sad m cp ys hx hm ?_ h1 ?_ ?_ ?_ ?_
  · intro j u hj
    have hjl : j < ys.length := (List.getElem?_eq_some_iff.1 hj).1
    obtain ⟨b, off, e, _, hcl⟩ := hY'.at j hjl
    cases e
    rw [show ((⟨b, off, none⟩ : Addr).add j) = ⟨b, off + j, none⟩ from by unfold Addr.add; split <;> simp_all, hcl, hj]
  · have := Nat.le_mul_of_pos_right m hby
    unfold maxLen; omega
  · rw [Nat.zero_add]; exact hlen
  · simp
  · intro v' w' k1 k2 hnil hat
    have hsz := k2.size
    rw [Nat.zero_add, List.nil_append] at k1
    have hbel : Below w.heap.size w w' := Below.grown (row := some w.heap.size) ((Fr.start w).alloc (.cells #[] T)).bel k2 (by simp) (fun k hk => by cases hk; exact Nat.le_refl _)
    rcases k1.2 with ⟨e1, e2⟩ | ⟨g, cap', cur, e1, h3, h4, h5, h6, h7, h8⟩
    · subst e1 e2
      have : ys = [] := List.eq_nil_of_length_eq_zero (by omega)
      subst this
      exact h none 0 w' (Sa.nil _ _) hbel k1
    · subst e1
      refine h (some ⟨g, 0, none⟩) cap' w' (fun h0 => ⟨g, 0, rfl, (Array.getElem?_eq_some_iff.1 h4).1, fun i hi => ?_⟩) hbel k1
      rw [Nat.zero_add]
      exact World.ownsRow.cellAt k1 i (by rw [← hm]; exact hi)
set_option maxRecDepth 100000 in
set_option maxHeartbeats 4000000 in
theorem clnTh (l : List Rn) (n : Nat) (a : Option Addr) (cap : Nat) (w : World) (h : Sa w a (ths l)) (hn : l.length = n) (hnil : a = none → n = 0 ∧ cap = 0) (hl : n * 24 ≤ 140737488355328) :
    Calls Try.prog 36 #[.slice a n cap] w fun e w' => ∃ ad cp, e = .returned (.slice ad n cp) ∧ Sa w' ad (ths l) ∧ Below w.heap.size w w' := by
  cases a with
  | none =>
    obtain ⟨rfl, rfl⟩ := hnil rfl
    obtain rfl := List.eq_nil_of_length_eq_zero hn
    have heq : ∀ w, Sem.run Try.prog (binOp .eql 68 (.slice none 0 0) (.slice none 0 0)) w = .ok (.bool true) w := fun w => Lib.run_eql_slice_nil w 68 72 none 0 0 0 0 Try.underlying68
    go_enter Try.func36, Try.ntmps36
    go_wp2_with fail
    go_ret
    exact ⟨none, ⟨0, rfl⟩, Sa.nil _ _, Below.refl _ _⟩
  | some sad =>
    have HS := Lib.hid h
    have HL := Lib.hid (show (ths l).length = n * 4 by rw [ths_len, hn])
    have H1 : Hid (∀ u ∈ ths l, u.oneCell' = true) := Lib.hid (fun u hu => by
      obtain ⟨r, _, hr⟩ := List.mem_flatMap.1 hu
      simp only [thC, List.mem_cons, List.not_mem_nil, or_false] at hr
      rcases hr with rfl | rfl | rfl | rfl <;> rfl)
    clear h hn hnil
    have heq : ∀ w, Sem.run Try.prog (binOp .eql 68 (.slice (some sad) n cap) (.slice none 0 0)) w = .ok (.bool false) w := fun w => Lib.run_eql_slice_nil w 68 72 (some sad) n cap 0 0 Try.underlying68
    go_enter Try.func36, Try.ntmps36
    go_wp2_with (with_reducible refine at_slot 7 ?_; go_must (refine wpList_cloneC rfl _ _ 68 72 (.agg #[.int .i64 0, .int .i64 0, .bool false, .bool false]) 4 24 Try.underlying68 (by kernel_rfl) rfl (by omega) (by omega) rfl w.heap.size rfl sad n cap (ths l) rfl rfl HS.out HL.out H1.out hl ?_); intro ad' cp' w2 hs2 hb2 _; have HS2 := Lib.hid hs2; have HB2 := Lib.hid hb2; clear hs2 hb2)
    go_ret
    exact ⟨_, _, rfl, HS2.out, HB2.out⟩
set_option maxRecDepth 100000 in
set_option maxHeartbeats 4000000 in
theorem clnTu (l : List Tu) (n : Nat) (a : Option Addr) (cap : Nat) (w : World) (h : Sa w a (tus l)) (hn : l.length = n) (hnil : a = none → n = 0 ∧ cap = 0) (hl : n * 24 ≤ 140737488355328) :
    Calls Try.prog 37 #[.slice a n cap] w fun e w' => ∃ ad cp, e = .returned (.slice ad n cp) ∧ Sa w' ad (tus l) ∧ Below w.heap.size w w' := by
  cases a with
  | none =>
    obtain ⟨rfl, rfl⟩ := hnil rfl
    obtain rfl := List.eq_nil_of_length_eq_zero hn
    have heq : ∀ w, Sem.run Try.prog (binOp .eql 69 (.slice none 0 0) (.slice none 0 0)) w = .ok (.bool true) w := fun w => Lib.run_eql_slice_nil w 69 75 none 0 0 0 0 Try.underlying69
    go_enter Try.func37, Try.ntmps37
    go_wp2_with fail
    go_ret
    exact ⟨none, ⟨0, rfl⟩, Sa.nil _ _, Below.refl _ _⟩
  | some sad =>
    have HS := Lib.hid h
    have HL := Lib.hid (show (tus l).length = n * 3 by rw [tus_len, hn])
    have H1 : Hid (∀ u ∈ tus l, u.oneCell' = true) := Lib.hid (fun u hu => by
      obtain ⟨r, _, hr⟩ := List.mem_flatMap.1 hu
      simp only [tuC, List.mem_cons, List.not_mem_nil, or_false] at hr
      rcases hr with rfl | rfl | rfl <;> rfl)
    clear h hn hnil
    have heq : ∀ w, Sem.run Try.prog (binOp .eql 69 (.slice (some sad) n cap) (.slice none 0 0)) w = .ok (.bool false) w := fun w => Lib.run_eql_slice_nil w 69 75 (some sad) n cap 0 0 Try.underlying69
    go_enter Try.func37, Try.ntmps37
    go_wp2_with (with_reducible refine at_slot 7 ?_; go_must (refine wpList_cloneC rfl _ _ 69 75 (.agg #[.int .i64 0, .int .i64 0, .int .i64 0]) 3 24 Try.underlying69 (by kernel_rfl) rfl (by omega) (by omega) rfl w.heap.size rfl sad n cap (tus l) rfl rfl HS.out HL.out H1.out hl ?_); intro ad' cp' w2 hs2 hb2 _; have HS2 := Lib.hid hs2; have HB2 := Lib.hid hb2; clear hs2 hb2)
    go_ret
    exact ⟨_, _, rfl, HS2.out, HB2.out⟩
set_option maxRecDepth 100000 in
set_option maxHeartbeats 4000000 in
theorem clnSt (l : List ByteArray) (n : Nat) (a : Option Addr) (cap : Nat) (w : World) (h : Sa w a (strV l)) (hn : l.length = n) (hnil : a = none → n = 0 ∧ cap = 0) (hl : n * 16 ≤ 140737488355328) :
    Calls Try.prog 41 #[.slice a n cap] w fun e w' => ∃ ad cp, e = .returned (.slice ad n cp) ∧ Fr w w' [⟨9, .slice ad n cp, strV l⟩] := by
  cases a with
  | none =>
    obtain ⟨rfl, rfl⟩ := hnil rfl
    obtain rfl := List.eq_nil_of_length_eq_zero hn
    have heq : ∀ w, Sem.run Try.prog (binOp .eql 42 (.slice none 0 0) (.slice none 0 0)) w = .ok (.bool true) w := fun w => Lib.run_eql_slice_nil w 42 9 none 0 0 0 0 Try.underlying42
    go_enter Try.func41, Try.ntmps41
    go_wp2_with fail
    go_ret
    exact ⟨none, 0, rfl, (Fr.start w).nilSlice _⟩
  | some sad =>
    have HS := Lib.hid h
    have HL := Lib.hid (show (strV l).length = n * 1 by rw [strV_len, hn, Nat.mul_one])
    have H1 : Hid (∀ u ∈ strV l, u.oneCell' = true) := Lib.hid (fun u hu => by
      obtain ⟨r, _, rfl⟩ := List.mem_map.1 hu
      rfl)
    have HN := Lib.hid (show (strV l).length = n by rw [strV_len, hn])
    clear h hn hnil
    have heq : ∀ w, Sem.run Try.prog (binOp .eql 42 (.slice (some sad) n cap) (.slice none 0 0)) w = .ok (.bool false) w := fun w => Lib.run_eql_slice_nil w 42 9 (some sad) n cap 0 0 Try.underlying42
    go_enter Try.func41, Try.ntmps41
    go_wp2_with (with_reducible refine at_slot 7 ?_; go_must (refine wpList_cloneC rfl _ _ 42 9 (.string ByteArray.empty) 1 16 Try.underlying42 (by kernel_rfl) rfl (by omega) (by omega) rfl w.heap.size rfl sad n cap (strV l) rfl rfl HS.out HL.out H1.out hl ?_); intro ad' cp' w2 hs2 hb2 ho2; have HB2 := Lib.hid hb2; have HO2 := Lib.hid ho2; clear hs2 hb2 ho2)
    go_ret
    refine ⟨_, _, rfl, HB2.out, ⟨fun e he => ?_, List.pairwise_singleton _ _⟩⟩
    rcases List.mem_singleton.1 he with rfl
    unfold Ent.own
    rw [HN.out]; exact HO2.out
theorem IsStr.ths {w : World} {a : Option Addr} {len cap : Nat} (h : IsStr [.int, .int, .bool, .bool] w a len cap) : ∃ l : List Rn, l.length = len ∧ len ≤ cap ∧ len ≤ maxLen ∧ Sa w a (ths l) := by
  obtain ⟨h1, h2, h3⟩ := h
  rcases h3 with ⟨rfl, rfl, rfl⟩ | ⟨x, rfl, hc⟩
  · exact ⟨[], rfl, h1, h2, Sa.nil _ _⟩
  · obtain ⟨l, e, _, hs⟩ := sa_structs thC 4 (fun _ => rfl) (by decide) rn0 (w := w) (a := x) (len := len) (fun i hi => by
      obtain ⟨v0, c0, n0, rfl⟩ := hc i hi 0 .int rfl
      obtain ⟨v1, c1, n1, rfl⟩ := hc i hi 1 .int rfl
      obtain ⟨v2, c2, n2, rfl⟩ := hc i hi 2 .bool rfl
      obtain ⟨v3, c3, n3, rfl⟩ := hc i hi 3 .bool rfl
      refine ⟨⟨n0, n1, n2, n3, 0⟩, fun j hj => ?_⟩
      have : j = 0 ∨ j = 1 ∨ j = 2 ∨ j = 3 := by omega
      rcases this with rfl | rfl | rfl | rfl
      · exact c0
      · exact c1
      · exact c2
      · exact c3)
    exact ⟨l, e, h1, h2, hs⟩
theorem IsStr.tus {w : World} {a : Option Addr} {len cap : Nat} (h : IsStr [.int, .int, .int] w a len cap) : ∃ l : List Tu, l.length = len ∧ len ≤ cap ∧ len ≤ maxLen ∧ Sa w a (tus l) := by
  obtain ⟨h1, h2, h3⟩ := h
  rcases h3 with ⟨rfl, rfl, rfl⟩ | ⟨x, rfl, hc⟩
  · exact ⟨[], rfl, h1, h2, Sa.nil _ _⟩
  · obtain ⟨l, e, _, hs⟩ := sa_structs tuC 3 (fun _ => rfl) (by decide) tu0 (w := w) (a := x) (len := len) (fun i hi => by
      obtain ⟨v0, c0, n0, rfl⟩ := hc i hi 0 .int rfl
      obtain ⟨v1, c1, n1, rfl⟩ := hc i hi 1 .int rfl
      obtain ⟨v2, c2, n2, rfl⟩ := hc i hi 2 .int rfl
      refine ⟨⟨n0, n1, n2⟩, fun j hj => ?_⟩
      have : j = 0 ∨ j = 1 ∨ j = 2 := by omega
      rcases this with rfl | rfl | rfl
      · exact c0
      · exact c1
      · exact c2)
    exact ⟨l, e, h1, h2, hs⟩
end Go.Proofs.Ytfompfaepabpgaa
