/- slices.Clone, Compact and Max at uint16. -/
import Derived.Test.YtdabgibmbmhmdaaU16S
import Derived.Test.YtdabgibmbmhmdaaGrayW
import Derived.Deep.QuietTactic
namespace Go.Proofs.Ytdabgibmbmhmdaa
open Go.RowKit

/-- append of foreign structs to an empty slice of the call's own -/
theorem wpList_cloneD {ops : Array Oper} {rest : List Oper} {o : Oper} {a : Act} {Q : Exit → Act → World → Prop} {w : World} (hgd : o.guard = none) (s x : Operand) (S T : TypeId) (z : Value) (c bytes : Nat)
    (hS : Try.prog.underlying S = some (.slice T)) (hT : (Try.prog.info? T).map (fun i => (i.zero, i.size, i.bytes)) = some (some z, c, bytes)) (hz : z.cells.size = c) (hc : 0 < c) (hby : 0 < bytes)
    (ho : o.op = .call { callee := .builtin .append, args := #[s, x], argTypes := #[S, S] })
    (N : Nat) (hN : w.heap.size = N) (sad : Addr) (m cp : Nat) (ys : List Value) (hs : a.eval s = .slice (some ⟨N, 0, none⟩) 0 0)
    (hx : a.eval x = .slice (some sad) m cp) (hY : Sa w (some sad) ys) (hm : ys.length = m * c) (h1 : ∀ u ∈ ys, u.oneCell' = true) (hlen : m * bytes ≤ 140737488355328)
    (h : ∀ ad' cap' w', Sa w' ad' ys → Below w.heap.size w w' → w'.ownsRow w.heap.size T c (.slice ad' m cap') m ys → wpList Try.prog ops Q rest (a.put o.dst (.slice ad' m cap')) w') :
    wpList Try.prog ops Q (o :: rest) a (w.alloc (.cells #[] T)) := by
  subst hN
  obtain ⟨i0, hi, hz0, hz1, hz2⟩ := info_parts hT
  have hO : (w.alloc (.cells #[] T)).ownsRow w.heap.size T c (.slice (some ⟨w.heap.size, 0, none⟩) 0 0) 0 [] := World.ownsRow_made w #[] 0 (Nat.le_refl _) (Nat.zero_le _) (by simp)
  have hY' := hY.alloc (.cells #[] T)
  refine wpList_append_own_at _ hgd s x S ho w.heap.size T i0 z c bytes hS hi hz0 hz1 hz2 hz hc (.slice (some ⟨w.heap.size, 0, none⟩) 0 0) 0 [] hs hO
    sad m cp ys hx hm ?_ h1 ?_ ?_ ?_ ?_
  · intro j u hj
    have hjl : j < ys.length := (List.getElem?_eq_some_iff.1 hj).1
    obtain ⟨b, off, e, _, hcl⟩ := hY'.at j hjl
    cases e
    rw [show ((⟨b, off, none⟩ : Addr).add j) = ⟨b, off + j, none⟩ from by unfold Addr.add; split <;> simp_all, hcl, hj]
  · have := Nat.le_mul_of_pos_right m hby
    unfold maxLen; omega
  · rw [Nat.zero_add]; exact hlen
  · simp
  · intro v' w' k1 k2 hnil hat
    have hsz := k2.size
    rw [Nat.zero_add, List.nil_append] at k1
    have hbel : Below w.heap.size w w' := Below.grown (row := some w.heap.size) ((Fr.start w).alloc (.cells #[] T)).bel k2 (by simp) (fun k hk => by cases hk; exact Nat.le_refl _)
    rcases k1.2 with ⟨e1, e2⟩ | ⟨g, cap', cur, e1, h3, h4, h5, h6, h7, h8⟩
    · subst e1 e2
      have : ys = [] := List.eq_nil_of_length_eq_zero (by omega)
      subst this
      exact h none 0 w' (Sa.nil _ _) hbel k1
    · subst e1
      refine h (some ⟨g, 0, none⟩) cap' w' (fun h0 => ⟨g, 0, rfl, (Array.getElem?_eq_some_iff.1 h4).1, fun i hi => ?_⟩) hbel k1
      rw [Nat.zero_add]
      exact World.ownsRow.cellAt k1 i (by rw [← hm]; exact hi)
theorem uV_one (l : List Int) : ∀ u ∈ uV l, u.oneCell' = true := fun u hu => by
  obtain ⟨r, _, rfl⟩ := List.mem_map.1 hu
  rfl
set_option maxRecDepth 100000 in
set_option maxHeartbeats 4000000 in
theorem clnU (l : List Int) (n : Nat) (sad : Addr) (cap : Nat) (w : World) (h : Sa w (some sad) (uV l)) (hn : l.length = n) (hl : n ≤ 100000) :
    Calls Try.prog 38 #[.slice (some sad) n cap] w fun e w' => ∃ ad cp, e = .returned (.slice ad n cp) ∧ Fr w w' [⟨48, .slice ad n cp, uV l⟩] := by
  have HS := Lib.hid h
  have HL := Lib.hid (show (uV l).length = n * 1 by rw [uV_len, hn, Nat.mul_one])
  have H1 : Hid (∀ u ∈ uV l, u.oneCell' = true) := Lib.hid (uV_one l)
  have HN := Lib.hid (show (uV l).length = n by rw [uV_len, hn])
  clear h hn
  have heq : ∀ w, Sem.run Try.prog (binOp .eql 45 (.slice (some sad) n cap) (.slice none 0 0)) w = .ok (.bool false) w := fun w => Lib.run_eql_slice_nil w 45 48 (some sad) n cap 0 0 Try.underlying45
  go_enter Try.func38, Try.ntmps38
  go_wp2_with (with_reducible refine at_slot 7 ?_; go_must (refine wpList_cloneD rfl _ _ 45 48 (.int .u16 0) 1 2 Try.underlying45 (by kernel_rfl) rfl (by omega) (by omega) rfl w.heap.size rfl sad n cap (uV l) rfl rfl HS.out HL.out H1.out (by omega) ?_); intro ad' cp' w2 hs2 hb2 ho2; have HB2 := Lib.hid hb2; have HO2 := Lib.hid ho2; clear hs2 hb2 ho2)
  go_ret
  refine ⟨_, _, rfl, HB2.out, ⟨fun e he => ?_, List.pairwise_singleton _ _⟩⟩
  rcases List.mem_singleton.1 he with rfl
  unfold Ent.own
  rw [HN.out]; exact HO2.out
set_option maxRecDepth 100000 in
set_option maxHeartbeats 4000000 in
/-- no two neighbours are the same: Compact gives the slice back -/
theorem compU {w0 : World} {L : List Ent} {g n cap : Nat} {d : List Int} (w : World) (F : Fr w0 w (eU g n cap d :: L)) (hd : ∀ k, k + 1 < n → nth d (k + 1) ≠ nth d k) (hn : n ≤ 100000) :
    Calls Try.prog 40 #[.slice (some ⟨g, 0, none⟩) n cap] w fun e w' => e = .returned (.slice (some ⟨g, 0, none⟩) n cap) ∧ Fr w0 w' (eU g n cap d :: L) := by
  have HF := Lib.hid F; have HD := Lib.hid hd
  clear F hd
  by_cases h2 : n < 2
  · have d1 : decide ((n : Int) < 2) = true := decide_eq_true (by omega)
    go_enter Try.func40, Try.ntmps40
    go_wp2_with fail
    go_ret
    exact ⟨rfl, HF.out⟩
  · have d1 : decide ((n : Int) < 2) = false := decide_eq_false (by omega)
    go_enter Try.func40, Try.ntmps40
    go_wp2_with fail
    go_loopw [3] (fun s wr => ∃ t : Nat, s = .int .i64 ((t : Int) + 1) ∧ t < n ∧ Hid (Fr w0 wr (eU g n cap d :: L))) (fun s _ => (n + 1 - intOf s).toNat)
    case atStart => exact ⟨0, rfl, by omega, HF⟩
    case round =>
      obtain ⟨t, rfl, k1, HF2⟩ := hrel
      clear HF
      by_cases hlt : t + 1 < n
      · have hne := HD.out t hlt
        obtain ⟨c1, z1⟩ := HF2.out.openU (t + 1) hlt
        obtain ⟨c2, z2⟩ := HF2.out.openU t (by omega)
        obtain ⟨x, hx⟩ : ∃ x, nth d (t + 1) = x := ⟨_, rfl⟩
        obtain ⟨y, hy⟩ : ∃ y, nth d t = y := ⟨_, rfl⟩
        rw [hx] at c1 hne
        rw [hy] at c2 hne
        clear hx hy z1 z2
        have gq : (x == y) = false := beq_eq_false_iff_ne.2 hne
        clear hne
        have e1 : (t : Int) + 1 - 1 = (t : Int) := by omega
        have r0 : (0 : Int) ≤ (t : Int) := by omega
        have s0 : (t : Int) < (n : Int) := by omega
        have r1 : (0 : Int) ≤ (t : Int) + 1 := by omega
        have s1 : (t : Int) + 1 < (n : Int) := by omega
        have d3 : decide ((t : Int) + 1 < (n : Int)) = true := decide_eq_true (by omega)
        go_wp2_with fail
        go_quiet (fail)
        go_wp2_with fail
        go_roundw
        case rel => exact ⟨t + 1, by first | go_num | (congr 1; omega), hlt, Lib.hid (HF2.out.drewN _)⟩
        case measure => simp only [intOf]; omega
      · have d3 : decide ((t : Int) + 1 < (n : Int)) = false := decide_eq_false (by omega)
        go_wp2_with fail
        go_ret
        exact ⟨rfl, HF2.out⟩
def MaxOf (l : List Int) (x : Int) : Prop := x ∈ l ∧ ∀ y ∈ l, y ≤ x
set_option maxRecDepth 100000 in
set_option maxHeartbeats 4000000 in
theorem maxU (l : List Int) (n : Nat) (g off : Nat) (cap : Nat) (w : World) (hc : ∀ i, i < n → w.cell? ⟨g, off + i, none⟩ = some (.int .u16 (nth l i))) (hn : l.length = n) (h1 : 1 ≤ n) (hl : n ≤ 100000) :
    Calls Try.prog 41 #[.slice (some ⟨g, off, none⟩) n cap] w fun e w' => (∃ x, e = .returned (.int .u16 x) ∧ MaxOf l x) ∧ w = w' := by
  have HC := Lib.hid hc; have HN := Lib.hid hn
  have c0 := hc 0 (by omega)
  rw [Nat.add_zero] at c0
  have hm0 : nth l 0 ∈ l := nth_mem l 0 (by omega)
  have ht0 : ∀ j, j < 1 → nth l j ≤ nth l 0 := fun j hj => by
    have hj0 : j = 0 := by omega
    rw [hj0]; exact Int.le_refl _
  obtain ⟨x0, hx0⟩ : ∃ x, nth l 0 = x := ⟨_, rfl⟩
  rw [hx0] at c0 hm0 ht0
  have HM0 := Lib.hid hm0; have HT0 := Lib.hid ht0
  clear hc hn hx0 hm0 ht0
  have d1 : decide ((n : Int) < 1) = false := decide_eq_false (by omega)
  have d2 : (0 : Int) < (n : Int) := by omega
  go_enter Try.func41, Try.ntmps41
  go_wp2_with fail
  go_loop [3, 4] (fun m i => ∃ (k : Nat) (x : Int), m = .int .u16 x ∧ i = .int .i64 k ∧ 1 ≤ k ∧ k ≤ n ∧ Hid (x ∈ l) ∧ Hid (∀ j, j < k → nth l j ≤ x)) (fun _ i => n - (intOf i).toNat)
  case atStart => exact ⟨1, x0, rfl, rfl, by omega, h1, HM0, HT0⟩
  case round =>
    obtain ⟨k, x, rfl, rfl, k1, k2, HX, HT⟩ := hrel
    clear c0
    by_cases hlt : k < n
    · have c1 := HC.out k hlt
      have hmem : nth l k ∈ l := nth_mem l k (by rw [HN.out]; exact hlt)
      have HM : Hid (∀ z : Int, z = max x (nth l k) → z ∈ l ∧ ∀ j, j < k + 1 → nth l j ≤ z) := Lib.hid fun z hz => by
        have h1 : x ≤ z := by omega
        have h2 : nth l k ≤ z := by omega
        refine ⟨?_, fun j hj => ?_⟩
        · have : z = x ∨ z = nth l k := by omega
          rcases this with h | h
          · rw [h]; exact HX.out
          · rw [h]; exact hmem
        · rcases Nat.lt_succ_iff_lt_or_eq.1 hj with h | rfl
          · have := HT.out j h; omega
          · exact h2
      obtain ⟨y, hy⟩ : ∃ y, nth l k = y := ⟨_, rfl⟩
      rw [hy] at c1 HM
      clear hy hmem
      go_wp2_with fail
      refine ⟨⟨k + 1, max x y, ?_, by simp, by omega, by omega, Lib.hid (HM.out _ rfl).1, Lib.hid (HM.out _ rfl).2⟩, by simp only [intOf]; omega⟩
      first | rfl | (congr 1; omega) | (simp; omega)
    · go_wp2_with fail
      go_ret
      refine ⟨⟨x, rfl, HX.out, fun y hy => ?_⟩, rfl⟩
      obtain ⟨j, hj, e⟩ := List.getElem_of_mem hy
      have := HT.out j (by rw [HN.out] at hj; omega)
      have e2 : nth l j = l[j] := by simp [nth, hj]
      omega
end Go.Proofs.Ytdabgibmbmhmdaa
