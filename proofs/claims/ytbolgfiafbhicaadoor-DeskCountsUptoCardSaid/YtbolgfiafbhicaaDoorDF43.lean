/- Several of my texts in one: At. -/
import Derived.Test.YtbolgfiafbhicaaDoorDF35
import Derived.Test.YtbolgfiafbhicaaDoorDF34
import Derived.Test.YtbolgfiafbhicaaDoorDF12
import Derived.Test.YtbolgfiafbhicaaDoorDF02
import Derived.Test.YtbolgfiafbhicaaDoorShelf
/- Contracts of slices.Delete (one number), rank.At; ranks. -/
namespace Go.Proofs.YtbolgfiafbhicaaDoor
open Go.RowKit

theorem Fr.setCellsAtA {w0 : World} {L : List Ent} {T : TypeId} {g n cap : Nat} : ∀ (vs pre : List Value) (w : World) (post : List Value), Fr w0 w (⟨T, .slice (some ⟨g, 0, .none⟩) n cap, pre ++ post⟩ :: L) → vs.length = post.length →
    Fr w0 (w.setCells g pre.length vs) (⟨T, .slice (some ⟨g, 0, .none⟩) n cap, pre ++ vs⟩ :: L)
  | [], pre, w, post, h, hl => by
    rw [List.eq_nil_of_length_eq_zero hl.symm] at h; exact h
  | v :: vs, pre, w, [], h, hl => by simp at hl
  | v :: vs, pre, w, p :: post, h, hl => by
    have h1 := h.set pre.length v
    rw [List.set_append_right _ _ (Nat.le_refl _), Nat.sub_self, List.set_cons_zero, show pre ++ v :: post = (pre ++ [v]) ++ post from by simp] at h1
    have h2 := Fr.setCellsAtA vs (pre ++ [v]) _ post h1 (by simpa using hl)
    rw [List.length_append, List.length_singleton] at h2
    rw [World.setCells, show pre ++ v :: vs = (pre ++ [v]) ++ vs from by simp]
    exact h2
theorem slDelete1 {w0 w : World} {L : List Ent} (l : List Int) (g n cap : Nat) (d : Nat) (h : Fr w0 w (⟨3, .slice (some ⟨g, 0, none⟩) n cap, ints l⟩ :: L)) (hn : l.length = n) (hd : d < n) (hc : cap ≤ 1000000) :
    Calls Tryd.prog 64 #[.slice (some ⟨g, 0, none⟩) n cap, .int .i64 d, .int .i64 ((d : Int) + 1)] w fun e w' => e = .returned (.slice (some ⟨g, 0, none⟩) (n - 1) cap) ∧ Fr w0 w' (⟨3, .slice (some ⟨g, 0, none⟩) (n - 1) cap, ints (dropAt l d)⟩ :: L) := by
  have hcap := h.cap
  have hcell : ∀ j, j < l.length → w.cell? ⟨g, 0 + j, none⟩ = some (.int .i64 (l.getD j 0)) := fun j hj => by
    obtain ⟨g', e, _, c, _⟩ := h.openI j hj
    cases e
    rw [Nat.zero_add]; exact c
  have hfz : ∀ j, j < n → w.frozen? ⟨g, 0 + j, none⟩ = false := fun j hj => by
    obtain ⟨g', e, _, _, z⟩ := h.openI j (by omega)
    cases e
    rw [Nat.zero_add]; exact z
  refine (Tryd.slices_Delete_int_cells g 0 n cap d (d + 1) l w (by omega) hcap (by omega) (by omega) (by omega) hcell hfz).mono ?_
  rintro e w' ⟨rfl, q, rfl⟩
  rw [show d + 1 - d = 1 from by omega, show l.take n = l from List.take_of_length_le (by omega)]
  refine ⟨rfl, ?_⟩
  have h1 := (h.drewN q)
  have h2 := Fr.setCellsAtA ((l.take d ++ l.drop (d + 1) ++ List.replicate 1 0).map (Value.int .i64)) [] _ (ints l) (by simpa using h1) (by simp [ints_len]; omega)
  rw [List.nil_append] at h2
  have h3 := h2.cut (n - 1) (by simp; omega)
  have e : ((l.take d ++ l.drop (d + 1) ++ List.replicate 1 0).map (Value.int .i64)).take (n - 1) = ints (dropAt l d) := by
    have hl : (dropAt l d).length = n - 1 := by rw [dropAt_len _ _ (by omega)]; omega
    rw [show l.take d ++ l.drop (d + 1) = dropAt l d from rfl, List.map_append, List.take_append, List.take_of_length_le (by simp [hl]), List.length_map, hl, Nat.sub_self, List.take_zero, List.append_nil]; rfl
  rw [e] at h3
  exact h3

theorem slDelete1' {w0 w : World} {L : List Ent} (l : List Int) (g m cap : Nat) (d : Nat) (y z : Int) (hy : y = (d : Int)) (hz : z = (d : Int) + 1) (h : Fr w0 w (⟨3, .slice (some ⟨g, 0, none⟩) (m + 1) cap, ints l⟩ :: L)) (hn : l.length = m + 1) (hd : d < m + 1) (hc : cap ≤ 1000000) :
    Calls Tryd.prog 64 #[.slice (some ⟨g, 0, none⟩) (m + 1) cap, .int .i64 y, .int .i64 z] w fun e w' => e = .returned (.slice (some ⟨g, 0, none⟩) m cap) ∧ Fr w0 w' (⟨3, .slice (some ⟨g, 0, none⟩) m cap, ints (dropAt l d)⟩ :: L) := by
  subst hy hz; exact slDelete1 l g (m + 1) cap d h hn hd (by omega)
theorem wrap_nat (d : Nat) (h : d ≤ 100) : IntKind.i64.wrap (d : Int) = (d : Int) := by
  rw [IntKind.wrap_i64]; omega
theorem wrap_succ1 (d : Nat) (h : d ≤ 100) : IntKind.i64.wrap ((d : Int) + 1) = (d : Int) + 1 := by
  rw [IntKind.wrap_i64]; omega
theorem wrap_succ (d : Nat) (h : d ≤ 100) : IntKind.i64.wrap (IntKind.i64.wrap (d : Int) + 1) = (d : Int) + 1 := by
  rw [IntKind.wrap_i64, IntKind.wrap_i64]; omega
theorem make_cap (n : Nat) (h : n ≤ 1000000) (w : World) : Sem.run Tryd.prog (Instr.makeSlice 76 (.int .i64 0) (.int .i64 (n : Int))) w = .ok (.slice (some ⟨w.heap.size, 0, none⟩) 0 n) (w.alloc (.cells (rowCells n (fun _ => 0)) 3)) := by
  obtain ⟨i0, hi, hz0, hz1, hz2⟩ := info_parts intInfo
  have := run_make (P := Tryd.prog) w 76 3 i0 (.int .i64 0) Tryd.underlying76 hi hz0 .i64 .i64 0 n (by omega) (by omega) (by rw [hz2]; omega) (by omega)
  rw [this, hz1, Int.toNat_natCast, madeInts]; rfl
theorem fill_upTo (n k : Nat) (h : k < n) : (upTo k ++ List.replicate (n - k) 0).set k (k : Int) = upTo (k + 1) ++ List.replicate (n - (k + 1)) 0 := by
  have hl : (upTo k).length = k := upTo_len k
  have e1 : n - k = (n - (k + 1)) + 1 := by omega
  rw [List.set_append_right _ _ (by omega), hl, Nat.sub_self, e1, List.replicate_succ, List.set_cons_zero, show upTo (k + 1) = upTo k ++ [(k : Int)] from by simp [upTo, List.range_succ], List.append_assoc]; rfl

set_option maxRecDepth 100000 in
set_option maxHeartbeats 4000000 in
theorem rankAt (n k : Nat) (w : World) (h10 : n ≤ 10) (hk : k < facN n) :
    Calls Tryd.prog 35 #[.int .i64 n, .int .i64 k] w (OneSl (atS n (upTo n) k) n 0 w) := by
  have hmk := make_ints n (by omega)
  have hmc := make_cap n (by omega)
  have f10 := facN_10 n h10
  have g1 : decide ((k : Int) < 0) = false := decide_eq_false (by omega)
  have g2 : decide (facN n ≤ k) = false := decide_eq_false (by omega)
  go_enter Tryd.func35, Tryd.ntmps35
  go_wp2_with fail
  refine (rankCount n _ h10).mono ?_; rintro e w' ⟨rfl, rfl⟩
  have F1 := (Fr.start w).makeInts n (by omega)
  go_wp2_with fail
  clear hmk g1 g2
  go_loopw [33] (fun i wr => ∃ j : Nat, j ≤ n ∧ i = .int .i64 j ∧ Fr w wr [⟨3, .slice (some ⟨w.heap.size, 0, none⟩) n n, ints (upTo j ++ List.replicate (n - j) 0)⟩]) (fun i _ => n - (intOf i).toNat)
  case atStart => exact ⟨0, by omega, rfl, F1⟩
  case round =>
    obtain ⟨j, hj, rfl, hfr⟩ := hrel
    clear F1
    by_cases hlt : j < n
    · obtain ⟨g, e, _, c1, z1⟩ := hfr.openI j (by rw [List.length_append, upTo_len, List.length_replicate]; omega)
      cases e
      have F2 := hfr.setInt j (j : Int)
      rw [fill_upTo n j hlt] at F2
      have HF2 := Lib.hid F2
      clear hfr F2
      have d1 : (0 : Int) ≤ (j : Int) := by omega
      have d2 : (j : Int) < (n : Int) := by omega
      go_wp2_with fail
      go_roundw
      case rel => exact ⟨j + 1, by omega, by go_num, HF2.out⟩
      case measure => simp only [intOf]; omega
    · obtain rfl : j = n := by omega
      rw [Nat.sub_self, List.replicate_zero, List.append_nil] at hfr
      have F3 := (hfr.makeInts j (by omega)).cut 0 (by omega)
      rw [List.take_zero] at F3
      have hs : Hid (atS j (upTo j) k = [] ++ atS j (upTo j) k) := Lib.hid rfl
      go_wp2_with fail
      clear hmc
      go_loopw [1, 8, 10, 11] (fun kk lf o i wr => ∃ (r q cl : Nat) (left out : List Int) (ad : Option Addr) (cp : Nat), r ≤ j ∧ i = .int .i64 ((r : Int) - 1) ∧ kk = .int .i64 q ∧ lf = .slice (some ⟨w.heap.size, 0, none⟩) r cl ∧ o = .slice ad (j - r) cp ∧ cl ≤ 10 ∧ q < facN r ∧ Hid (left.length = r ∧ atS j (upTo j) k = out ++ atS r left q) ∧ Fr w wr [⟨3, .slice ad (j - r) cp, ints out⟩, ⟨3, .slice (some ⟨w.heap.size, 0, none⟩) r cl, ints left⟩]) (fun _ _ _ i _ => (intOf i + 1).toNat)
      case atStart => exact ⟨j, k, j, upTo j, [], some ⟨_, 0, none⟩, j, by omega, rfl, rfl, rfl, by rw [Nat.sub_self], by omega, hk, Lib.hid ⟨upTo_len j, hs.out⟩, by rw [Nat.sub_self]; exact F3⟩
      case round =>
        obtain ⟨r, q, cl, left, out, ad, cp, hr, rfl, rfl, rfl, rfl, hcl, hq, HL, hfr⟩ := hrel
        clear F3 hs hk
        cases r with
        | zero =>
          obtain ⟨hl, ho⟩ := HL.out
          rw [atS, List.append_nil] at ho
          have HO := Lib.hid ho
          clear hl ho HL
          go_wp2_with fail
          go_ret2
          refine ⟨_, _, rfl, ?_, ?_⟩
          · exact hfr.cap
          · rw [HO.out]; exact hfr.sub (by simp)
        | succ r =>
          obtain ⟨hl, ho⟩ := HL.out
          have hd := div_lt hq
          have fp := facN_pos r
          have fr10 := facN_10 r (by omega)
          have fs10 := facN_10 (r + 1) (by omega)
          have hm := Nat.mod_lt q fp
          rw [atS] at ho
          obtain ⟨f, hf⟩ : ∃ f, facN r = f := ⟨_, rfl⟩
          rw [hf] at hd fp fr10 hm ho
          obtain ⟨d, hdd⟩ : ∃ d, q / f = d := ⟨_, rfl⟩
          obtain ⟨m, hmm⟩ : ∃ m, q % f = m := ⟨_, rfl⟩
          have hdq : q / f ≤ q := Nat.div_le_self _ _
          rw [hdd] at hd ho hdq
          rw [hmm] at hm ho
          have p1 : (q : Int) / (f : Int) = (d : Int) := by rw [← hdd]; simp
          have p2 : (q : Int) % (f : Int) = (m : Int) := by rw [← hmm]; simp
          obtain ⟨v, hv⟩ : ∃ v, nth left d = v := ⟨_, rfl⟩
          rw [hv] at ho
          have ho2 : atS j (upTo j) k = (out ++ [v]) ++ atS r (dropAt left d) m := by rw [ho, List.append_assoc]; rfl
          have hdl : (dropAt left d).length = r := by rw [dropAt_len _ _ (by omega)]; omega
          have q10 : (q : Int) ≤ 3628800 := by omega
          have fr11 : (f : Int) ≤ 3628800 := by omega
          have HM := Lib.hid hm; have FP := Lib.hid fp
          have HF' := Lib.hid hf; have HV := Lib.hid hv; have HO2 := Lib.hid ho2; have HDL := Lib.hid hdl; have HLL := Lib.hid hl
          have HF := Lib.hid hfr
          obtain ⟨_, _, e, _, c1⟩ := (hfr.get 1 rfl).int d (by rw [hl]; omega)
          cases e
          rw [Nat.zero_add, hv] at c1
          rw [show (((r + 1 : Nat) : Int) - 1) = (r : Int) from by omega]
          have z0 : ((f : Int) == 0) = false := by rw [beq_eq_false_iff_ne]; omega
          have hr10 : r ≤ 9 := by omega
          have HDR : Hid (d < r + 1) := Lib.hid hd
          have HCM : Hid (cl ≤ 1000000) := Lib.hid (by omega)
          have WR : Hid (IntKind.i64.wrap (IntKind.i64.wrap (d : Int) + 1) = (d : Int) + 1) := Lib.hid (wrap_succ d (by have := HDR.out; omega))
          have WR1 := Lib.hid (wrap_nat d (by have := HDR.out; omega))
          have WR2 := Lib.hid (wrap_succ1 d (by have := HDR.out; omega))
          have HLEN : Hid ((ints out).length = j - (r + 1)) := Lib.hid (hfr.len.symm)
          clear hl ho hdd hmm hf hv ho2 hdl hfr HL hq fs10 fr10 hdq hm f10
          have d1 : (0 : Int) ≤ (d : Int) := by omega
          have d2 : (d : Int) < (r : Int) + 1 := by omega
          have d3 : (0 : Int) ≤ (r : Int) := by omega
          go_wp2_with fail
          refine (rankFac r _ (by omega)).mono ?_; rintro e w' ⟨rfl, rfl⟩
          rw [HF'.out]
          go_wp2_with (with_reducible refine at_slot 59 ?_; go_must (refine wpList_pushInt rfl _ _ rfl ad (j - (r + 1)) cp _ v _ rfl HF.out rfl ?_ ?_); rotate_left; intro ad' cp' w3 hf2 hlt2)
          · have HS3 := Lib.hid (hf2.drew.swap)
            have HS3' := Lib.hid (hf2.swap)
            clear hf2
            clear c1
            go_region_with (go_at_call 64; refine (slDelete1' left w.heap.size r cl d _ _ (by first | with_reducible rfl | with_reducible exact WR1.out) (by first | with_reducible rfl | with_reducible exact WR.out | with_reducible exact WR2.out) HS3.out HLL.out HDR.out HCM.out).mono ?_; rintro e w4 ⟨rfl, hf4⟩; have HF4 := Lib.hid hf4; clear hf4)
            all_goals
              have HF5 := Lib.hid HF4.out.swap
              clear HF4
              go_wp2_with fail
              go_roundw
              case rel => 
                have e1 : j - (r + 1) + 1 = j - r := by omega
                have F6 := HF5.out
                rw [e1] at F6
                exact ⟨r, m, cl, dropAt left d, out ++ [v], ad', cp', by omega, by go_num, by first | rfl | rw [p2] | (simp; exact p2), by simp, by rw [e1], hcl, by rw [HF'.out]; exact HM.out, Lib.hid ⟨HDL.out, HO2.out⟩, F6⟩
              case measure => simp only [intOf]; omega
          · omega
end Go.Proofs.YtbolgfiafbhicaaDoor
