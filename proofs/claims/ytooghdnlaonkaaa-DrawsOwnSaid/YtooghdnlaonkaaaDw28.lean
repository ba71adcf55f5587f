/- Several of my texts in one: ByC, SrtNm. -/
import Derived.Test.YtooghdnlaonkaaaDw23
import Derived.Test.YtooghdnlaonkaaaDw06
import Derived.Test.YtooghdnlaonkaaaDw15
import Derived.Deep.QuietTactic
import Derived.Test.YtooghdnlaonkaaaDw24
import Derived.Test.YtooghdnlaonkaaaShelf
import Derived.Shelf.SlSortCmp.NoneTotal
/- slices.Clone and slices.Equal of bytes; slices.Equal of ints of any length. -/
namespace Go.Proofs.Ytooghdnlaonkaaa
open Go.RowKit

set_option maxRecDepth 100000 in
set_option maxHeartbeats 4000000 in
/-- two that are the same, of any length -/
theorem slEqIB (l : List Int) (n : Nat) (a b : Option Addr) (ca cb : Nat) (w : World) (h : Sa w a (ints l)) (h' : Sa w b (ints l)) (hn : l.length = n) (hl : n ≤ maxLen) :
    Calls Try.prog 32 #[.slice a n ca, .slice b n cb] w (RetB true w) := by
  have HN := Lib.hid hn; have HA := Lib.hid h; have HB := Lib.hid h'
  unfold maxLen at hl
  clear hn h h'
  have hne : (((n : Nat) : Int) == ((n : Nat) : Int)) = true := beq_self_eq_true _
  go_enter Try.func32, Try.ntmps32
  go_wp2_with fail
  go_loopw [13] (fun i wr => ∃ j : Nat, j ≤ n ∧ i = .int .i64 j ∧ Fr w wr []) (fun i _ => n - (intOf i).toNat)
  case atStart => exact ⟨0, by omega, rfl, Fr.start w⟩
  case round =>
    obtain ⟨j, hj, rfl, hfr⟩ := hrel
    by_cases hlt : j < n
    · obtain ⟨b1, o1, rfl, hb1, hc1⟩ := (hfr.old HA.out).int j (by rw [HN.out]; exact hlt)
      obtain ⟨b2, o2, rfl, hb2, hc2⟩ := (hfr.old HB.out).int j (by rw [HN.out]; exact hlt)
      obtain ⟨x, hx⟩ : ∃ x, nth l j = x := ⟨_, rfl⟩
      rw [hx] at hc1 hc2
      have d1 : (0 : Int) ≤ (j : Int) := by omega
      have d2 : (j : Int) < (n : Int) := by omega
      have g : (x == x) = true := beq_self_eq_true _
      clear hx
      go_wp2_with fail
      go_quiet (fail)
      go_wp2_with fail
      exact ⟨⟨j + 1, by omega, by simp, hfr.drewN _⟩, by simp only [intOf]; omega⟩
    · obtain rfl : j = n := by omega
      go_wp2_with fail
      go_ret
      exact ⟨rfl, hfr⟩
set_option maxRecDepth 100000 in
set_option maxHeartbeats 4000000 in
/-- two that are the same, of any length -/
theorem slEqBy (l : List Int) (n : Nat) (a b : Option Addr) (ca cb : Nat) (w : World) (h : Sa w a (byts l)) (h' : Sa w b (byts l)) (hn : l.length = n) (hl : n ≤ maxLen) :
    Calls Try.prog 45 #[.slice a n ca, .slice b n cb] w (RetB true w) := by
  have HN := Lib.hid hn; have HA := Lib.hid h; have HB := Lib.hid h'
  unfold maxLen at hl
  clear hn h h'
  have hne : (((n : Nat) : Int) == ((n : Nat) : Int)) = true := beq_self_eq_true _
  go_enter Try.func45, Try.ntmps45
  go_wp2_with fail
  go_loopw [13] (fun i wr => ∃ j : Nat, j ≤ n ∧ i = .int .i64 j ∧ Fr w wr []) (fun i _ => n - (intOf i).toNat)
  case atStart => exact ⟨0, by omega, rfl, Fr.start w⟩
  case round =>
    obtain ⟨j, hj, rfl, hfr⟩ := hrel
    by_cases hlt : j < n
    · obtain ⟨b1, o1, rfl, hb1, hc1⟩ := (hfr.old HA.out).byt j (by rw [HN.out]; exact hlt)
      obtain ⟨b2, o2, rfl, hb2, hc2⟩ := (hfr.old HB.out).byt j (by rw [HN.out]; exact hlt)
      obtain ⟨x, hx⟩ : ∃ x, nth l j = x := ⟨_, rfl⟩
      rw [hx] at hc1 hc2
      have d1 : (0 : Int) ≤ (j : Int) := by omega
      have d2 : (j : Int) < (n : Int) := by omega
      have g : (x == x) = true := beq_self_eq_true _
      clear hx
      go_wp2_with fail
      go_quiet (fail)
      go_wp2_with fail
      exact ⟨⟨j + 1, by omega, by simp, hfr.drewN _⟩, by simp only [intOf]; omega⟩
    · obtain rfl : j = n := by omega
      go_wp2_with fail
      go_ret
      exact ⟨rfl, hfr⟩
set_option maxRecDepth 100000 in
set_option maxHeartbeats 4000000 in
theorem clnBy (l : List Int) (n : Nat) (a : Option Addr) (cap : Nat) (w : World) (h : Sa w a (byts l)) (hn : l.length = n) (hnil : a = none → n = 0 ∧ cap = 0) (hl : n ≤ 140737488355328) :
    Calls Try.prog 39 #[.slice a n cap] w fun e w' => ∃ ad cp, e = .returned (.slice ad n cp) ∧ Fr w w' [⟨5, .slice ad n cp, byts l⟩] := by
  cases a with
  | none =>
    obtain ⟨rfl, rfl⟩ := hnil rfl
    obtain rfl := List.eq_nil_of_length_eq_zero hn
    have heq : ∀ w, Sem.run Try.prog (binOp .eql 69 (.slice none 0 0) (.slice none 0 0)) w = .ok (.bool true) w := fun w => Lib.run_eql_slice_nil w 69 5 none 0 0 0 0 Try.underlying69
    go_enter Try.func39, Try.ntmps39
    go_wp2_with fail
    go_ret
    exact ⟨none, 0, rfl, (Fr.start w).nilSlice _⟩
  | some sad =>
    have HS := Lib.hid h
    have HL := Lib.hid (show (byts l).length = n * 1 by rw [byts_len, hn, Nat.mul_one])
    have H1 : Hid (∀ u ∈ byts l, u.oneCell' = true) := Lib.hid (byts_one l)
    have HN := Lib.hid (show (byts l).length = n by rw [byts_len, hn])
    clear h hn hnil
    have heq : ∀ w, Sem.run Try.prog (binOp .eql 69 (.slice (some sad) n cap) (.slice none 0 0)) w = .ok (.bool false) w := fun w => Lib.run_eql_slice_nil w 69 5 (some sad) n cap 0 0 Try.underlying69
    go_enter Try.func39, Try.ntmps39
    go_wp2_with (with_reducible refine at_slot 7 ?_; go_must (refine wpList_cloneC rfl _ _ 69 5 (.int .u8 0) 1 1 Try.underlying69 (by kernel_rfl) rfl (by omega) (by omega) rfl w.heap.size rfl sad n cap (byts l) rfl rfl HS.out HL.out H1.out (by omega) ?_); intro ad' cp' w2 hs2 hb2 ho2; have HB2 := Lib.hid hb2; have HO2 := Lib.hid ho2; clear hs2 hb2 ho2)
    go_ret
    refine ⟨_, _, rfl, HB2.out, ⟨fun e he => ?_, List.pairwise_singleton _ _⟩⟩
    rcases List.mem_singleton.1 he with rfl
    unfold Ent.own
    rw [HN.out]; exact HO2.out
end Go.Proofs.Ytooghdnlaonkaaa
/- slices.SortFunc puts names in order (bottom.ahead), by the shelf's contract. -/
namespace Go.Proofs.Ytooghdnlaonkaaa
open Go.RowKit Go.Sort Go.Shelf

theorem below_growS (w : World) (os : Array Obj) : Below w.heap.size w (Sort.grow w os) := ⟨rfl, rfl, rfl, by simp [Sort.grow], fun k hk => by simp [Sort.grow, Array.getElem?_append_left hk]⟩
abbrev Nm := {s : ByteArray // s.size ≤ 12}
instance : Inhabited Nm := ⟨⟨⟨#[]⟩, by decide⟩⟩
def nmE (x : Nm) : Value := .string x.1
def nmC (x y : Nm) : Int := ahS x.1 y.1
theorem nmLt (x y : Nm) : ltOf nmC x y = true ↔ ltS x.1 y.1 := by
  unfold ltOf nmC
  rw [decide_eq_true_iff]
  exact ahS_lt _ _
theorem nmLt_no (x y : Nm) : ltOf nmC x y = false ↔ ¬ ltS x.1 y.1 := by rw [← Bool.not_eq_true, nmLt]
theorem nmSWO : SWO (ltOf nmC) :=
  ⟨fun x => (nmLt_no x x).2 (ltS_irr _), fun x y z h1 h2 => (nmLt x z).2 (ltS_tr _ _ _ ((nmLt x y).1 h1) ((nmLt y z).1 h2)), fun x y z h1 h2 => by
    have h1 := (nmLt_no x y).1 h1
    have h2 := (nmLt_no y z).1 h2
    refine (nmLt_no x z).2 fun h => ?_
    by_cases e : y.1 = z.1
    · rw [← e] at h; exact h1 h
    · exact h1 (ltS_tr _ _ _ h (ltS_tot _ _ h2 e))⟩
theorem nmTot : ∀ x y, ltOf nmC x y = false → ltOf nmC y x = false → x = y := fun x y h1 h2 => by
  have h1 := (nmLt_no x y).1 h1
  have h2 := (nmLt_no y x).1 h2
  refine Subtype.ext (Decidable.byContradiction fun e => h2 (ltS_tot _ _ h1 e))
theorem nmE_map (L : List Nm) : L.map nmE = strV (L.map (·.1)) := by simp [strV, nmE]
theorem nmSort (L : List Nm) : (L.mergeSort fun x y => !(ltOf nmC) y x).map (·.1) = srtS (L.map (·.1)) := by
  unfold srtS
  exact List.map_mergeSort fun a _ b _ => rfl
theorem nmOf (l : List ByteArray) (h : ∀ x ∈ l, x.size ≤ 12) : ∃ L : List Nm, L.map (·.1) = l := by
  induction l with
  | nil => exact ⟨[], rfl⟩
  | cons x l ih =>
    obtain ⟨L, hL⟩ := ih fun y hy => h y (List.mem_cons_of_mem _ hy)
    exact ⟨⟨x, h x List.mem_cons_self⟩ :: L, by simp [hL]⟩
theorem sortsNames : SortsNames := by
  intro w0 L l n cap ad w hF hn hb
  have hlen := hF.len
  rw [strV_len] at hlen
  cases ad with
  | none =>
    obtain ⟨rfl, rfl⟩ := hF.none rfl
    obtain rfl := List.eq_nil_of_length_eq_zero hlen.symm
    exact (Try.slices_SortFunc_none_f133 (α := Nm) none 0 _ w).mono fun e w' ⟨h1, h2⟩ => ⟨h1, by subst h2; rw [show srtS [] = [] from by simp [srtS]]; exact hF⟩
  | some ad =>
    have hO := hF.os.own _ List.mem_cons_self
    rcases hO.elim with ⟨_, ⟨h, _⟩ | ⟨gb, cur, h, _⟩⟩
    · cases h
    · cases h
      have hlt := (hO.lt gb rfl).2
      obtain ⟨M, hM⟩ := nmOf l hb
      have hcell : ∀ j, (hj : j < l.length) → w.cell? ⟨gb, 0 + j, none⟩ = some (.string l[j]) ∧ w.frozen? ⟨gb, 0 + j, none⟩ = false := fun j hj => by
        obtain ⟨g', e, _, _, c, z⟩ := hF.open (by rw [strV_len]; omega)
        cases e
        rw [Nat.zero_add]
        refine ⟨?_, z j⟩
        rw [c j (by rw [strV_len]; omega)]
        unfold strV
        rw [List.getElem?_map, List.getElem?_eq_getElem (by omega)]; rfl
      have hH : Holds nmE w gb 0 M.toArray := by
        intro j hj
        have hj' : j < l.length := by rw [← hM]; simpa using hj
        obtain ⟨c, z⟩ := hcell j hj'
        refine ⟨?_, z⟩
        rw [c]
        have hjM : j < M.length := by simpa using hj
        have e1 : l[j] = (M[j]).1 := by subst hM; simp
        have e2 : M.toArray[j]! = M[j] := by simp [hjM]
        rw [e1, e2]; rfl
      have hsz : M.toArray.size = n := by rw [hlen, ← hM]; simp
      have key := Try.slices_SortFunc_total_f133 nmE (fun x => rfl) nmC nmSWO 129 #[] gb 0 cap M.toArray w (enters_of Try.func129 (by kernel_rfl) rfl)
        (fun m os dk _ x y => botAheadG x.1 y.1 _ (by have := x.2; unfold maxLen; omega) (by have := y.2; unfold maxLen; omega)) hH hlt (by rw [hsz]; omega) nmTot
      rw [hsz] at key
      refine key.mono ?_
      rintro e w' ⟨rfl, q, os, rfl⟩
      refine ⟨rfl, ?_⟩
      unfold sortWorld
      rw [Lib.putRow_eq_setCells nmE w gb 0 M.toArray _ q hH (by simp [List.length_mergeSort])]
      rw [show M.toArray.toList = M from rfl, nmE_map, nmSort, hM]
      have h2 := Fr.setCellsAtS (strV (srtS l)) [] (w.drewN q) (strV l) (by simpa using hF.drewN q) (by simp [strV_len, srtS_len])
      rw [List.nil_append] at h2
      exact h2.keep (below_growS _ _)
end Go.Proofs.Ytooghdnlaonkaaa
