/- Contracts of package urn. -/
import Derived.Test.YtghobphnjfgjeaaUrnM
import Derived.Test.YtghobphnjfgjeaaRf
import Derived.RegionTactic
namespace Go.Proofs.Ytghobphnjfgjeaa
open Go.RowKit

/-- a ratio in a block of its own -/
def eR (b : Nat) (X Y : Int) : Ent := ⟨25, .slice (some ⟨b, 0, .none⟩) 2 2, ints [X, Y]⟩
theorem Fr.rat {w0 w : World} {L : List Ent} (h : Fr w0 w L) (X Y : Int) : Fr w0 (w.alloc (.cells #[.int .i64 X, .int .i64 Y] 25)) (eR w.heap.size X Y :: L) :=
  h.lit [X, Y] #[.int .i64 X, .int .i64 Y] rfl 2 rfl (by omega) 25
theorem Fr.rat' {w0 w : World} {L : List Ent} (h : Fr w0 w L) (X Y : Int) (N : Nat) (hN : w.heap.size = N) : Fr w0 (w.alloc (.cells #[.int .i64 X, .int .i64 Y] 25)) (eR N X Y :: L) := by
  subst hN; exact h.rat X Y
theorem Fr.ratAt {w0 w : World} {L : List Ent} (h : Fr w0 w L) (i : Nat) {b : Nat} {X Y : Int} (he : L[i]? = some (eR b X Y)) :
    w.cell? ⟨b, 0, .none⟩ = some (.int .i64 X) ∧ w.cell? ⟨b, 1, .none⟩ = some (.int .i64 Y) ∧ b < w.heap.size ∧ w0.heap.size ≤ b ∧ w.frozen? ⟨b, 0, .none⟩ = false ∧ w.frozen? ⟨b, 1, .none⟩ = false := by
  have hO := h.os.own _ (List.mem_of_getElem? he)
  have h1 := World.ownsRow.cellAt hO 0 (by decide)
  have h2 := World.ownsRow.cellAt hO 1 (by decide)
  have h3 := Ent.own.lt hO b rfl
  exact ⟨h1, h2, h3.2, h3.1, World.ownsRow.frozenAt hO 0, World.ownsRow.frozenAt hO 1⟩
theorem Fr.ratPut {w0 w : World} {L : List Ent} {b : Nat} {X Y : Int} (h : Fr w0 w (eR b X Y :: L)) (X' Y' : Int) :
    Fr w0 ((w.setCell ⟨b, 0, .none⟩ (.int .i64 X')).setCell ⟨b, 1, .none⟩ (.int .i64 Y')) (eR b X' Y' :: L) := (h.setInt 0 X').setInt 1 Y'

set_option maxRecDepth 100000 in
set_option maxHeartbeats 1000000 in
theorem urnCheck (l : List Int) (n : Nat) (a : Option Addr) (ca : Nat) (more : Int) (w : World) (h : Sa w a (ints l)) (hn : l.length = n) :
    Calls Try.prog 28 #[.slice a n ca, .int .i64 more] w fun e w' => e = .returned (.int .i64 (urnChk l more)) ∧ w = w' := by
  have HN := Lib.hid hn; have HS := Lib.hid h
  clear h
  have e2 : urnChk l more = if n < 1 ∨ 5 < n then 2 else if l.any (fun x => decide (x < 0 ∨ 12 < x)) then 1 else if usum l = 0 then 5 else if more < 0 ∨ 12 < more then 1 else 0 := by rw [← hn]; rfl
  by_cases hl : n < 1 ∨ 5 < n
  · rw [if_pos hl] at e2
    have E2 := Lib.hid e2
    clear e2 hn
    rcases hl with hl | hl
    · obtain rfl : n = 0 := by omega
      go_enter Try.func28, Try.ntmps28
      go_wp2_with fail
      go_ret
      exact ⟨by rw [E2.out]; rfl, rfl⟩
    · have d1 : decide ((n : Int) < 1) = false := decide_eq_false (by omega)
      have d2 : decide ((5 : Int) < (n : Int)) = true := decide_eq_true (by omega)
      go_enter Try.func28, Try.ntmps28
      go_wp2_with fail
      go_ret
      exact ⟨by rw [E2.out]; rfl, rfl⟩
  · rw [if_neg hl] at e2
    have E2 := Lib.hid e2
    have n1 : 1 ≤ n := by omega
    have n12 : n ≤ 5 := by omega
    have d1 : decide ((n : Int) < 1) = false := decide_eq_false (by omega)
    have d2 : decide ((5 : Int) < (n : Int)) = false := decide_eq_false (by omega)
    clear e2 hn hl
    go_enter Try.func28, Try.ntmps28
    go_wp2_with fail
    go_loop [5, 18] (fun s i => ∃ k : Nat, k ≤ n ∧ i = .int .i64 k ∧ s = .int .i64 (usum (l.take k)) ∧ Hid (∀ x ∈ l.take k, 0 ≤ x ∧ x ≤ 12)) (fun _ i => n - (intOf i).toNat)
    case atStart => exact ⟨0, by omega, rfl, rfl, Lib.hid (by simp)⟩
    case round =>
      obtain ⟨k, hk, rfl, rfl, HG⟩ := hrel
      have sb := usum_bd _ _ HG.out
      have hsl : (l.take k).length ≤ 5 := by rw [List.length_take]; omega
      obtain ⟨S, hS⟩ : ∃ S, usum (l.take k) = S := ⟨_, rfl⟩
      rw [hS] at sb
      have s1 : 0 ≤ S := sb.1
      have s2 : S ≤ 60 := by omega
      have HSS := Lib.hid hS
      rw [hS]
      clear sb hsl hS
      by_cases hlt : k < n
      · obtain ⟨b', off, rfl, hb, hc⟩ := HS.out.int k (by rw [HN.out]; exact hlt)
        have hsn := take_nth l k (by rw [HN.out]; exact hlt)
        have hmem := nth_mem l k (by rw [HN.out]; exact hlt)
        obtain ⟨x, hx⟩ : ∃ x, nth l k = x := ⟨_, rfl⟩
        rw [hx] at hc hsn hmem
        by_cases hbad : x < 0 ∨ 12 < x
        · have E3 : Hid (urnChk l more = 1) := Lib.hid (by rw [E2.out, if_pos (List.any_eq_true.2 ⟨x, hmem, by simpa using hbad⟩)])
          clear hx hmem hsn
          rcases hbad with hbad | hbad
          · have d3 : decide (x < 0) = true := decide_eq_true hbad
            go_wp2_with fail
            go_ret
            exact ⟨by rw [E3.out]; rfl, rfl⟩
          · have d3 : decide (x < 0) = false := decide_eq_false (by omega)
            have d4 : decide (12 < x) = true := decide_eq_true hbad
            go_wp2_with fail
            go_ret
            exact ⟨by rw [E3.out]; rfl, rfl⟩
        · have HG2 : Hid (∀ y ∈ l.take (k + 1), 0 ≤ y ∧ y ≤ 12) := Lib.hid fun y hy => by
            rw [hsn] at hy
            rcases List.mem_append.1 hy with hy | hy
            · exact HG.out y hy
            · rw [List.mem_singleton] at hy; rw [hy]; omega
          have HU : Hid (usum (l.take (k + 1)) = S + x) := Lib.hid (by rw [hsn, usum_snoc, HSS.out])
          have d3 : decide (x < 0) = false := decide_eq_false (by omega)
          have d4 : decide (12 < x) = false := decide_eq_false (by omega)
          have x1 : 0 ≤ x := by omega
          have x2 : x ≤ 12 := by omega
          clear hx hmem hsn HG hbad
          go_wp2_with fail
          exact ⟨⟨k + 1, by omega, by simp, by rw [HU.out], HG2⟩, by simp only [intOf]; omega⟩
      · have eS : usum l = S := by rw [← HSS.out, List.take_of_length_le (by rw [HN.out]; omega)]
        have E3 : urnChk l more = if usum l = 0 then 5 else if more < 0 ∨ 12 < more then 1 else 0 := by
          rw [E2.out, if_neg]
          intro hany
          obtain ⟨x, hx, hb⟩ := List.any_eq_true.1 hany
          have := HG.out x (by rw [List.take_of_length_le (by rw [HN.out]; omega)]; exact hx)
          simp at hb; omega
        rw [eS] at E3
        have H3 := Lib.hid E3
        clear HG E2 E3 eS HSS
        by_cases h0 : S = 0
        · subst h0
          go_wp2_with fail
          go_ret
          exact ⟨by rw [H3.out]; rfl, rfl⟩
        · have z0 : (S == 0) = false := beq_eq_false_iff_ne.2 h0
          by_cases hm : more < 0
          · have d3 : decide (more < 0) = true := decide_eq_true hm
            have H4 : Hid (urnChk l more = 1) := Lib.hid (by rw [H3.out, if_neg h0, if_pos (.inl hm)])
            go_wp2_with fail
            go_ret
            exact ⟨by rw [H4.out]; rfl, rfl⟩
          · have d3 : decide (more < 0) = false := decide_eq_false hm
            by_cases hm2 : 12 < more
            · have d4 : decide (12 < more) = true := decide_eq_true hm2
              have H4 : Hid (urnChk l more = 1) := Lib.hid (by rw [H3.out, if_neg h0, if_pos (.inr hm2)])
              go_wp2_with fail
              go_ret
              exact ⟨by rw [H4.out]; rfl, rfl⟩
            · have d4 : decide (12 < more) = false := decide_eq_false hm2
              have H4 : Hid (urnChk l more = 0) := Lib.hid (by rw [H3.out, if_neg h0, if_neg (by omega)])
              go_wp2_with fail
              go_ret
              exact ⟨by rw [H4.out]; rfl, rfl⟩
end Go.Proofs.Ytghobphnjfgjeaa
