/- Several of my texts in one: Ord. -/
import Derived.Test.YtooghdnlaonkaaaPw05
/- perm.Order of one turn of three; slices.SortFunc of one number. -/
namespace Go.Proofs.Ytooghdnlaonkaaa
open Go.RowKit

set_option maxRecDepth 100000 in
set_option maxHeartbeats 1000000 in
theorem insOne (ad : Option Addr) (cp : Nat) (fv : Value) (w : World) :
    Calls Try.prog 163 #[.slice ad 1 cp, .int .i64 0, .int .i64 1, fv] w fun e w' => e = .returned (.tuple #[]) ∧ w = w' := by
  go_enter Try.func163, Try.ntmps163
  go_wp2_with fail
  go_loop [8] (fun i => i = .int .i64 1) (fun _ => 0)
  case atStart => rfl
  case round =>
    subst hrel
    go_wp2_with fail
    go_end0
    exact ⟨rfl, rfl⟩
set_option maxRecDepth 100000 in
set_option maxHeartbeats 1000000 in
theorem pdqOne (ad : Option Addr) (cp : Nat) (fv : Value) (L : Int) (w : World) :
    Calls Try.prog 139 #[.slice ad 1 cp, .int .i64 0, .int .i64 1, .int .i64 L, fv] w fun e w' => e = .returned (.tuple #[]) ∧ w = w' := by
  go_enter Try.func139, Try.ntmps139
  go_wp2_with fail
  go_loop [1, 2, 3] (fun a b l => a = .int .i64 0 ∧ b = .int .i64 1) (fun _ _ _ => 0)
  case atStart => exact ⟨rfl, rfl⟩
  case round =>
    obtain ⟨rfl, rfl⟩ := hrel
    go_wp2_with fail
    refine (insOne _ _ _ _).mono ?_; rintro e w' ⟨rfl, rfl⟩
    go_wp2_with fail
    refine bodyPost_ret (results_none rfl _ _ _) rfl ?_
    exact ⟨rfl, rfl⟩
set_option maxRecDepth 100000 in
theorem len64One (w : World) : Calls Try.prog 157 #[.int .u64 1] w fun e w' => (∃ L, e = .returned (.int .i64 L)) ∧ w = w' := by
  go_enter Try.func157, Try.ntmps157
  go_wp2_with fail
  go_ret
  exact ⟨⟨_, rfl⟩, rfl⟩
set_option maxRecDepth 100000 in
theorem lenOne (w : World) : Calls Try.prog 126 #[.int .u64 1] w fun e w' => (∃ L, e = .returned (.int .i64 L)) ∧ w = w' := by
  go_enter Try.func126, Try.ntmps126
  go_wp2_with fail
  refine (len64One _).mono ?_; rintro e w' ⟨⟨L, rfl⟩, rfl⟩
  go_wp2_with fail
  go_ret
  exact ⟨⟨_, rfl⟩, rfl⟩
set_option maxRecDepth 100000 in
theorem sortOne (ad : Option Addr) (cp : Nat) (fv : Value) (w : World) :
    Calls Try.prog 98 #[.slice ad 1 cp, fv] w fun e w' => e = .returned (.tuple #[]) ∧ w = w' := by
  go_enter Try.func98, Try.ntmps98
  go_wp2_with fail
  refine (lenOne _).mono ?_; rintro e w' ⟨⟨L, rfl⟩, rfl⟩
  go_wp2_with fail
  refine (pdqOne _ _ _ _ _).mono ?_; rintro e w' ⟨rfl, rfl⟩
  go_wp2_with fail
  go_end0
  exact ⟨rfl, rfl⟩

/-! one turn of three -/
def p120 : List Int := [1, 2, 0]
def seen10 (j : Nat) : List Value := (List.range 10).map (fun t => .bool (decide (t < j)))
theorem seen10_len (j : Nat) : (seen10 j).length = 10 := by simp [seen10]
theorem seen10_set (j : Nat) (h : j < 10) : (seen10 j).set j (.bool true) = seen10 (j + 1) := by
  refine List.ext_getElem? (fun i => ?_)
  rw [List.getElem?_set, seen10_len]
  unfold seen10
  by_cases e : j = i
  · subst e; rw [if_pos rfl, if_pos h]; simp [h]
  · rw [if_neg e, List.getElem?_map, List.getElem?_map]
    by_cases hi : i < 10
    · rw [List.getElem?_range hi]; simp
      by_cases h1 : i < j
      · simp [h1, show i < j + 1 from by omega]
      · simp [h1, show ¬ i < j + 1 from by omega]
    · rw [List.getElem?_eq_none (by simp; omega)]; rfl
theorem seen10_get (j i : Nat) (h : i < 10) : (seen10 j)[i]? = some (.bool (decide (i < j))) := by
  unfold seen10
  rw [List.getElem?_map, List.getElem?_range h]; rfl
set_option maxRecDepth 100000 in
set_option maxHeartbeats 4000000 in
theorem cycles120 (a : Option Addr) (cap : Nat) (w : World) (h : Sa w a (ints p120)) :
    Calls Try.prog 51 #[.slice a 3 cap] w fun e w' => ∃ ad cp, e = .returned (.tuple #[.slice ad 1 cp, .int .i64 0]) ∧ Fr w w' [⟨3, .slice ad 1 cp, ints [3]⟩] := by
  have HS := Lib.hid h
  have HP := Lib.hid (show IsP p120 from isP_lit _ (by decide) (by decide))
  obtain ⟨b0, off, rfl, hb0, -⟩ := h.int 0 (by decide)
  clear h
  go_enter Try.func51, Try.ntmps51
  go_wp2_with fail
  refine (permChk p120 3 _ _ _ HS.out rfl HP.out (by omega)).mono ?_; rintro e w1 ⟨rfl, F1⟩
  go_wp2_with fail
  have F2 := F1.new 138 #[.bool false, .bool false, .bool false, .bool false, .bool false, .bool false, .bool false, .bool false, .bool false, .bool false] (seen10 0) rfl 10 rfl (by omega)
  obtain ⟨B, hB⟩ : ∃ B, w1.heap.size = B := ⟨_, rfl⟩
  rw [hB] at F2 ⊢
  go_loopw [6, 17] (fun o i wr => ∃ (k : Nat) (ad : Option Addr) (cp : Nat), k ≤ 3 ∧ i = .int .i64 k ∧ o = .slice ad (if k = 0 then 0 else 1) cp ∧ Fr w wr [⟨3, .slice ad (if k = 0 then 0 else 1) cp, ints (if k = 0 then [] else [3])⟩, ⟨138, .slice (some ⟨B, 0, none⟩) 10 10, seen10 (if k = 0 then 0 else 3)⟩]) (fun _ i _ => 3 - (intOf i).toNat)
  case atStart => exact ⟨0, none, 0, by omega, rfl, rfl, F2.nilSlice _⟩
  case round =>
    obtain ⟨k, ad, cp, hk, rfl, rfl, hfr⟩ := hrel
    clear F2
    rcases k with _ | k
    · rw [if_pos rfl] at hfr ⊢
      simp only [if_true] at hfr
      have nth3 : ∀ j, j < 3 → nth p120 j = ((j + 1) % 3 : Nat) := by decide
      go_wp2_with fail
      go_loopw [8, 9] (fun n k wr => ∃ (j : Nat), j ≤ 3 ∧ n = .int .i64 j ∧ k = .int .i64 (j % 3 : Nat) ∧ Fr w wr [⟨3, .slice ad 0 cp, ints []⟩, ⟨138, .slice (some ⟨B, 0, none⟩) 10 10, seen10 j⟩]) (fun n _ _ => 3 - (intOf n).toNat)
      case atStart => exact ⟨0, by omega, rfl, rfl, hfr⟩
      case round =>
        obtain ⟨j, hj, rfl, rfl, hfr⟩ := hrel
        have hm : j % 3 < 3 := Nat.mod_lt _ (by omega)
        obtain ⟨g, e, _, _, hcell, hz⟩ := hfr.swap.open (by rw [seen10_len]; omega)
        cases e
        have c1 := hcell (j % 3) (by rw [seen10_len]; omega)
        rw [seen10_get _ _ (by omega)] at c1
        have z1 := hz (j % 3)
        clear hcell hz
        by_cases hlt : j < 3
        · have hjm : j % 3 = j := Nat.mod_eq_of_lt hlt
          rw [hjm] at c1 z1 hm ⊢
          rw [decide_eq_false (by omega)] at c1
          obtain ⟨b', o', e, hb', c2⟩ := (hfr.old HS.out).int j (by exact hlt)
          cases e
          rw [nth3 j hlt] at c2
          have F3 := Fr.swap (hfr.swap.set j (.bool true))
          rw [seen10_set j (by omega)] at F3
          have HF3 := Lib.hid F3
          have d1 : (0 : Int) ≤ (j : Int) := by omega
          have d2 : (j : Int) < 10 := by omega
          have d3 : (j : Int) < 3 := by omega
          have nb : b0 ≠ B := by omega
          clear hfr hjm F3 nth3
          obtain ⟨y, hy⟩ : ∃ y, (j + 1) % 3 = y := ⟨_, rfl⟩
          rw [hy] at c2
          have HY := Lib.hid hy
          clear hy
          go_wp2_with fail
          exact ⟨⟨j + 1, by omega, by simp, by rw [HY.out], HF3.out⟩, by simp only [intOf]; omega⟩
        · obtain rfl : j = 3 := by omega
          have c1' : wr.cell? ⟨B, 0, none⟩ = some (.bool true) := c1
          clear c1 z1
          go_wp2_with (with_reducible refine at_slot 38 ?_; go_must (refine wpList_pushInt rfl _ _ rfl ad 0 cp _ 3 _ rfl hfr rfl ?_ ?_); rotate_left; intro ad' cp' w2 hf2 hlt2)
          · go_wp2_with fail
            exact ⟨⟨1, ad', cp', by omega, rfl, rfl, hf2⟩, by simp only [intOf]; omega⟩
          · omega
    · simp only [if_neg (show ¬ k + 1 = 0 by omega)] at hfr ⊢
      obtain ⟨g, e, _, _, hcell, hz⟩ := hfr.swap.open (by rw [seen10_len]; omega)
      cases e
      by_cases hlt : k + 1 < 3
      · have c1 := hcell (k + 1) (by rw [seen10_len]; omega)
        rw [seen10_get _ _ (by omega), decide_eq_true hlt] at c1
        have d1 : (0 : Int) ≤ ((k + 1 : Nat) : Int) := by omega
        have d2 : ((k + 1 : Nat) : Int) < 10 := by omega
        have d3 : ((k + 1 : Nat) : Int) < 3 := by omega
        obtain ⟨m, hm⟩ : ∃ m, k + 1 = m := ⟨_, rfl⟩
        rw [hm] at c1 d1 d2 d3 hlt hk ⊢
        have m0 : ¬ m = 0 := by omega
        clear hcell hz hm
        go_wp2_with fail
        go_loopw [8, 9] (fun n k wr' => n = .int .i64 0 ∧ k = .int .i64 m ∧ wr' = wr) (fun _ _ _ => 0)
        case atStart => exact ⟨rfl, rfl, rfl⟩
        case round =>
          obtain ⟨rfl, rfl, rfl⟩ := hrel
          go_wp2_with fail
          exact ⟨⟨m + 1, ad, cp, by omega, by simp, by rw [if_neg (by omega)], by simp only [if_neg (show ¬ m + 1 = 0 by omega)]; exact hfr⟩, by simp only [intOf]; omega⟩
      · obtain rfl : k = 2 := by omega
        clear hcell hz
        go_wp2_with fail
        refine (sortOne _ _ _ _).mono ?_; rintro e w' ⟨rfl, rfl⟩
        go_wp2_with fail
        go_ret2
        exact ⟨ad, cp, rfl, hfr.sub (by simp)⟩

set_option maxRecDepth 100000 in
set_option maxHeartbeats 4000000 in
theorem order120 (a : Option Addr) (cap : Nat) (w : World) (h : Sa w a (ints p120)) :
    Calls Try.prog 95 #[.slice a 3 cap] w fun e w' => e = .returned (.tuple #[.int .i64 3, .int .i64 0]) ∧ Below w.heap.size w w' := by
  have HS := Lib.hid h
  clear h
  go_enter Try.func95, Try.ntmps95
  go_wp2_with fail
  refine (cycles120 _ _ _ HS.out).mono ?_; rintro e w1 ⟨ad, cp, rfl, F1⟩
  obtain ⟨G, e, -, -, -⟩ := F1.openI 0 (by decide)
  subst e
  go_wp2_with fail
  go_loopw [6, 21] (fun o i wr => ∃ t : Nat, t ≤ 1 ∧ i = .int .i64 t ∧ o = .int .i64 (if t = 0 then 1 else 3) ∧ Fr w wr [⟨3, .slice (some ⟨G, 0, none⟩) 1 cp, ints [3]⟩]) (fun _ i _ => 1 - (intOf i).toNat)
  case atStart => exact ⟨0, by omega, rfl, rfl, F1⟩
  case round =>
    obtain ⟨t, ht, rfl, rfl, hfr⟩ := hrel
    clear F1
    rcases t with _ | t
    · rw [if_pos rfl]
      obtain ⟨_, e, _, c0, -⟩ := hfr.openI 0 (by decide)
      cases e
      have c0' : wr.cell? ⟨G, 0, none⟩ = some (.int .i64 3) := c0
      clear c0
      go_wp2_with fail
      go_loopw [9, 10] (fun a b wr => (a = .int .i64 1 ∧ b = .int .i64 3 ∨ a = .int .i64 3 ∧ b = .int .i64 1 ∨ a = .int .i64 1 ∧ b = .int .i64 0) ∧ Fr w wr [⟨3, .slice (some ⟨G, 0, none⟩) 1 cp, ints [3]⟩]) (fun _ b _ => (intOf b).toNat)
      case atStart => exact ⟨.inl ⟨rfl, rfl⟩, hfr⟩
      case round =>
        obtain ⟨hab, hfr⟩ := hrel
        rcases hab with ⟨rfl, rfl⟩ | ⟨rfl, rfl⟩ | ⟨rfl, rfl⟩
        · go_wp2_with fail
          go_region
          go_wp2_with fail
          exact ⟨⟨.inr (.inl ⟨rfl, rfl⟩), hfr.drew⟩, by simp [intOf]⟩
        · go_wp2_with fail
          go_region
          go_wp2_with fail
          exact ⟨⟨.inr (.inr ⟨rfl, rfl⟩), hfr.drew⟩, by simp [intOf]⟩
        · go_wp2_with fail
          exact ⟨⟨1, by omega, rfl, rfl, hfr⟩, by simp [intOf]⟩
    · obtain rfl : t = 0 := by omega
      rw [if_neg (by omega)]
      go_wp2_with fail
      go_ret2
      exact ⟨rfl, hfr.bel⟩
end Go.Proofs.Ytooghdnlaonkaaa
