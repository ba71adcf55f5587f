/- Several of my texts in one: Perm, PermA. -/
import Derived.Test.YtooghdnlaonkaaaRw11
import Derived.RegionTactic
import Derived.ChangeAlike
import Derived.Test.YtooghdnlaonkaaaRw09
/- Contracts of perm.Check, castref.Dealt, castkeep.PermOf. -/
namespace Go.Proofs.Ytooghdnlaonkaaa
open Go.RowKit

def snL (p : List Int) (k : Nat) : List Value := (List.range 10).map fun v : Nat => Value.bool ((p.take k).any (· == (v : Int)))
theorem snL_len (p : List Int) (k : Nat) : (snL p k).length = 10 := by simp [snL]
theorem snL_get (p : List Int) (k v : Nat) (h : v < 10) : (snL p k)[v]? = some (.bool ((p.take k).any (· == (v : Int)))) := by simp [snL, h]
theorem snL_new {p : List Int} (h : IsP p) (k x : Nat) (hk : k < p.length) (hx : nth p k = x) : (p.take k).any (· == (x : Int)) = false := by
  rw [← Bool.not_eq_true, List.any_eq_true]
  rintro ⟨y, hy, e⟩
  obtain ⟨i, hi, e2⟩ := List.getElem_of_mem hy
  rw [List.length_take] at hi
  rw [List.getElem_take] at e2
  have := h.inj i k (by omega) hk (by
    rw [hx]; unfold nth
    rw [List.getD_eq_getElem?_getD, List.getElem?_eq_getElem (by omega)]
    simp at e; rw [← e, ← e2]; rfl)
  omega
theorem snL_step (p : List Int) (k x : Nat) (hk : k < p.length) (hx : nth p k = x) : (snL p k).set x (.bool true) = snL p (k + 1) := by
  apply List.ext_getElem (by simp [snL])
  intro v h1 h2
  rw [List.length_set, snL_len] at h1
  rw [List.getElem_set]
  have e : (snL p (k + 1))[v]'h2 = .bool ((p.take (k + 1)).any (· == (v : Int))) := by simp [snL]
  rw [e, take_nth p k hk, List.any_append, hx]
  by_cases ev : x = v
  · rw [if_pos ev]; subst ev; simp
  · rw [if_neg ev]
    have : (snL p k)[v]'(by rw [snL_len]; exact h1) = .bool ((p.take k).any (· == (v : Int))) := by simp [snL]
    rw [this]
    have hf : ((x : Int) == (v : Int)) = false := by rw [beq_eq_false_iff_ne]; omega
    simp [hf]

set_option maxRecDepth 100000 in
set_option maxHeartbeats 2000000 in
theorem permChk (p : List Int) (n : Nat) (a : Option Addr) (cap : Nat) (w : World) (h : Sa w a (ints p)) (hn : p.length = n) (hp : IsP p) (h10 : n ≤ 10) :
    Calls Try.prog 75 #[.slice a n cap] w fun e w' => e = .returned (.int .i64 0) ∧ Fr w w' [] := by
  have HN := Lib.hid hn; have HS := Lib.hid h; have HP := Lib.hid hp
  clear hn h hp
  go_enter Try.func75, Try.ntmps75
  go_wp2_with fail
  have F1 := (Fr.start w).new 138 #[.bool false, .bool false, .bool false, .bool false, .bool false, .bool false, .bool false, .bool false, .bool false, .bool false] (snL p 0) rfl 10 rfl (by omega)
  go_loopw [11] (fun i wr => ∃ k : Nat, k ≤ n ∧ i = .int .i64 k ∧ Fr w wr [⟨138, .slice (some ⟨w.heap.size, 0, none⟩) 10 10, snL p k⟩]) (fun i _ => n - (intOf i).toNat)
  case atStart => exact ⟨0, by omega, rfl, F1⟩
  case round =>
    obtain ⟨k, hk, rfl, hfr⟩ := hrel
    clear F1
    by_cases hlt : k < n
    · obtain ⟨b, off, rfl, hb, hc⟩ := (hfr.old HS.out).int k (by rw [HN.out]; exact hlt)
      have hbd := HP.out.bd k (by rw [HN.out]; exact hlt)
      rw [HN.out] at hbd
      obtain ⟨x, hx⟩ : ∃ x : Nat, nth p k = x := ⟨(nth p k).toNat, by omega⟩
      have hnew := snL_new HP.out k x (by rw [HN.out]; exact hlt) hx
      have hst := snL_step p k x (by rw [HN.out]; exact hlt) hx
      rw [hx] at hc hbd
      have hxn : x < n := by omega
      obtain ⟨g, e, _, _, hcell, hz⟩ := hfr.open (by rw [snL_len]; omega)
      cases e
      have c1 := hcell x (by rw [snL_len]; omega)
      rw [snL_get p k x (by omega), hnew] at c1
      have z1 := hz x
      have F2 := hfr.set x (.bool true)
      rw [hst] at F2
      have HF := Lib.hid F2
      clear hcell hz hx hnew hst hfr F2 hbd
      have d1 : (0 : Int) ≤ (x : Int) := by omega
      have d2 : (x : Int) < 10 := by omega
      have d3 : decide ((x : Int) < 0) = false := decide_eq_false (by omega)
      have d4 : decide (n ≤ x) = false := decide_eq_false (by omega)
      have d5 : x < 10 := by omega
      go_wp2_with fail
      go_roundw
      case rel => exact ⟨k + 1, by omega, by go_num, HF.out⟩
      case measure => simp only [intOf]; omega
    · go_wp2_with fail
      go_ret
      exact ⟨rfl, hfr.below⟩

def lotsL (l : List Int) (t : Nat) : List Int := (List.range (min t l.length)).map fun i : Nat => nth l i % ((i : Int) + 1)
theorem lotsL_len (l : List Int) (t : Nat) : (lotsL l t).length = min t l.length := by simp [lotsL]
theorem lotsL_nth (l : List Int) (t i : Nat) (h : i < min t l.length) : nth (lotsL l t) i = nth l i % ((i : Int) + 1) := by
  unfold nth lotsL
  rw [List.getD_eq_getElem?_getD, List.getElem?_map, List.getElem?_range h]; rfl
theorem lotsL_ok (l : List Int) (t : Nat) : LotOk (lotsL l t) := fun i hi => by
  rw [lotsL_len] at hi
  rw [lotsL_nth _ _ _ hi]
  have := Int.emod_nonneg (nth l i) (b := (i : Int) + 1) (by omega)
  have := Int.emod_lt_of_pos (nth l i) (b := (i : Int) + 1) (by omega)
  omega
theorem lotsL_take (l : List Int) (t k : Nat) (h : k < min t l.length) : (lotsL l t).take k ++ [nth l k % ((k : Int) + 1)] = (lotsL l t).take (k + 1) := by
  rw [take_nth _ k (by rw [lotsL_len]; exact h), lotsL_nth _ _ _ h]

def OneP (l : List Int) (n : Nat) (w : World) (e : Ending) (w' : World) : Prop :=
  ∃ (ad : Option Addr) (cp : Nat), e = .returned (.slice ad n cp) ∧ n ≤ cp ∧ Fr w w' [⟨3, .slice ad n cp, ints l⟩]

def MadeP (l : List Int) (w : World) (e : Ending) (w' : World) : Prop :=
  ∃ (ad : Option Addr) (n cp : Nat), e = .returned (.slice ad n cp) ∧ l.length = n ∧ n ≤ cp ∧ Fr w w' [⟨3, .slice ad n cp, ints l⟩]
def permL (l : List Int) (t : Nat) : List Int := dealL (lotsL l t)
theorem permL_ok (l : List Int) (t : Nat) : (permL l t).length = min t l.length ∧ IsP (permL l t) := by
  have := dealL_ok (lotsL l t) (lotsL_ok l t)
  rw [lotsL_len] at this; exact this

end Go.Proofs.Ytooghdnlaonkaaa
/- perm.Check at any input. -/
namespace Go.Proofs.Ytooghdnlaonkaaa
open Go.RowKit

def PreP (p : List Int) (k : Nat) : Prop := (∀ i, i < k → 0 ≤ nth p i ∧ nth p i < p.length) ∧ ∀ i j, i < k → j < k → nth p i = nth p j → i = j
theorem preP_all {p : List Int} (h : PreP p p.length) : IsP p := ⟨h.1, h.2⟩
theorem any_true {p : List Int} {k : Nat} {x : Int} (hk : k ≤ p.length) (h : (p.take k).any (· == x) = true) : ∃ i, i < k ∧ nth p i = x := by
  rw [List.any_eq_true] at h
  obtain ⟨y, hy, e⟩ := h
  obtain ⟨i, hi, e2⟩ := List.getElem_of_mem hy
  rw [List.length_take] at hi
  rw [List.getElem_take] at e2
  refine ⟨i, by omega, ?_⟩
  simp at e
  rw [← e, ← e2]
  simp [nth, show i < p.length by omega]
theorem any_false {p : List Int} {k : Nat} {x : Int} (hk : k ≤ p.length) (h : (p.take k).any (· == x) = false) (i : Nat) (hi : i < k) : nth p i ≠ x := by
  intro e
  rw [← Bool.not_eq_true, List.any_eq_true] at h
  refine h ⟨nth p i, ?_, by simpa using e⟩
  have : nth p i = (p.take k)[i]'(by rw [List.length_take]; omega) := by simp [nth, show i < p.length by omega]
  rw [this]
  exact List.getElem_mem _
open Classical in
noncomputable def chkP (p : List Int) : Int := if 10 < p.length then 2 else if IsP p then 0 else 3
theorem chkP_ok {p : List Int} (h : chkP p = 0) : p.length ≤ 10 ∧ IsP p := by
  unfold chkP at h
  by_cases h1 : 10 < p.length
  · rw [if_pos h1] at h; cases h
  · rw [if_neg h1] at h
    by_cases h2 : IsP p
    · exact ⟨by omega, h2⟩
    · rw [if_neg h2] at h; cases h
set_option maxRecDepth 100000 in
set_option maxHeartbeats 4000000 in
theorem permChkA (p : List Int) (n : Nat) (a : Option Addr) (cap : Nat) (w : World) (h : Sa w a (ints p)) (hn : p.length = n) (hm : n ≤ maxLen) :
    Calls Try.prog 75 #[.slice a n cap] w fun e w' => e = .returned (.int .i64 (chkP p)) ∧ Fr w w' [] := by
  have HN := Lib.hid hn; have HS := Lib.hid h
  unfold maxLen at hm
  clear hn h
  by_cases h10 : 10 < n
  · have HR : Hid (chkP p = 2) := Lib.hid (by unfold chkP; rw [if_pos (by rw [HN.out]; exact h10)])
    have g : decide ((10 : Int) < (n : Int)) = true := decide_eq_true (by omega)
    have HF := Lib.hid (Fr.start w)
    go_enter Try.func75, Try.ntmps75
    go_wp2_with fail
    go_ret
    exact ⟨by rw [HR.out]; rfl, HF.out⟩
  · have HR3 : Hid (¬ IsP p → chkP p = 3) := Lib.hid (fun hp => by unfold chkP; rw [if_neg (by rw [HN.out]; exact h10), if_neg hp])
    have HR0 : Hid (IsP p → chkP p = 0) := Lib.hid (fun hp => by unfold chkP; rw [if_neg (by rw [HN.out]; exact h10), if_pos hp])
    have h10 : n ≤ 10 := by omega
    go_enter Try.func75, Try.ntmps75
    go_wp2_with fail
    have F1 := (Fr.start w).new 138 #[.bool false, .bool false, .bool false, .bool false, .bool false, .bool false, .bool false, .bool false, .bool false, .bool false] (snL p 0) rfl 10 rfl (by omega)
    go_loopw [11] (fun i wr => ∃ k : Nat, k ≤ n ∧ i = .int .i64 k ∧ Hid (PreP p k) ∧ Fr w wr [⟨138, .slice (some ⟨w.heap.size, 0, none⟩) 10 10, snL p k⟩]) (fun i _ => n - (intOf i).toNat)
    case atStart => exact ⟨0, by omega, rfl, Lib.hid ⟨fun i hi => by omega, fun i j hi => by omega⟩, F1⟩
    case round =>
      obtain ⟨k, hk, rfl, HK, hfr⟩ := hrel
      clear F1
      by_cases hlt : k < n
      · obtain ⟨b, off, rfl, hb, hc⟩ := (hfr.old HS.out).int k (by rw [HN.out]; exact hlt)
        by_cases hneg : nth p k < 0
        · have HB : Hid (chkP p = 3) := Lib.hid (HR3.out fun hp => by have := hp.bd k (by rw [HN.out]; exact hlt); omega)
          have HF := Lib.hid hfr.below
          obtain ⟨x, hx⟩ : ∃ x : Int, nth p k = x := ⟨_, rfl⟩
          rw [hx] at hc hneg
          clear hx hfr
          have d3 : decide (x < 0) = true := decide_eq_true hneg
          clear hneg
          go_wp2_with fail
          go_ret
          exact ⟨by rw [HB.out]; rfl, HF.out⟩
        obtain ⟨x, hx⟩ : ∃ x : Nat, nth p k = x := ⟨(nth p k).toNat, by omega⟩
        have d3 : decide ((x : Int) < 0) = false := decide_eq_false (by omega)
        by_cases hbig : n ≤ x
        · have HB : Hid (chkP p = 3) := Lib.hid (HR3.out fun hp => by have := hp.bd k (by rw [HN.out]; exact hlt); rw [HN.out] at this; omega)
          have HF := Lib.hid hfr.below
          rw [hx] at hc
          clear hx hfr hneg
          have d4 : decide (n ≤ x) = true := decide_eq_true hbig
          go_wp2_with fail
          go_ret
          exact ⟨by rw [HB.out]; rfl, HF.out⟩
        have d4 : decide (n ≤ x) = false := decide_eq_false hbig
        have hst := snL_step p k x (by rw [HN.out]; exact hlt) hx
        have hxn : x < n := by omega
        obtain ⟨g, e, _, _, hcell, hz⟩ := hfr.open (by rw [snL_len]; omega)
        cases e
        have c1 := hcell x (by rw [snL_len]; omega)
        rw [snL_get p k x (by omega)] at c1
        have z1 := hz x
        have F2 := hfr.set x (.bool true)
        rw [hst] at F2
        have HF := Lib.hid F2
        have HF0 := Lib.hid hfr.below
        have d1 : (0 : Int) ≤ (x : Int) := by omega
        have d2 : (x : Int) < 10 := by omega
        have d5 : x < 10 := by omega
        cases hbb : (p.take k).any (· == (x : Int)) with
        | true =>
          have HB : Hid (chkP p = 3) := Lib.hid (HR3.out fun hp => by
            obtain ⟨i, hi, e⟩ := any_true (by rw [HN.out]; exact hk) hbb
            have := hp.inj i k (by rw [HN.out]; omega) (by rw [HN.out]; exact hlt) (by rw [e, hx])
            omega)
          rw [hbb] at c1
          rw [hx] at hc
          clear hcell hz hx hst hfr F2 hneg hbb
          go_wp2_with fail
          go_ret
          exact ⟨by rw [HB.out]; rfl, HF0.out⟩
        | false =>
          have HK2 : Hid (PreP p (k + 1)) := Lib.hid ⟨fun i hi => by
              rcases Nat.lt_succ_iff_lt_or_eq.1 hi with h | rfl
              · exact HK.out.1 i h
              · rw [hx, HN.out]; exact ⟨by omega, by omega⟩, fun i j hi hj e => by
              have hf := fun i hi => any_false (by rw [HN.out]; exact hk) hbb i hi
              rcases Nat.lt_succ_iff_lt_or_eq.1 hi with h | rfl
              · rcases Nat.lt_succ_iff_lt_or_eq.1 hj with h' | rfl
                · exact HK.out.2 i j h h' e
                · exact absurd (e.trans hx) (hf i h)
              · rcases Nat.lt_succ_iff_lt_or_eq.1 hj with h' | rfl
                · exact absurd (e.symm.trans hx) (hf j h')
                · rfl⟩
          rw [hbb] at c1
          rw [hx] at hc
          clear hcell hz hx hst hfr F2 hneg hbb HF0
          go_wp2_with fail
          go_roundw
          case rel => exact ⟨k + 1, by omega, by go_num, HK2, HF.out⟩
          case measure => simp only [intOf]; omega
      · have HB : Hid (chkP p = 0) := Lib.hid (HR0.out (preP_all (by rw [HN.out, show n = k by omega]; exact HK.out)))
        go_wp2_with fail
        go_ret
        exact ⟨by rw [HB.out]; rfl, hfr.below⟩
end Go.Proofs.Ytooghdnlaonkaaa
