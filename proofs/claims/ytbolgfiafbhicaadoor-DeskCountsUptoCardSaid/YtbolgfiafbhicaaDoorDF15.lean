/- Several of my texts in one: Hal1, PermA. -/
import Derived.Test.YtbolgfiafbhicaaDoorDF14
import Derived.Laws.IdiomStrings
import Derived.Test.YtbolgfiafbhicaaDoorDF12
import Derived.Test.YtbolgfiafbhicaaDoorDF08
/- Contracts of package hall: named, find, tickets, Names. -/
namespace Go.Proofs.YtbolgfiafbhicaaDoor
open Go.RowKit

def byA (s : ByteArray) (i : Nat) : UInt8 := s.data.toList.getD i 0
theorem toBytes (s : ByteArray) (w : World) : ∃ N C W, Sem.run Tryd.prog (convert 9 55 (.string s)) w = .ok (.slice (some ⟨N, 0, none⟩) s.size C) W ∧ Fr w W [] ∧ ∀ j, j < s.size → W.cell? ⟨N, j, none⟩ = some (.int .u8 ((byA s j).toNat : Nat)) := by
  refine ⟨_, _, _, run_bytes_of_string w _ _ 5 s Tryd.underlying9 Tryd.underlying55 Tryd.underlying5, ?_, fun j hj => ?_⟩
  · have h1 := ((Fr.start w).drew).alloc (.cells (bytesRow s (grownCap w s.size 0 5)) 5 ((bytesRow s (grownCap w s.size 0 5)).size, (bytesRow s (grownCap w s.size 0 5)).size + 1))
    exact h1
  · have hN : w.heap.size = w.drew.heap.size := rfl
    unfold World.cell?
    have h0 : (w.drew.alloc (.cells (bytesRow s (grownCap w s.size 0 5)) 5 ((bytesRow s (grownCap w s.size 0 5)).size, (bytesRow s (grownCap w s.size 0 5)).size + 1))).heap[w.heap.size]? = some (.cells (bytesRow s (grownCap w s.size 0 5)) 5 ((bytesRow s (grownCap w s.size 0 5)).size, (bytesRow s (grownCap w s.size 0 5)).size + 1)) := by
      show (w.heap.push _)[w.heap.size]? = _
      simp
    simp only [h0]
    have hj' : j < s.data.size := hj
    simp [bytesRow, byA, Array.getElem?_append]
    rw [if_pos hj, Array.getElem?_eq_getElem hj']; rfl
theorem named_yes {s : ByteArray} (h : ∀ i, i < s.size → lowB (byA s i) = true) : namedB s = (decide (0 < s.size) && decide (s.size ≤ 12)) := by
  have : s.data.toList.all lowB = true := by
    rw [List.all_eq_true]
    intro x hx
    obtain ⟨i, hi, rfl⟩ := List.getElem_of_mem hx
    have hi' : i < s.size := by simpa using hi
    have := h i hi'
    unfold byA at this
    rw [List.getD_eq_getElem?_getD, List.getElem?_eq_getElem hi] at this
    exact this
  unfold namedB; rw [this, Bool.true_and]
theorem named_no {s : ByteArray} {i : Nat} (hi : i < s.size) (h : lowB (byA s i) = false) : namedB s = false := by
  have : s.data.toList.all lowB = false := by
    apply Bool.eq_false_iff.2
    intro ha
    rw [List.all_eq_true] at ha
    have hi' : i < s.data.toList.length := by simpa using hi
    have := ha _ (List.getElem_mem hi')
    unfold byA at h
    rw [List.getD_eq_getElem?_getD, List.getElem?_eq_getElem hi'] at h
    rw [show (some s.data.toList[i]).getD 0 = s.data.toList[i] from rfl] at h
    rw [h] at this; cases this
  unfold namedB; rw [this]; rfl
set_option maxRecDepth 100000 in
set_option maxHeartbeats 4000000 in
theorem halNamed (s : ByteArray) (w : World) (hs : s.size ≤ maxLen) :
    Calls Tryd.prog 55 #[.string s] w fun e w' => e = .returned (.bool (namedB s)) ∧ Fr w w' [] := by
  unfold maxLen at hs
  obtain ⟨N, C, W, hcv, hfr, hcell⟩ := toBytes s w
  have HF := Lib.hid hfr; have HC := Lib.hid hcell
  clear hfr hcell
  go_enter Tryd.func55, Tryd.ntmps55
  go_wp2_with fail
  clear hcv
  obtain ⟨n, hn⟩ : ∃ n, s.size = n := ⟨_, rfl⟩
  rw [hn] at hs ⊢
  have HN := Lib.hid hn
  clear hn
  go_loop [8] (fun i => ∃ k : Nat, k ≤ n ∧ i = .int .i64 k ∧ Hid (∀ j, j < k → lowB (byA s j) = true)) (fun i => n - (intOf i).toNat)
  case atStart => exact ⟨0, by omega, rfl, Lib.hid fun j hj => by omega⟩
  case round =>
    obtain ⟨k, hk, rfl, HB⟩ := hrel
    by_cases hlt : k < n
    · have c0 := HC.out k (by rw [HN.out]; exact hlt)
      have hb := (byA s k).toNat_lt
      have hlow : lowB (byA s k) = (decide (97 ≤ (byA s k).toNat) && decide ((byA s k).toNat ≤ 122)) := rfl
      have HLW := Lib.hid hlow
      clear hlow
      obtain ⟨b, hbe⟩ : ∃ b, (byA s k).toNat = b := ⟨_, rfl⟩
      rw [hbe] at c0 hb HLW
      clear hbe
      by_cases h1 : b < 97
      · have HNO := Lib.hid (named_no (by rw [HN.out]; exact hlt) (by rw [HLW.out]; simp; omega))
        have d1 : decide ((b : Int) < 97) = true := decide_eq_true (by omega)
        go_wp2_with fail
        go_ret
        exact ⟨by rw [HNO.out]; rfl, HF.out⟩
      · have d1 : decide ((b : Int) < 97) = false := decide_eq_false (by omega)
        by_cases h2 : 122 < b
        · have HNO := Lib.hid (named_no (by rw [HN.out]; exact hlt) (by rw [HLW.out]; simp; omega))
          have d2 : decide ((122 : Int) < (b : Int)) = true := decide_eq_true (by omega)
          go_wp2_with fail
          go_ret
          exact ⟨by rw [HNO.out]; rfl, HF.out⟩
        · have d2 : decide ((122 : Int) < (b : Int)) = false := decide_eq_false (by omega)
          have HOK : Hid (lowB (byA s k) = true) := Lib.hid (by rw [HLW.out]; simp; omega)
          go_wp2_with fail
          exact ⟨⟨k + 1, by omega, by simp, Lib.hid fun j hj => by
            by_cases e : j = k
            · rw [e]; exact HOK.out
            · exact HB.out j (by omega)⟩, by simp only [intOf]; omega⟩
    · obtain rfl : k = n := by omega
      have HY := Lib.hid (named_yes (s := s) (fun j hj => HB.out j (by rw [HN.out] at hj; exact hj)))
      rw [HN.out] at HY
      have e0 := HN.out
      rcases Nat.eq_zero_or_pos k with h0 | h0
      · subst h0
        go_wp2_with fail
        go_ret
        exact ⟨by rw [HY.out]; rfl, HF.out⟩
      · have d1 : decide ((0 : Int) < (k : Int)) = true := decide_eq_true (by omega)
        by_cases h12 : k ≤ 12
        · have d2 : decide ((k : Int) ≤ 12) = true := decide_eq_true (by omega)
          go_wp2_with fail
          go_ret
          exact ⟨by rw [HY.out]; simp; omega, HF.out⟩
        · have d2 : decide ((k : Int) ≤ 12) = false := decide_eq_false (by omega)
          go_wp2_with fail
          go_ret
          exact ⟨by rw [HY.out]; simp; omega, HF.out⟩
end Go.Proofs.YtbolgfiafbhicaaDoor
/- perm.Check at any input. -/
namespace Go.Proofs.YtbolgfiafbhicaaDoor
open Go.RowKit

def PreP (p : List Int) (k : Nat) : Prop := (∀ i, i < k → 0 ≤ nth p i ∧ nth p i < p.length) ∧ ∀ i j, i < k → j < k → nth p i = nth p j → i = j
theorem preP_all {p : List Int} (h : PreP p p.length) : IsP p := ⟨h.1, h.2⟩
theorem any_true {p : List Int} {k : Nat} {x : Int} (hk : k ≤ p.length) (h : (p.take k).any (· == x) = true) : ∃ i, i < k ∧ nth p i = x := by
  rw [List.any_eq_true] at h
  obtain ⟨y, hy, e⟩ := h
  obtain ⟨i, hi, e2⟩ := List.getElem_of_mem hy
  rw [List.length_take] at hi
  rw [List.getElem_take] at e2
  refine ⟨i, by omega, ?_⟩
  simp at e
  rw [← e, ← e2]
  simp [nth, show i < p.length by omega]
theorem any_false {p : List Int} {k : Nat} {x : Int} (hk : k ≤ p.length) (h : (p.take k).any (· == x) = false) (i : Nat) (hi : i < k) : nth p i ≠ x := by
  intro e
  rw [← Bool.not_eq_true, List.any_eq_true] at h
  refine h ⟨nth p i, ?_, by simpa using e⟩
  have : nth p i = (p.take k)[i]'(by rw [List.length_take]; omega) := by simp [nth, show i < p.length by omega]
  rw [this]
  exact List.getElem_mem _
open Classical in
noncomputable def chkP (p : List Int) : Int := if 10 < p.length then 2 else if IsP p then 0 else 3
theorem chkP_ok {p : List Int} (h : chkP p = 0) : p.length ≤ 10 ∧ IsP p := by
  unfold chkP at h
  by_cases h1 : 10 < p.length
  · rw [if_pos h1] at h; cases h
  · rw [if_neg h1] at h
    by_cases h2 : IsP p
    · exact ⟨by omega, h2⟩
    · rw [if_neg h2] at h; cases h
set_option maxRecDepth 100000 in
set_option maxHeartbeats 4000000 in
theorem permChkA (p : List Int) (n : Nat) (a : Option Addr) (cap : Nat) (w : World) (h : Sa w a (ints p)) (hn : p.length = n) (hm : n ≤ maxLen) :
    Calls Tryd.prog 89 #[.slice a n cap] w fun e w' => e = .returned (.int .i64 (chkP p)) ∧ Fr w w' [] := by
  have HN := Lib.hid hn; have HS := Lib.hid h
  unfold maxLen at hm
  clear hn h
  by_cases h10 : 10 < n
  · have HR : Hid (chkP p = 2) := Lib.hid (by unfold chkP; rw [if_pos (by rw [HN.out]; exact h10)])
    have g : decide ((10 : Int) < (n : Int)) = true := decide_eq_true (by omega)
    have HF := Lib.hid (Fr.start w)
    go_enter Tryd.func89, Tryd.ntmps89
    go_wp2_with fail
    go_ret
    exact ⟨by rw [HR.out]; rfl, HF.out⟩
  · have HR3 : Hid (¬ IsP p → chkP p = 3) := Lib.hid (fun hp => by unfold chkP; rw [if_neg (by rw [HN.out]; exact h10), if_neg hp])
    have HR0 : Hid (IsP p → chkP p = 0) := Lib.hid (fun hp => by unfold chkP; rw [if_neg (by rw [HN.out]; exact h10), if_pos hp])
    have h10 : n ≤ 10 := by omega
    go_enter Tryd.func89, Tryd.ntmps89
    go_wp2_with fail
    have F1 := (Fr.start w).new 141 #[.bool false, .bool false, .bool false, .bool false, .bool false, .bool false, .bool false, .bool false, .bool false, .bool false] (snL p 0) rfl 10 rfl (by omega)
    go_loopw [11] (fun i wr => ∃ k : Nat, k ≤ n ∧ i = .int .i64 k ∧ Hid (PreP p k) ∧ Fr w wr [⟨141, .slice (some ⟨w.heap.size, 0, none⟩) 10 10, snL p k⟩]) (fun i _ => n - (intOf i).toNat)
    case atStart => exact ⟨0, by omega, rfl, Lib.hid ⟨fun i hi => by omega, fun i j hi => by omega⟩, F1⟩
    case round =>
      obtain ⟨k, hk, rfl, HK, hfr⟩ := hrel
      clear F1
      by_cases hlt : k < n
      · obtain ⟨b, off, rfl, hb, hc⟩ := (hfr.old HS.out).int k (by rw [HN.out]; exact hlt)
        by_cases hneg : nth p k < 0
        · have HB : Hid (chkP p = 3) := Lib.hid (HR3.out fun hp => by have := hp.bd k (by rw [HN.out]; exact hlt); omega)
          have HF := Lib.hid hfr.below
          obtain ⟨x, hx⟩ : ∃ x : Int, nth p k = x := ⟨_, rfl⟩
          rw [hx] at hc hneg
          clear hx hfr
          have d3 : decide (x < 0) = true := decide_eq_true hneg
          clear hneg
          go_wp2_with fail
          go_ret
          exact ⟨by rw [HB.out]; rfl, HF.out⟩
        obtain ⟨x, hx⟩ : ∃ x : Nat, nth p k = x := ⟨(nth p k).toNat, by omega⟩
        have d3 : decide ((x : Int) < 0) = false := decide_eq_false (by omega)
        by_cases hbig : n ≤ x
        · have HB : Hid (chkP p = 3) := Lib.hid (HR3.out fun hp => by have := hp.bd k (by rw [HN.out]; exact hlt); rw [HN.out] at this; omega)
          have HF := Lib.hid hfr.below
          rw [hx] at hc
          clear hx hfr hneg
          have d4 : decide (n ≤ x) = true := decide_eq_true hbig
          go_wp2_with fail
          go_ret
          exact ⟨by rw [HB.out]; rfl, HF.out⟩
        have d4 : decide (n ≤ x) = false := decide_eq_false hbig
        have hst := snL_step p k x (by rw [HN.out]; exact hlt) hx
        have hxn : x < n := by omega
        obtain ⟨g, e, _, _, hcell, hz⟩ := hfr.open (by rw [snL_len]; omega)
        cases e
        have c1 := hcell x (by rw [snL_len]; omega)
        rw [snL_get p k x (by omega)] at c1
        have z1 := hz x
        have F2 := hfr.set x (.bool true)
        rw [hst] at F2
        have HF := Lib.hid F2
        have HF0 := Lib.hid hfr.below
        have d1 : (0 : Int) ≤ (x : Int) := by omega
        have d2 : (x : Int) < 10 := by omega
        have d5 : x < 10 := by omega
        cases hbb : (p.take k).any (· == (x : Int)) with
        | true =>
          have HB : Hid (chkP p = 3) := Lib.hid (HR3.out fun hp => by
            obtain ⟨i, hi, e⟩ := any_true (by rw [HN.out]; exact hk) hbb
            have := hp.inj i k (by rw [HN.out]; omega) (by rw [HN.out]; exact hlt) (by rw [e, hx])
            omega)
          rw [hbb] at c1
          rw [hx] at hc
          clear hcell hz hx hst hfr F2 hneg hbb
          go_wp2_with fail
          go_ret
          exact ⟨by rw [HB.out]; rfl, HF0.out⟩
        | false =>
          have HK2 : Hid (PreP p (k + 1)) := Lib.hid ⟨fun i hi => by
              rcases Nat.lt_succ_iff_lt_or_eq.1 hi with h | rfl
              · exact HK.out.1 i h
              · rw [hx, HN.out]; exact ⟨by omega, by omega⟩, fun i j hi hj e => by
              have hf := fun i hi => any_false (by rw [HN.out]; exact hk) hbb i hi
              rcases Nat.lt_succ_iff_lt_or_eq.1 hi with h | rfl
              · rcases Nat.lt_succ_iff_lt_or_eq.1 hj with h' | rfl
                · exact HK.out.2 i j h h' e
                · exact absurd (e.trans hx) (hf i h)
              · rcases Nat.lt_succ_iff_lt_or_eq.1 hj with h' | rfl
                · exact absurd (e.symm.trans hx) (hf j h')
                · rfl⟩
          rw [hbb] at c1
          rw [hx] at hc
          clear hcell hz hx hst hfr F2 hneg hbb HF0
          go_wp2_with fail
          go_roundw
          case rel => exact ⟨k + 1, by omega, by go_num, HK2, HF.out⟩
          case measure => simp only [intOf]; omega
      · have HB : Hid (chkP p = 0) := Lib.hid (HR0.out (preP_all (by rw [HN.out, show n = k by omega]; exact HK.out)))
        go_wp2_with fail
        go_ret
        exact ⟨by rw [HB.out]; rfl, hfr.below⟩
end Go.Proofs.YtbolgfiafbhicaaDoor
