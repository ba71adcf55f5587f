/- Several of my texts in one: DPerm1. -/
import Derived.Test.YtooghdnlaonkaaaPw18
import Derived.Test.YtooghdnlaonkaaaPw22
import Derived.Test.YtooghdnlaonkaaaPw23
/- The checks of perm, parts, blocks, shuffle at any input. -/
namespace Go.Proofs.Ytooghdnlaonkaaa
open Go.RowKit

def PreP (p : List Int) (k : Nat) : Prop := (∀ i, i < k → 0 ≤ nth p i ∧ nth p i < p.length) ∧ ∀ i j, i < k → j < k → nth p i = nth p j → i = j
theorem preP_all {p : List Int} (h : PreP p p.length) : IsP p := ⟨h.1, h.2⟩
theorem any_true {p : List Int} {k : Nat} {x : Int} (hk : k ≤ p.length) (h : (p.take k).any (· == x) = true) : ∃ i, i < k ∧ nth p i = x := by
  rw [List.any_eq_true] at h
  obtain ⟨y, hy, e⟩ := h
  obtain ⟨i, hi, e2⟩ := List.getElem_of_mem hy
  rw [List.length_take] at hi
  rw [List.getElem_take] at e2
  refine ⟨i, by omega, ?_⟩
  simp at e
  rw [← e, ← e2]
  simp [nth, show i < p.length by omega]
theorem any_false {p : List Int} {k : Nat} {x : Int} (hk : k ≤ p.length) (h : (p.take k).any (· == x) = false) (i : Nat) (hi : i < k) : nth p i ≠ x := by
  intro e
  rw [← Bool.not_eq_true, List.any_eq_true] at h
  refine h ⟨nth p i, ?_, by simpa using e⟩
  have : nth p i = (p.take k)[i]'(by rw [List.length_take]; omega) := by simp [nth, show i < p.length by omega]
  rw [this]
  exact List.getElem_mem _
open Classical in
noncomputable def chkP (p : List Int) : Int := if 10 < p.length then 2 else if IsP p then 0 else 3
theorem chkP_ok {p : List Int} (h : chkP p = 0) : p.length ≤ 10 ∧ IsP p := by
  unfold chkP at h
  by_cases h1 : 10 < p.length
  · rw [if_pos h1] at h; cases h
  · rw [if_neg h1] at h
    by_cases h2 : IsP p
    · exact ⟨by omega, h2⟩
    · rw [if_neg h2] at h; cases h
set_option maxRecDepth 100000 in
set_option maxHeartbeats 4000000 in
theorem permChkA (p : List Int) (n : Nat) (a : Option Addr) (cap : Nat) (w : World) (h : Sa w a (ints p)) (hn : p.length = n) (hm : n ≤ maxLen) :
    Calls Try.prog 75 #[.slice a n cap] w fun e w' => e = .returned (.int .i64 (chkP p)) ∧ Fr w w' [] := by
  have HN := Lib.hid hn; have HS := Lib.hid h
  unfold maxLen at hm
  clear hn h
  by_cases h10 : 10 < n
  · have HR : Hid (chkP p = 2) := Lib.hid (by unfold chkP; rw [if_pos (by rw [HN.out]; exact h10)])
    have g : decide ((10 : Int) < (n : Int)) = true := decide_eq_true (by omega)
    have HF := Lib.hid (Fr.start w)
    go_enter Try.func75, Try.ntmps75
    go_wp2_with fail
    go_ret
    exact ⟨by rw [HR.out]; rfl, HF.out⟩
  · have HR3 : Hid (¬ IsP p → chkP p = 3) := Lib.hid (fun hp => by unfold chkP; rw [if_neg (by rw [HN.out]; exact h10), if_neg hp])
    have HR0 : Hid (IsP p → chkP p = 0) := Lib.hid (fun hp => by unfold chkP; rw [if_neg (by rw [HN.out]; exact h10), if_pos hp])
    have h10 : n ≤ 10 := by omega
    go_enter Try.func75, Try.ntmps75
    go_wp2_with fail
    have F1 := (Fr.start w).new 138 #[.bool false, .bool false, .bool false, .bool false, .bool false, .bool false, .bool false, .bool false, .bool false, .bool false] (snL p 0) rfl 10 rfl (by omega)
    go_loopw [11] (fun i wr => ∃ k : Nat, k ≤ n ∧ i = .int .i64 k ∧ Hid (PreP p k) ∧ Fr w wr [⟨138, .slice (some ⟨w.heap.size, 0, none⟩) 10 10, snL p k⟩]) (fun i _ => n - (intOf i).toNat)
    case atStart => exact ⟨0, by omega, rfl, Lib.hid ⟨fun i hi => by omega, fun i j hi => by omega⟩, F1⟩
    case round =>
      obtain ⟨k, hk, rfl, HK, hfr⟩ := hrel
      clear F1
      by_cases hlt : k < n
      · obtain ⟨b, off, rfl, hb, hc⟩ := (hfr.old HS.out).int k (by rw [HN.out]; exact hlt)
        by_cases hneg : nth p k < 0
        · have HB : Hid (chkP p = 3) := Lib.hid (HR3.out fun hp => by have := hp.bd k (by rw [HN.out]; exact hlt); omega)
          have HF := Lib.hid hfr.below
          obtain ⟨x, hx⟩ : ∃ x : Int, nth p k = x := ⟨_, rfl⟩
          rw [hx] at hc hneg
          clear hx hfr
          have d3 : decide (x < 0) = true := decide_eq_true hneg
          clear hneg
          go_wp2_with fail
          go_ret
          exact ⟨by rw [HB.out]; rfl, HF.out⟩
        obtain ⟨x, hx⟩ : ∃ x : Nat, nth p k = x := ⟨(nth p k).toNat, by omega⟩
        have d3 : decide ((x : Int) < 0) = false := decide_eq_false (by omega)
        by_cases hbig : n ≤ x
        · have HB : Hid (chkP p = 3) := Lib.hid (HR3.out fun hp => by have := hp.bd k (by rw [HN.out]; exact hlt); rw [HN.out] at this; omega)
          have HF := Lib.hid hfr.below
          rw [hx] at hc
          clear hx hfr hneg
          have d4 : decide (n ≤ x) = true := decide_eq_true hbig
          go_wp2_with fail
          go_ret
          exact ⟨by rw [HB.out]; rfl, HF.out⟩
        have d4 : decide (n ≤ x) = false := decide_eq_false hbig
        have hst := snL_step p k x (by rw [HN.out]; exact hlt) hx
        have hxn : x < n := by omega
        obtain ⟨g, e, _, _, hcell, hz⟩ := hfr.open (by rw [snL_len]; omega)
        cases e
        have c1 := hcell x (by rw [snL_len]; omega)
        rw [snL_get p k x (by omega)] at c1
        have z1 := hz x
        have F2 := hfr.set x (.bool true)
        rw [hst] at F2
        have HF := Lib.hid F2
        have HF0 := Lib.hid hfr.below
        have d1 : (0 : Int) ≤ (x : Int) := by omega
        have d2 : (x : Int) < 10 := by omega
        have d5 : x < 10 := by omega
        cases hbb : (p.take k).any (· == (x : Int)) with
        | true =>
          have HB : Hid (chkP p = 3) := Lib.hid (HR3.out fun hp => by
            obtain ⟨i, hi, e⟩ := any_true (by rw [HN.out]; exact hk) hbb
            have := hp.inj i k (by rw [HN.out]; omega) (by rw [HN.out]; exact hlt) (by rw [e, hx])
            omega)
          rw [hbb] at c1
          rw [hx] at hc
          clear hcell hz hx hst hfr F2 hneg hbb
          go_wp2_with fail
          go_ret
          exact ⟨by rw [HB.out]; rfl, HF0.out⟩
        | false =>
          have HK2 : Hid (PreP p (k + 1)) := Lib.hid ⟨fun i hi => by
              rcases Nat.lt_succ_iff_lt_or_eq.1 hi with h | rfl
              · exact HK.out.1 i h
              · rw [hx, HN.out]; exact ⟨by omega, by omega⟩, fun i j hi hj e => by
              have hf := fun i hi => any_false (by rw [HN.out]; exact hk) hbb i hi
              rcases Nat.lt_succ_iff_lt_or_eq.1 hi with h | rfl
              · rcases Nat.lt_succ_iff_lt_or_eq.1 hj with h' | rfl
                · exact HK.out.2 i j h h' e
                · exact absurd (e.trans hx) (hf i h)
              · rcases Nat.lt_succ_iff_lt_or_eq.1 hj with h' | rfl
                · exact absurd (e.symm.trans hx) (hf j h')
                · rfl⟩
          rw [hbb] at c1
          rw [hx] at hc
          clear hcell hz hx hst hfr F2 hneg hbb HF0
          go_wp2_with fail
          go_roundw
          case rel => exact ⟨k + 1, by omega, by go_num, HK2, HF.out⟩
          case measure => simp only [intOf]; omega
      · have HB : Hid (chkP p = 0) := Lib.hid (HR0.out (preP_all (by rw [HN.out, show n = k by omega]; exact HK.out)))
        go_wp2_with fail
        go_ret
        exact ⟨by rw [HB.out]; rfl, hfr.below⟩
/-- what a check says -/
def ChkA (Q : Prop) (w : World) (e : Ending) (w' : World) : Prop := ∃ er : Int, e = .returned (.int .i64 er) ∧ (er = 0 → Q) ∧ w = w'
set_option maxRecDepth 100000 in
set_option maxHeartbeats 4000000 in
theorem shChkA (l : List Int) (n : Nat) (a : Option Addr) (cap : Nat) (w : World) (h : Sa w a (ints l)) (hn : l.length = n) (hm : n ≤ maxLen) :
    Calls Try.prog 101 #[.slice a n cap] w (ChkA (LotOk l ∧ n ≤ 10) w) := by
  have HN := Lib.hid hn; have HS := Lib.hid h
  unfold maxLen at hm
  clear hn h
  by_cases h10 : 10 < n
  · have g : decide ((10 : Int) < (n : Int)) = true := decide_eq_true (by omega)
    go_enter Try.func101, Try.ntmps101
    go_wp2_with fail
    go_ret
    exact ⟨2, rfl, fun h => by omega, rfl⟩
  · have h10 : n ≤ 10 := by omega
    go_enter Try.func101, Try.ntmps101
    go_wp2_with fail
    go_loop [10] (fun i => ∃ k : Nat, k ≤ n ∧ i = .int .i64 k ∧ Hid (∀ i, i < k → 0 ≤ nth l i ∧ nth l i ≤ i)) (fun i => n - (intOf i).toNat)
    case atStart => exact ⟨0, by omega, rfl, Lib.hid fun i hi => by omega⟩
    case round =>
      obtain ⟨k, hk, rfl, HK⟩ := hrel
      by_cases hlt : k < n
      · obtain ⟨b, off, rfl, hb, hc⟩ := HS.out.int k (by rw [HN.out]; exact hlt)
        by_cases hneg : nth l k < 0
        · obtain ⟨x, hx⟩ : ∃ x, nth l k = x := ⟨_, rfl⟩
          rw [hx] at hc hneg
          have d1 : decide (x < 0) = true := decide_eq_true hneg
          clear hx hneg
          go_wp2_with fail
          go_ret
          exact ⟨1, rfl, fun h => by omega, rfl⟩
        by_cases hbig : (k : Int) < nth l k
        · obtain ⟨x, hx⟩ : ∃ x, nth l k = x := ⟨_, rfl⟩
          rw [hx] at hc hneg hbig
          have d1 : decide (x < 0) = false := decide_eq_false hneg
          have d2 : decide ((k : Int) < x) = true := decide_eq_true hbig
          clear hx hneg hbig
          go_wp2_with fail
          go_ret
          exact ⟨1, rfl, fun h => by omega, rfl⟩
        have HK2 : Hid (∀ i, i < k + 1 → 0 ≤ nth l i ∧ nth l i ≤ i) := Lib.hid fun i hi => by
          rcases Nat.lt_succ_iff_lt_or_eq.1 hi with h | rfl
          · exact HK.out i h
          · exact ⟨by omega, by omega⟩
        obtain ⟨x, hx⟩ : ∃ x, nth l k = x := ⟨_, rfl⟩
        rw [hx] at hc hneg hbig
        have d1 : decide (x < 0) = false := decide_eq_false hneg
        have d2 : decide ((k : Int) < x) = false := decide_eq_false hbig
        clear hx hneg hbig
        go_wp2_with fail
        exact ⟨⟨k + 1, by omega, by simp, HK2⟩, by simp only [intOf]; omega⟩
      · have HB : Hid (LotOk l) := Lib.hid fun i hi => HK.out i (by rw [HN.out] at hi; omega)
        go_wp2_with fail
        go_ret
        exact ⟨0, rfl, fun _ => HB.out, rfl⟩
set_option maxRecDepth 100000 in
set_option maxHeartbeats 4000000 in
theorem partChkA (l : List Int) (n : Nat) (a : Option Addr) (cap : Nat) (w : World) (h : Sa w a (ints l)) (hn : l.length = n) (hm : n ≤ maxLen) :
    Calls Try.prog 110 #[.slice a n cap] w (ChkA (PartOk l) w) := by
  have HN := Lib.hid hn; have HS := Lib.hid h
  unfold maxLen at hm
  clear hn h
  go_enter Try.func110, Try.ntmps110
  go_wp2_with fail
  go_loop [3, 8] (fun s i => ∃ (k : Nat) (S : Int), k ≤ n ∧ (k : Int) ≤ S ∧ S ≤ 40 ∧ i = .int .i64 k ∧ s = .int .i64 S ∧ Hid (sumI (l.take k) = S) ∧ Hid (∀ i, i < k → 1 ≤ nth l i ∧ nth l i ≤ 40 ∧ (0 < i → nth l i ≤ nth l (i - 1)) ∧ sumI (l.take i) + nth l i ≤ 40 ∧ (i : Int) ≤ sumI (l.take i))) (fun _ i => n - (intOf i).toNat)
  case atStart => exact ⟨0, 0, by omega, by omega, by omega, rfl, rfl, Lib.hid rfl, Lib.hid fun i hi => by omega⟩
  case round =>
    obtain ⟨k, S, hk, hkS, hS40, rfl, rfl, HSm, HK⟩ := hrel
    by_cases hlt : k < n
    · obtain ⟨b, off, rfl, hb, hc⟩ := HS.out.int k (by rw [HN.out]; exact hlt)
      have hs := Lib.hid (show sumI (l.take (k + 1)) = S + nth l k from by rw [take_nth l k (by rw [HN.out]; exact hlt), sumI_snoc, HSm.out])
      have hprev : 0 < k → ∃ y, w.cell? ⟨b, off + (k - 1), none⟩ = some (.int .i64 y) ∧ nth l (k - 1) = y := by
        intro h0
        obtain ⟨b', off', e, _, hc'⟩ := HS.out.int (k - 1) (by rw [HN.out]; omega)
        cases e
        exact ⟨_, hc', rfl⟩
      obtain ⟨x, hx⟩ : ∃ x, nth l k = x := ⟨_, rfl⟩
      rw [hx] at hc
      have HX := Lib.hid hx
      clear hx
      by_cases h1 : x < 1
      · have d1 : decide (x < 1) = true := decide_eq_true h1
        clear hprev
        go_wp2_with fail
        go_ret
        exact ⟨1, rfl, fun h => by omega, rfl⟩
      have d1 : decide (x < 1) = false := decide_eq_false h1
      by_cases h2 : 40 < x
      · have d2 : decide (40 < x) = true := decide_eq_true h2
        clear hprev
        go_wp2_with fail
        go_ret
        exact ⟨1, rfl, fun h => by omega, rfl⟩
      have d2 : decide (40 < x) = false := decide_eq_false h2
      rcases Nat.eq_zero_or_pos k with h0 | h0
      · subst h0
        rw [Nat.add_zero] at hc
        clear hprev
        by_cases h3 : 40 < S + x
        · have d3 : decide (40 < S + x) = true := decide_eq_true h3
          go_wp2_with fail
          go_ret
          exact ⟨2, rfl, fun h => by omega, rfl⟩
        have d3 : decide (40 < S + x) = false := decide_eq_false h3
        have HK2 : Hid (∀ i, i < 1 → 1 ≤ nth l i ∧ nth l i ≤ 40 ∧ (0 < i → nth l i ≤ nth l (i - 1)) ∧ sumI (l.take i) + nth l i ≤ 40 ∧ (i : Int) ≤ sumI (l.take i)) := Lib.hid fun i hi => by
          obtain rfl : i = 0 := by omega
          rw [HX.out, HSm.out]
          exact ⟨by omega, by omega, fun h => by omega, by omega, by omega⟩
        have b1 : (1 : Int) ≤ S + x := by omega
        have b2 : S + x ≤ 40 := by omega
        clear h1 h2 h3
        go_wp2_with fail
        exact ⟨⟨1, S + x, by omega, b1, b2, rfl, rfl, Lib.hid (by rw [hs.out, HX.out]), HK2⟩, by simp only [intOf]; omega⟩
      · obtain ⟨y, hc', hy⟩ := hprev h0
        clear hprev
        by_cases h4 : y < x
        · have d4 : decide (y < x) = true := decide_eq_true h4
          clear h1 h2 hy
          go_wp2_with fail
          go_ret
          exact ⟨3, rfl, fun h => by omega, rfl⟩
        have d4 : decide (y < x) = false := decide_eq_false h4
        by_cases h3 : 40 < S + x
        · have d3 : decide (40 < S + x) = true := decide_eq_true h3
          clear hy
          go_wp2_with fail
          go_ret
          exact ⟨2, rfl, fun h => by omega, rfl⟩
        have d3 : decide (40 < S + x) = false := decide_eq_false h3
        have HK2 : Hid (∀ i, i < k + 1 → 1 ≤ nth l i ∧ nth l i ≤ 40 ∧ (0 < i → nth l i ≤ nth l (i - 1)) ∧ sumI (l.take i) + nth l i ≤ 40 ∧ (i : Int) ≤ sumI (l.take i)) := Lib.hid fun i hi => by
          rcases Nat.lt_succ_iff_lt_or_eq.1 hi with h | rfl
          · exact HK.out i h
          · rw [HX.out, HSm.out, hy]
            exact ⟨by omega, by omega, fun _ => by omega, by omega, by omega⟩
        have b1 : ((k + 1 : Nat) : Int) ≤ S + x := by omega
        have b2 : S + x ≤ 40 := by omega
        clear hy h1 h2 h3 h4
        go_wp2_with fail
        exact ⟨⟨k + 1, S + x, by omega, b1, b2, rfl, rfl, Lib.hid (by rw [hs.out, HX.out]), HK2⟩, by simp only [intOf]; omega⟩
    · have HB : Hid (PartOk l) := Lib.hid fun i hi => HK.out i (by rw [HN.out] at hi; omega)
      go_wp2_with fail
      go_ret
      exact ⟨0, rfl, fun _ => HB.out, rfl⟩
set_option maxRecDepth 100000 in
set_option maxHeartbeats 4000000 in
theorem blkChkA (l : List Int) (n : Nat) (a : Option Addr) (cap : Nat) (w : World) (h : Sa w a (ints l)) (hn : l.length = n) (hm : n ≤ maxLen) :
    Calls Try.prog 108 #[.slice a n cap] w (ChkA (GrowsOk l ∧ n ≤ 10) w) := by
  have HN := Lib.hid hn; have HS := Lib.hid h
  unfold maxLen at hm
  clear hn h
  by_cases h10 : 10 < n
  · have g : decide ((10 : Int) < (n : Int)) = true := decide_eq_true (by omega)
    go_enter Try.func108, Try.ntmps108
    go_wp2_with fail
    go_ret
    exact ⟨2, rfl, fun h => by omega, rfl⟩
  · have h10 : n ≤ 10 := by omega
    go_enter Try.func108, Try.ntmps108
    go_wp2_with fail
    go_loop [3, 11] (fun m i => ∃ (k : Nat) (M : Int), k ≤ n ∧ -1 ≤ M ∧ M ≤ 1000 ∧ M < k ∧ m = .int .i64 M ∧ i = .int .i64 k ∧ Hid (mst (l.take k) = M) ∧ Hid (∀ i, i < k → 0 ≤ l.getD i 0 ∧ l.getD i 0 ≤ mst (l.take i) + 1 ∧ -1 ≤ mst (l.take i) ∧ mst (l.take i) ≤ 1000)) (fun _ i => n - (intOf i).toNat)
    case atStart => exact ⟨0, -1, by omega, by omega, by omega, by omega, rfl, rfl, Lib.hid rfl, Lib.hid fun i hi => by omega⟩
    case round =>
      obtain ⟨k, M, hk, m1, m2, m3, rfl, rfl, HM, HK⟩ := hrel
      by_cases hlt : k < n
      · obtain ⟨b, off, rfl, hb, hc⟩ := HS.out.int k (by rw [HN.out]; exact hlt)
        have hg : nth l k = l.getD k 0 := rfl
        have hsnoc := Lib.hid (show mst (l.take (k + 1)) = if M < nth l k then nth l k else M from by rw [take_snocI l k (by rw [HN.out]; exact hlt), mst_snoc, HM.out, hg])
        obtain ⟨x, hx⟩ : ∃ x, nth l k = x := ⟨_, rfl⟩
        rw [hx] at hc hsnoc hg
        clear hx
        by_cases h1 : x < 0
        · have d1 : decide (x < 0) = true := decide_eq_true h1
          clear hg
          go_wp2_with fail
          go_ret
          exact ⟨3, rfl, fun h => by omega, rfl⟩
        have d1 : decide (x < 0) = false := decide_eq_false h1
        by_cases h2 : M + 1 < x
        · have d2 : decide (M + 1 < x) = true := decide_eq_true h2
          clear hg
          go_wp2_with fail
          go_ret
          exact ⟨3, rfl, fun h => by omega, rfl⟩
        have d2 : decide (M + 1 < x) = false := decide_eq_false h2
        have HK2 : Hid (∀ i, i < k + 1 → 0 ≤ l.getD i 0 ∧ l.getD i 0 ≤ mst (l.take i) + 1 ∧ -1 ≤ mst (l.take i) ∧ mst (l.take i) ≤ 1000) := Lib.hid fun i hi => by
          rcases Nat.lt_succ_iff_lt_or_eq.1 hi with h | rfl
          · exact HK.out i h
          · rw [← hg, HM.out]
            exact ⟨by omega, by omega, by omega, by omega⟩
        have b1 : -1 ≤ (if M < x then x else M) ∧ (if M < x then x else M) ≤ 1000 ∧ (if M < x then x else M) < ((k + 1 : Nat) : Int) := by
          by_cases h : M < x
          · rw [if_pos h]; exact ⟨by omega, by omega, by omega⟩
          · rw [if_neg h]; exact ⟨by omega, by omega, by omega⟩
        have B1 := Lib.hid b1
        clear hg b1 h1 h2
        go_wp2_with fail
        exact ⟨⟨k + 1, _, by omega, B1.out.1, B1.out.2.1, B1.out.2.2, rfl, by simp, hsnoc, HK2⟩, by simp [intOf]; omega⟩
      · have HB : Hid (GrowsOk l) := Lib.hid fun i hi => HK.out i (by rw [HN.out] at hi; omega)
        go_wp2_with fail
        go_ret
        exact ⟨0, rfl, fun _ => HB.out, rfl⟩
end Go.Proofs.Ytooghdnlaonkaaa
