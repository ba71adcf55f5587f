/- Contracts of package chain: Check, the trees. -/
import Derived.Test.YtghobphnjfgjeaaChaM
import Derived.RegionTactic
import Derived.Laws.EntriesVeiled
namespace Go.Proofs.Ytghobphnjfgjeaa
open Go.RowKit

/-- a slice of slices that came in reads so -/
structure Mx (w : World) (a : Option Addr) (R : List Rw) : Prop where
  sa : Sa w a (R.map rv)
  row : ∀ p ∈ R, Sa w p.1 (ints p.2.2)
theorem Mx.keep {w w' : World} {a : Option Addr} {R : List Rw} (h : Mx w a R) (b : Below w.heap.size w w') : Mx w' a R := ⟨h.sa.keep b, fun p hp => (h.row p hp).keep b⟩
def rw0 : Rw := (none, 0, [])
def mOf (R : List Rw) : List (List Int) := R.map fun p => p.2.2
theorem mOf_get (R : List Rw) (i : Nat) (h : i < R.length) : (mOf R).getD i [] = (R.getD i rw0).2.2 := by simp [mOf, h]
theorem Mx.at {w : World} {a : Option Addr} {R : List Rw} (h : Mx w a R) (i : Nat) (hi : i < R.length) : ∃ b off A C l, a = some ⟨b, off, none⟩ ∧ b < w.heap.size ∧ l = (mOf R).getD i [] ∧ w.cell? ⟨b, off + i, none⟩ = some (.slice A l.length C) ∧ Sa w A (ints l) := by
  obtain ⟨b, off, e, hb, hc⟩ := h.sa.at i (by simpa using hi)
  refine ⟨b, off, (R.getD i rw0).1, (R.getD i rw0).2.1, _, e, hb, rfl, ?_, ?_⟩
  · rw [hc, mOf_get R i hi]; simp [rv, hi]
  · rw [mOf_get R i hi]
    exact h.row _ (by rw [List.getD_eq_getElem?_getD, List.getElem?_eq_getElem hi]; exact List.getElem_mem _)
def badC (x : Int) : Bool := decide (x < 0) || decide (20 < x)
def chkCr (n : Nat) (M : List (List Int)) : Nat → Int
  | 0 => 0
  | k + 1 => if chkCr n M k ≠ 0 then chkCr n M k else if (M.getD k []).length ≠ n then 3 else if (M.getD k []).any badC = true then 1 else 0
def chkC (M : List (List Int)) : Int := if M.length < 1 ∨ 5 < M.length then 2 else chkCr M.length M M.length
theorem chkCr_stays (n : Nat) (M : List (List Int)) (k : Nat) (h : chkCr n M k ≠ 0) : ∀ d, chkCr n M (k + d) = chkCr n M k
  | 0 => rfl
  | d + 1 => by
    have ih := chkCr_stays n M k h d
    rw [show k + (d + 1) = (k + d) + 1 from rfl, chkCr, ih, if_pos h]
theorem chkCr_end (n : Nat) (M : List (List Int)) (k m : Nat) (hk : k + 1 ≤ m) (e : Int) (h : chkCr n M (k + 1) = e) (h0 : e ≠ 0) : chkCr n M m = e := by
  have := chkCr_stays n M (k + 1) (by rw [h]; exact h0) (m - (k + 1))
  rw [show k + 1 + (m - (k + 1)) = m by omega, h] at this
  exact this
theorem chkCr_front (n : Nat) (M : List (List Int)) (m : Nat) (h : chkCr n M m = 0) : ∀ k, k ≤ m → chkCr n M k = 0 := fun k hk => by
  by_cases e : chkCr n M k = 0
  · exact e
  · have := chkCr_stays n M k e (m - k)
    rw [show k + (m - k) = m by omega, h] at this
    exact this.symm
/-- what Check allows -/
structure COk (M : List (List Int)) (n : Nat) : Prop where
  ln : M.length = n
  n1 : 1 ≤ n
  n5 : n ≤ 5
  row : ∀ i, i < n → (M.getD i []).length = n
  bd : ∀ i k, 0 ≤ mt M i k ∧ mt M i k ≤ 20
theorem chkC_ok {M : List (List Int)} (h : chkC M = 0) : COk M M.length := by
  unfold chkC at h
  by_cases h1 : M.length < 1 ∨ 5 < M.length
  · rw [if_pos h1] at h; cases h
  rw [if_neg h1] at h
  have key : ∀ i, i < M.length → (M.getD i []).length = M.length ∧ (M.getD i []).any badC = false := fun i hi => by
    have h2 := chkCr_front _ M _ h i (by omega)
    have h3 := chkCr_front _ M _ h (i + 1) (by omega)
    rw [chkCr, if_neg (by omega)] at h3
    by_cases h4 : (M.getD i []).length ≠ M.length
    · rw [if_pos h4] at h3; cases h3
    · rw [if_neg h4] at h3
      cases h5 : (M.getD i []).any badC
      · exact ⟨by omega, rfl⟩
      · rw [h5] at h3; cases h3
  refine ⟨rfl, by omega, by omega, fun i hi => (key i hi).1, fun i k => ?_⟩
  unfold mt
  by_cases hi : i < M.length
  · by_cases hk : k < (M.getD i []).length
    · have := List.any_eq_false.1 (key i hi).2 _ (nth_mem _ k hk)
      unfold badC at this
      simp only [Bool.or_eq_true, decide_eq_true_eq, not_or] at this
      omega
    · have : nth (M.getD i []) k = 0 := by unfold nth; rw [List.getD_eq_getElem?_getD, List.getElem?_eq_none (by omega)]; rfl
      omega
  · have e : M.getD i [] = [] := by rw [List.getD_eq_getElem?_getD, List.getElem?_eq_none (by omega)]; rfl
    rw [e]; simp [nth]

set_option maxRecDepth 100000 in
set_option maxHeartbeats 2000000 in
theorem chaChk (R : List Rw) (n : Nat) (a : Option Addr) (ca : Nat) (w : World) (h : Mx w a R) (hn : R.length = n) (hl : ∀ p ∈ R, p.2.2.length ≤ maxLen) :
    Calls Try.prog 35 #[.slice a n ca] w fun e w' => e = .returned (.int .i64 (chkC (mOf R))) ∧ w = w' := by
  have hm : (mOf R).length = n := by simp [mOf, hn]
  have HN := Lib.hid hn; have HS := Lib.hid h
  have HL : Hid (∀ i, i < n → ((mOf R).getD i []).length ≤ maxLen) := Lib.hid (fun i hi => by
    rw [mOf_get R i (by omega)]
    exact hl _ (by rw [List.getD_eq_getElem?_getD, List.getElem?_eq_getElem (by omega)]; exact List.getElem_mem _))
  have e2 : chkC (mOf R) = if n < 1 ∨ 5 < n then 2 else chkCr n (mOf R) n := by unfold chkC; rw [hm]
  clear h hn hl hm
  by_cases hl : n < 1 ∨ 5 < n
  · rw [if_pos hl] at e2
    have E2 := Lib.hid e2
    clear e2
    by_cases h8 : n < 1
    · obtain rfl : n = 0 := by omega
      go_enter Try.func35, Try.ntmps35
      go_wp2_with fail
      go_ret
      exact ⟨by rw [E2.out]; rfl, rfl⟩
    · have d1 : decide ((n : Int) < 1) = false := decide_eq_false (by omega)
      have d2 : decide ((5 : Int) < (n : Int)) = true := decide_eq_true (by omega)
      go_enter Try.func35, Try.ntmps35
      go_wp2_with fail
      go_ret
      exact ⟨by rw [E2.out]; rfl, rfl⟩
  · rw [if_neg hl] at e2
    have E2 := Lib.hid e2
    have n1 : 1 ≤ n := by omega
    have n5 : n ≤ 5 := by omega
    have d1 : decide ((n : Int) < 1) = false := decide_eq_false (by omega)
    have d2 : decide ((5 : Int) < (n : Int)) = false := decide_eq_false (by omega)
    clear e2 hl
    go_enter Try.func35, Try.ntmps35
    go_wp2_with fail
    clear d1 d2
    go_loop [17] (fun i => ∃ k : Nat, k ≤ n ∧ i = .int .i64 k ∧ Hid (chkCr n (mOf R) k = 0)) (fun i => n - (intOf i).toNat)
    case atStart => exact ⟨0, by omega, rfl, Lib.hid rfl⟩
    case round =>
      obtain ⟨k, hk, rfl, HC⟩ := hrel
      by_cases hlt : k < n
      · obtain ⟨b, off, A, C, l, rfl, hb, hlr, hc, hsl⟩ := HS.out.at k (by rw [HN.out]; exact hlt)
        have hst : chkCr n (mOf R) (k + 1) = if l.length ≠ n then 3 else if l.any badC = true then 1 else 0 := by rw [chkCr, if_neg (by have := HC.out; omega), hlr]
        have hlm := HL.out k hlt
        rw [← hlr] at hlm
        unfold maxLen at hlm
        have HSL := Lib.hid hsl; have HST := Lib.hid hst
        have e1 : (0 : Int) ≤ (k : Int) := by omega
        have e2 : (k : Int) < (n : Int) := by omega
        clear hlr hsl hst
        obtain ⟨q, hq⟩ : ∃ q, l.length = q := ⟨_, rfl⟩
        rw [hq] at hc hlm
        have HQ := Lib.hid hq
        clear hq
        by_cases hqn : q = n
        · subst hqn
          have g1 : ((q : Int) != (q : Int)) = false := by simp
          go_wp2_with fail
          clear g1
          go_loop [28] (fun i => ∃ c : Nat, c ≤ q ∧ i = .int .i64 c ∧ Hid (∀ j, j < c → badC (nth l j) = false)) (fun i => q - (intOf i).toNat)
          case atStart => exact ⟨0, by omega, rfl, Lib.hid (fun j hj => by omega)⟩
          case round =>
            obtain ⟨c, hc', rfl, HG⟩ := hrel
            by_cases hlt2 : c < q
            · obtain ⟨b2, o2, rfl, hb2, cx⟩ := HSL.out.int c (by rw [HQ.out]; exact hlt2)
              have hbad : badC (nth l c) = true → chkC (mOf R) = 1 := fun hb => by
                have h1 : chkCr q (mOf R) (k + 1) = 1 := by
                  rw [HST.out, if_neg (by rw [HQ.out]; simp), if_pos (List.any_eq_true.2 ⟨_, nth_mem l c (by rw [HQ.out]; exact hlt2), hb⟩)]
                rw [E2.out]; exact chkCr_end q _ k q (by omega) 1 h1 (by decide)
              have hgood : badC (nth l c) = false → ∀ j, j < c + 1 → badC (nth l j) = false := fun hg j hj => by
                by_cases e : j = c
                · rw [e]; exact hg
                · exact HG.out j (by omega)
              obtain ⟨x, hx⟩ : ∃ x, nth l c = x := ⟨_, rfl⟩
              rw [hx] at cx hbad hgood
              unfold badC at hbad hgood
              have i1 : (0 : Int) ≤ (c : Int) := by omega
              have i2 : (c : Int) < (q : Int) := by omega
              clear hx
              by_cases b1 : x < 0
              · have f1 : decide (x < 0) = true := decide_eq_true b1
                have HB := Lib.hid (hbad (by simp [f1]))
                clear hbad hgood
                go_wp2_with fail
                go_ret
                exact ⟨by rw [HB.out]; rfl, rfl⟩
              have f1 : decide (x < 0) = false := decide_eq_false b1
              by_cases b2 : 20 < x
              · have f2 : decide (20 < x) = true := decide_eq_true b2
                have HB := Lib.hid (hbad (by simp [f2]))
                clear hbad hgood
                go_wp2_with fail
                go_ret
                exact ⟨by rw [HB.out]; rfl, rfl⟩
              have f2 : decide (20 < x) = false := decide_eq_false b2
              have HB := Lib.hid (hgood (by simp [f1, f2]))
              clear hbad hgood
              go_wp2_with fail
              exact ⟨⟨c + 1, by omega, by simp, HB⟩, by simp only [intOf]; omega⟩
            · obtain rfl : c = q := by omega
              have HB : Hid (chkCr c (mOf R) (k + 1) = 0) := Lib.hid (by
                rw [HST.out, if_neg (by rw [HQ.out]; simp), if_neg]
                intro hany
                obtain ⟨y, hy, hb⟩ := List.any_eq_true.1 hany
                obtain ⟨j, hj, rfl⟩ := List.getElem_of_mem hy
                have := HG.out j (by have := HQ.out; omega)
                rw [show nth l j = l[j] by simp [nth, hj], hb] at this
                cases this)
              go_wp2_with fail
              exact ⟨⟨k + 1, by omega, by simp, HB⟩, by simp only [intOf]; omega⟩
        · have g1 : ((q : Int) != (n : Int)) = true := by rw [bne_iff_ne]; omega
          have h1 : chkCr n (mOf R) (k + 1) = 3 := by rw [HST.out, if_pos (by rw [HQ.out]; exact hqn)]
          have HB : Hid (chkC (mOf R) = 3) := Lib.hid (by rw [E2.out]; exact chkCr_end n _ k n (by omega) 3 h1 (by decide))
          clear h1
          go_wp2_with fail
          go_ret
          exact ⟨by rw [HB.out]; rfl, rfl⟩
      · obtain rfl : k = n := by omega
        go_wp2_with fail
        go_ret
        exact ⟨by rw [E2.out, HC.out]; rfl, rfl⟩
end Go.Proofs.Ytghobphnjfgjeaa
