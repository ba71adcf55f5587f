/- Pools: plain laws; contracts of package pool. -/
import Derived.Test.YtgblmbhbbjgdiaaSrt
import Derived.Test.YtgblmbhbbjgdiaaSlEq2
import Derived.Test.YtgblmbhbbjgdiaaGood
namespace Go.Proofs.Ytgblmbhbbjgdiaa
open Go.RowKit

def lotsL (l : List Int) (t : Nat) : List Int := (List.range (min t l.length)).map fun i : Nat => nth l i % ((i : Int) + 1)
theorem lotsL_len (l : List Int) (t : Nat) : (lotsL l t).length = min t l.length := by simp [lotsL]
theorem lotsL_nth (l : List Int) (t i : Nat) (h : i < min t l.length) : nth (lotsL l t) i = nth l i % ((i : Int) + 1) := by
  unfold nth lotsL
  rw [List.getD_eq_getElem?_getD, List.getElem?_map, List.getElem?_range h]; rfl
theorem lotsL_ok (l : List Int) (t : Nat) : ∀ i, i < (lotsL l t).length → 0 ≤ nth (lotsL l t) i ∧ nth (lotsL l t) i ≤ i := fun i hi => by
  rw [lotsL_len] at hi
  rw [lotsL_nth _ _ _ hi]
  have := Int.emod_nonneg (nth l i) (b := (i : Int) + 1) (by omega)
  have := Int.emod_lt_of_pos (nth l i) (b := (i : Int) + 1) (by omega)
  omega
theorem lotsL_take (l : List Int) (t k : Nat) (h : k < min t l.length) : (lotsL l t).take k ++ [nth l k % ((k : Int) + 1)] = (lotsL l t).take (k + 1) := by
  rw [take_nth _ k (by rw [lotsL_len]; exact h), lotsL_nth _ _ _ h]


def MadeP (l : List Int) (w : World) (e : Ending) (w' : World) : Prop :=
  ∃ (ad : Option Addr) (n cp : Nat), e = .returned (.slice ad n cp) ∧ l.length = n ∧ n ≤ cp ∧ Fr w w' [⟨3, .slice ad n cp, ints l⟩]
set_option maxRecDepth 100000 in
set_option maxHeartbeats 2000000 in
theorem lotsOf_any (l : List Int) (n : Nat) (a : Option Addr) (cap : Nat) (t : Nat) (w : World) (h : Sa w a (ints l)) (hn : l.length = n) (hc : n ≤ cap) (hm : n ≤ maxLen) (ht : t ≤ 1000) :
    Calls Try.prog 38 #[.slice a n cap, .int .i64 t] w (MadeP (lotsL l t) w) := by
  unfold maxLen at hm
  obtain ⟨m, m1, m2, m3⟩ : ∃ m : Nat, m ≤ n ∧ (m : Int) ≤ (t : Int) ∧ (m = n ∨ (m : Int) = (t : Int)) := ⟨min n t, by omega, by omega, by omega⟩
  have HMIN := Lib.hid (run_min2 #[3, 3] 3 n t m m1 m2 m3)
  have HN := Lib.hid hn; have HS := Lib.hid h
  have HM : Hid (min t l.length = m) := Lib.hid (by omega)
  have mt : m ≤ 1000 := by omega
  clear hn h m3
  have b1 : (m : Int) ≤ (cap : Int) := by omega
  go_enter Try.func38, Try.ntmps38
  have hmin := HMIN.out
  go_wp2_with fail
  clear hmin
  go_loopw [5, 15] (fun o i wr => ∃ (k : Nat) (ad : Option Addr) (cp : Nat), k ≤ m ∧ i = .int .i64 k ∧ o = .slice ad k cp ∧ Fr w wr [⟨3, .slice ad k cp, ints ((lotsL l t).take k)⟩]) (fun _ i _ => m - (intOf i).toNat)
  case atStart => exact ⟨0, none, 0, by omega, rfl, rfl, (Fr.start w).nilSlice _⟩
  case round =>
    obtain ⟨k, ad, cp, hk, rfl, rfl, hfr⟩ := hrel
    by_cases hlt : k < m
    · obtain ⟨b, off, rfl, hb, hc⟩ := (hfr.old HS.out).int k (by rw [HN.out]; omega)
      have hs := Lib.hid (lotsL_take l t k (by rw [HM.out]; exact hlt))
      obtain ⟨x, hx⟩ : ∃ x, nth l k = x := ⟨_, rfl⟩
      rw [hx] at hc
      have HX := Lib.hid hx
      have HF := Lib.hid hfr
      clear hx hfr
      have d1 : (0 : Int) ≤ (k : Int) := by omega
      have d2 : (k : Int) < (m : Int) := by omega
      have e1 := Int.emod_nonneg x (b := (k : Int) + 1) (by omega)
      have e2 := Int.emod_lt_of_pos x (b := (k : Int) + 1) (by omega)
      go_wp2_with (first
        | (go_at_call 14; refine (within_any _ _ _ (by omega) (by omega)).mono ?_; rintro e w' ⟨rfl, rfl⟩)
        | (with_reducible refine at_slot 26 ?_; go_must (refine wpList_pushInt rfl _ _ rfl ad k cp _ (x % ((k : Int) + 1)) _ rfl HF.out rfl ?_ ?_); rotate_left; intro ad' cp' w2 hf2 hlt2))
      · rw [show (lotsL l t).take k ++ [x % ((k : Int) + 1)] = (lotsL l t).take (k + 1) from by rw [← HX.out]; exact hs.out] at hf2
        exact ⟨⟨k + 1, ad', cp', by omega, by simp, rfl, hf2⟩, by simp only [intOf]; omega⟩
      · omega
    · obtain rfl : k = m := by omega
      have hl : (lotsL l t).length = k := by rw [lotsL_len, HM.out]
      rw [List.take_of_length_le (by omega)] at hfr
      go_wp2_with fail
      go_ret
      exact ⟨ad, k, cp, rfl, hl, hfr.cap, hfr⟩


/-- who is in the pool behind i things -/
def runK (k : Nat) (l : List Int) : Nat → List Int
  | 0 => []
  | i + 1 => if i < k then runK k l i ++ [(i : Int)] else if nth l i < (k : Int) then (runK k l i).set (nth l i).toNat (i : Int) else runK k l i
theorem runK_len (k : Nat) (l : List Int) : ∀ i, (runK k l i).length = min i k
  | 0 => by simp [runK]
  | i + 1 => by
    have ih := runK_len k l i
    rw [runK]; split
    · rw [List.length_append, List.length_singleton, ih]; omega
    · split
      · rw [List.length_set, ih]; omega
      · rw [ih]; omega
theorem runK_bd (k : Nat) (l : List Int) : ∀ i, ∀ x ∈ runK k l i, 0 ≤ x ∧ x < (i : Int)
  | 0, x, h => by simp [runK] at h
  | i + 1, x, h => by
    have ih := runK_bd k l i
    rw [runK] at h
    split at h
    · rcases List.mem_append.1 h with h | h
      · have := ih x h; omega
      · rw [List.mem_singleton] at h; omega
    · split at h
      · rcases List.mem_or_eq_of_mem_set h with h | h
        · have := ih x h; omega
        · omega
      · have := ih x h; omega
/-- nothing is there twice -/
def Nd (l : List Int) : Prop := ∀ i j, i < l.length → j < l.length → nth l i = nth l j → i = j
theorem runK_nd (k : Nat) (l : List Int) (hl : ∀ i, i < l.length → 0 ≤ nth l i) : ∀ i, i ≤ l.length → Nd (runK k l i)
  | 0, _ => fun a b ha => by simp [runK] at ha
  | i + 1, hi => by
    have ih := runK_nd k l hl i (by omega)
    have hb := fun j hj => runK_bd k l i _ (nth_mem (runK k l i) j hj)
    have hln := runK_len k l i
    rw [runK]; split
    · intro a b ha hb' e
      rw [List.length_append, List.length_singleton] at ha hb'
      rw [nth_snoc, nth_snoc] at e
      by_cases ea : a = (runK k l i).length <;> by_cases eb : b = (runK k l i).length
      · omega
      · rw [if_pos ea, if_neg eb] at e; have := hb b (by omega); omega
      · rw [if_neg ea, if_pos eb] at e; have := hb a (by omega); omega
      · rw [if_neg ea, if_neg eb] at e; exact ih a b (by omega) (by omega) e
    · split
      · have hx := hl i (by omega)
        rename_i hik hlt
        intro a b ha hb' e
        rw [List.length_set] at ha hb'
        have hin : (nth l i).toNat < (runK k l i).length := by omega
        rw [nth_set _ _ _ _ hin, nth_set _ _ _ _ hin] at e
        by_cases ea : a = (nth l i).toNat <;> by_cases eb : b = (nth l i).toNat
        · omega
        · rw [if_pos ea, if_neg eb] at e; have := hb b hb'; omega
        · rw [if_neg ea, if_pos eb] at e; have := hb a ha; omega
        · rw [if_neg ea, if_neg eb] at e; exact ih a b ha hb' e
      · exact ih
theorem nd_iff (l : List Int) : Nd l ↔ l.Nodup := by
  unfold Nd List.Nodup
  rw [List.pairwise_iff_getElem]
  constructor
  · intro h i j hi hj hij e
    have := h i j hi hj (by simpa [nth, hi, hj] using e)
    omega
  · intro h i j hi hj e
    have e' : l[i] = l[j] := by simpa [nth, hi, hj] using e
    rcases Nat.lt_trichotomy i j with h1 | h1 | h1
    · exact absurd e' (h i j hi hj h1)
    · exact h1
    · exact absurd e'.symm (h j i hj hi h1)
theorem nd_perm {l m : List Int} (p : l.Perm m) (h : Nd l) : Nd m := (nd_iff m).2 (p.nodup ((nd_iff l).1 h))

def LotsOk (l : List Int) : Prop := ∀ i, i < l.length → 0 ≤ nth l i ∧ nth l i ≤ i
set_option maxRecDepth 100000 in
set_option maxHeartbeats 1000000 in
theorem poolChk (l : List Int) (n k : Nat) (a : Option Addr) (ca : Nat) (w : World) (h : Sa w a (ints l)) (hn : l.length = n) (hl : LotsOk l) (h30 : n ≤ 30) (k1 : 1 ≤ k) (k12 : k ≤ 12) :
    Calls Try.prog 56 #[.int .i64 k, .slice a n ca] w fun e w' => e = .returned (.int .i64 0) ∧ w = w' := by
  have HN := Lib.hid hn; have HS := Lib.hid h; have HL := Lib.hid hl
  clear h hn hl
  have d1 : decide ((k : Int) < 1) = false := decide_eq_false (by omega)
  have d2 : decide ((12 : Int) < (k : Int)) = false := decide_eq_false (by omega)
  have d3 : decide ((30 : Int) < (n : Int)) = false := decide_eq_false (by omega)
  go_enter Try.func56, Try.ntmps56
  go_wp2_with fail
  go_loop [18] (fun i => ∃ j : Nat, i = .int .i64 j ∧ j ≤ n) (fun i => n - (intOf i).toNat)
  case atStart => exact ⟨0, rfl, by omega⟩
  case round =>
    obtain ⟨j, rfl, hj⟩ := hrel
    by_cases hlt : j < n
    · obtain ⟨b', off, rfl, hb, hc⟩ := HS.out.int j (by rw [HN.out]; exact hlt)
      have hbd := HL.out j (by rw [HN.out]; exact hlt)
      obtain ⟨x, hx⟩ : ∃ x, nth l j = x := ⟨_, rfl⟩
      rw [hx] at hc hbd
      have e1 : decide (x < 0) = false := decide_eq_false (by omega)
      have e2 : decide ((j : Int) < x) = false := decide_eq_false (by omega)
      clear hx
      go_wp2_with fail
      go_round
      case rel => exact ⟨j + 1, by go_num, by omega⟩
      case measure => simp only [intOf]; omega
    · go_wp2_with fail
      go_ret
      exact ⟨rfl, rfl⟩

def OneSl (l : List Int) (n : Nat) (err : Int) (w : World) (e : Ending) (w' : World) : Prop :=
  ∃ ad cp, e = .returned (.tuple #[.slice ad n cp, .int .i64 err]) ∧ n ≤ cp ∧ Fr w w' [⟨3, .slice ad n cp, ints l⟩]
set_option maxRecDepth 100000 in
set_option maxHeartbeats 4000000 in
theorem poolRun (l : List Int) (n k : Nat) (a : Option Addr) (ca : Nat) (w : World) (h : Sa w a (ints l)) (hn : l.length = n) (hl : LotsOk l) (h30 : n ≤ 30) (k1 : 1 ≤ k) (k12 : k ≤ 12) :
    Calls Try.prog 39 #[.int .i64 k, .slice a n ca] w (OneSl (runK k l n) (min n k) 0 w) := by
  have HN := Lib.hid hn; have HS := Lib.hid h; have HL := Lib.hid hl
  clear h hn hl
  go_enter Try.func39, Try.ntmps39
  go_wp2_with fail
  refine (poolChk l n k _ _ _ HS.out HN.out HL.out h30 k1 k12).mono ?_; rintro e w' ⟨rfl, rfl⟩
  go_wp2_with fail
  go_loopw [7, 18] (fun o i wr => ∃ (j : Nat) (ad : Option Addr) (cp m : Nat), j ≤ n ∧ i = .int .i64 j ∧ m = min j k ∧ o = .slice ad m cp ∧ Fr w wr [⟨3, .slice ad m cp, ints (runK k l j)⟩]) (fun _ i _ => n - (intOf i).toNat)
  case atStart => exact ⟨0, none, 0, 0, by omega, rfl, by omega, rfl, (Fr.start w).nilSlice _⟩
  case round =>
    obtain ⟨j, ad, cp, m, hj, rfl, hm, rfl, hfr⟩ := hrel
    by_cases hlt : j < n
    · obtain ⟨b', off, rfl, hb, hc⟩ := (hfr.old HS.out).int j (by rw [HN.out]; exact hlt)
      have hbd := HL.out j (by rw [HN.out]; exact hlt)
      have hst : runK k l (j + 1) = if j < k then runK k l j ++ [(j : Int)] else if nth l j < (k : Int) then (runK k l j).set (nth l j).toNat (j : Int) else runK k l j := rfl
      have hrl := runK_len k l j
      obtain ⟨x, hx⟩ : ∃ x, nth l j = x := ⟨_, rfl⟩
      rw [hx] at hc hbd hst
      obtain ⟨x1, x2⟩ := hbd
      have d1 : (0 : Int) ≤ (j : Int) := by omega
      have d2 : (j : Int) < (n : Int) := by omega
      clear hx
      by_cases hjk : j < k
      · rw [if_pos hjk] at hst
        have d3 : decide ((j : Int) < (k : Int)) = true := decide_eq_true (by omega)
        have HST := Lib.hid hst
        have HF := Lib.hid hfr
        have HM := Lib.hid hm
        have m12 : m ≤ 12 := by omega
        clear hst hrl hfr hm
        go_wp2_with (with_reducible refine at_slot 29 ?_; go_must (refine wpList_pushInt rfl _ _ rfl ad m cp _ (j : Int) _ rfl HF.out rfl ?_ ?_); rotate_left; intro ad' cp' w2 hf2 hlt2)
        · exact ⟨⟨j + 1, ad', cp', m + 1, by omega, by simp, by have := HM.out; omega, rfl, by rw [HST.out]; exact hf2⟩, by simp only [intOf]; omega⟩
        · omega
      · rw [if_neg hjk] at hst
        have d3 : decide ((j : Int) < (k : Int)) = false := decide_eq_false (by omega)
        have mk : m = k := by omega
        by_cases hxk : x < (k : Int)
        · rw [if_pos hxk] at hst
          obtain ⟨X, rfl⟩ : ∃ X : Nat, x = X := ⟨x.toNat, by omega⟩
          rw [Int.toNat_natCast] at hst
          obtain ⟨g, e, _, c1, f1⟩ := hfr.openI X (by omega)
          subst e
          have F5 := hfr.setInt X (j : Int)
          rw [← hst] at F5
          have HF5 := Lib.hid F5
          obtain ⟨u, hu⟩ : ∃ u, nth (runK k l j) X = u := ⟨_, rfl⟩
          rw [hu] at c1
          have HM := Lib.hid hm
          have d4 : (X : Int) < (m : Int) := by omega
          have d5 : decide ((X : Int) < (k : Int)) = true := decide_eq_true hxk
          have d6 : (0 : Int) ≤ (X : Int) := by omega
          have HMK := Lib.hid mk
          clear hst hrl hfr F5 hu hm mk
          go_wp2_with fail
          exact ⟨⟨j + 1, _, cp, m, by omega, by simp, by have := HM.out; have := HMK.out; omega, rfl, HF5.out⟩, by simp only [intOf]; omega⟩
        · rw [if_neg hxk] at hst
          have d5 : decide (x < (k : Int)) = false := decide_eq_false hxk
          have HST := Lib.hid hst
          have HM := Lib.hid hm; have HMK := Lib.hid mk
          clear hst hrl hm mk
          go_wp2_with fail
          exact ⟨⟨j + 1, ad, cp, m, by omega, by simp, by have := HM.out; have := HMK.out; omega, rfl, by rw [HST.out]; exact hfr⟩, by simp only [intOf]; omega⟩
    · obtain rfl : j = n := by omega
      subst hm
      have hcp := hfr.cap
      go_wp2_with fail
      go_ret2
      exact ⟨_, _, rfl, hcp, hfr⟩

set_option maxRecDepth 100000 in
set_option maxHeartbeats 1000000 in
theorem poolChosen (l : List Int) (n k : Nat) (a : Option Addr) (ca : Nat) (w : World) (h : Sa w a (ints l)) (hn : l.length = n) (hl : LotsOk l) (h30 : n ≤ 30) (n1 : 1 ≤ n) (k1 : 1 ≤ k) (k12 : k ≤ 12) :
    Calls Try.prog 37 #[.int .i64 k, .slice a n ca] w (OneSl (insS (runK k l n) (min n k)) (min n k) 0 w) := by
  have HN := Lib.hid hn; have HS := Lib.hid h; have HL := Lib.hid hl
  have HRL := Lib.hid (runK_len k l n)
  clear h hn hl
  go_enter Try.func37, Try.ntmps37
  go_wp2_with fail
  refine (poolRun l n k _ _ _ HS.out HN.out HL.out h30 k1 k12).mono ?_; rintro e w1 ⟨ad, cp, rfl, hcp, F1⟩
  obtain ⟨g, rfl, -⟩ := F1.open (by rw [ints_len, HRL.out]; omega)
  have HF1 := Lib.hid F1
  obtain ⟨m, hm⟩ : ∃ m, min n k = m := ⟨_, rfl⟩
  have m12 : m ≤ 12 := by omega
  have m1 : 1 ≤ m := by omega
  rw [hm] at HF1 hcp ⊢
  clear F1
  go_wp2_with fail
  refine (slSort (runK k l n) m cp g _ HF1.out m12 m1).mono ?_; rintro e w2 ⟨rfl, hf⟩
  have HF2 := Lib.hid hf
  clear hf
  go_wp2_with fail
  subst hm
  go_ret2
  exact ⟨_, _, rfl, hcp, HF2.out⟩

set_option maxRecDepth 100000 in
theorem fac2 (w : World) : Calls Try.prog 54 #[.int .i64 2] w fun e w' => e = .returned (.int .i64 2) ∧ w = w' := by
  go_enter Try.func54, Try.ntmps54
  go_wp2_with fail
  go_loop [3, 4] (fun s i => s = .int .i64 1 ∧ i = .int .i64 2 ∨ s = .int .i64 2 ∧ i = .int .i64 3) (fun _ i => 3 - (intOf i).toNat)
  case atStart => exact .inl ⟨rfl, rfl⟩
  case round =>
    rcases hrel with ⟨rfl, rfl⟩ | ⟨rfl, rfl⟩
    · go_wp2_with fail
      go_round
      case rel => exact .inr ⟨rfl, rfl⟩
      case measure => simp [intOf]
    · go_wp2_with fail
      go_ret
      exact ⟨rfl, rfl⟩
set_option maxRecDepth 100000 in
theorem ways42 (w : World) : Calls Try.prog 35 #[.int .i64 4, .int .i64 2] w fun e w' => e = .returned (.tuple #[.int .i64 4, .int .i64 0]) ∧ w = w' := by
  go_enter Try.func35, Try.ntmps35
  go_wp2_with fail
  refine (fac2 _).mono ?_; rintro e w' ⟨rfl, rfl⟩
  go_wp2_with fail
  refine (fac2 _).mono ?_; rintro e w' ⟨rfl, rfl⟩
  go_wp2_with fail
  go_ret2
  exact ⟨rfl, rfl⟩
set_option maxRecDepth 100000 in
set_option maxHeartbeats 1000000 in
theorem pools_any (w : World) : Calls Try.prog 33 #[] w fun e w' => e = .returned (.bool true) ∧ Below w.heap.size w w' := by
  have HP := Lib.hid (show LotsOk [0, 0, 1, 3] from by unfold LotsOk; decide)
  have e1 : runK 2 [0, 0, 1, 3] 4 = [0, 2] := by decide
  have E1 := Lib.hid e1; clear e1
  go_enter Try.func33, Try.ntmps33
  go_wp2_with fail
  have F1 := (Fr.start w).lit [0, 0, 1, 3] #[.int .i64 0, .int .i64 0, .int .i64 1, .int .i64 3] rfl 4 rfl (by omega) 3
  refine (poolRun [0, 0, 1, 3] 4 2 _ _ _ (F1.get 0 rfl) rfl HP.out (by omega) (by omega) (by omega)).mono ?_; rintro e w1 ⟨ad, cp, rfl, hcp, hf⟩
  rw [E1.out] at hf
  have F2 := F1.below.call hf
  clear F1 hf hcp
  rw [show min 4 2 = 2 from rfl] at F2 ⊢
  go_wp2_with fail
  refine (ways42 _).mono ?_; rintro e w' ⟨rfl, rfl⟩
  go_wp2_with fail
  refine (good2b _ w1.heap.size _ rfl).mono ?_; rintro e w' ⟨rfl, rfl⟩
  have F3 := F2.alloc (.cells #[.int .i64 0, .int .i64 0] 26)
  have F4 := F3.lit' [0, 2] #[.int .i64 0, .int .i64 2] rfl 2 rfl (by omega) 3 (w1.heap.size + 1) (by simp)
  clear F2
  go_wp2_with fail
  refine (slEqual [0, 2] [0, 2] 2 2 _ _ _ _ _ (F4.get 1 rfl) (F4.get 0 rfl) rfl rfl (by omega) (by omega)).mono ?_; rintro e w2 ⟨rfl, hf⟩
  have F5 := F4.keep hf.bel
  rw [decide_eq_true (rfl : ([0, 2] : List Int) = [0, 2])]
  go_wp2_with fail
  go_ret
  exact ⟨rfl, F5.bel⟩
end Go.Proofs.Ytgblmbhbbjgdiaa
