/- Contracts of perm.Check, castref.Dealt, castkeep.PermOf. -/
import Derived.Test.YtdabgibmbmhmdaaRankM
import Derived.RegionTactic
import Derived.ChangeAlike
namespace Go.Proofs.Ytdabgibmbmhmdaa
open Go.RowKit

def snL (p : List Int) (k : Nat) : List Value := (List.range 10).map fun v : Nat => Value.bool ((p.take k).any (· == (v : Int)))
theorem snL_len (p : List Int) (k : Nat) : (snL p k).length = 10 := by simp [snL]
theorem snL_get (p : List Int) (k v : Nat) (h : v < 10) : (snL p k)[v]? = some (.bool ((p.take k).any (· == (v : Int)))) := by simp [snL, h]
theorem snL_new {p : List Int} (h : IsP p) (k x : Nat) (hk : k < p.length) (hx : nth p k = x) : (p.take k).any (· == (x : Int)) = false := by
  rw [← Bool.not_eq_true, List.any_eq_true]
  rintro ⟨y, hy, e⟩
  obtain ⟨i, hi, e2⟩ := List.getElem_of_mem hy
  rw [List.length_take] at hi
  rw [List.getElem_take] at e2
  have := h.inj i k (by omega) hk (by
    rw [hx]; unfold nth
    rw [List.getD_eq_getElem?_getD, List.getElem?_eq_getElem (by omega)]
    simp at e; rw [← e, ← e2]; rfl)
  omega
theorem snL_step (p : List Int) (k x : Nat) (hk : k < p.length) (hx : nth p k = x) : (snL p k).set x (.bool true) = snL p (k + 1) := by
  apply List.ext_getElem (by simp [snL])
  intro v h1 h2
  rw [List.length_set, snL_len] at h1
  rw [List.getElem_set]
  have e : (snL p (k + 1))[v]'h2 = .bool ((p.take (k + 1)).any (· == (v : Int))) := by simp [snL]
  rw [e, take_nth p k hk, List.any_append, hx]
  by_cases ev : x = v
  · rw [if_pos ev]; subst ev; simp
  · rw [if_neg ev]
    have : (snL p k)[v]'(by rw [snL_len]; exact h1) = .bool ((p.take k).any (· == (v : Int))) := by simp [snL]
    rw [this]
    have hf : ((x : Int) == (v : Int)) = false := by rw [beq_eq_false_iff_ne]; omega
    simp [hf]

set_option maxRecDepth 100000 in
set_option maxHeartbeats 2000000 in
theorem permChk (p : List Int) (n : Nat) (a : Option Addr) (cap : Nat) (w : World) (h : Sa w a (ints p)) (hn : p.length = n) (hp : IsP p) (h10 : n ≤ 10) :
    Calls Try.prog 61 #[.slice a n cap] w fun e w' => e = .returned (.int .i64 0) ∧ Fr w w' [] := by
  have HN := Lib.hid hn; have HS := Lib.hid h; have HP := Lib.hid hp
  clear hn h hp
  go_enter Try.func61, Try.ntmps61
  go_wp2_with fail
  have F1 := (Fr.start w).new 70 #[.bool false, .bool false, .bool false, .bool false, .bool false, .bool false, .bool false, .bool false, .bool false, .bool false] (snL p 0) rfl 10 rfl (by omega)
  go_loopw [11] (fun i wr => ∃ k : Nat, k ≤ n ∧ i = .int .i64 k ∧ Fr w wr [⟨70, .slice (some ⟨w.heap.size, 0, none⟩) 10 10, snL p k⟩]) (fun i _ => n - (intOf i).toNat)
  case atStart => exact ⟨0, by omega, rfl, F1⟩
  case round =>
    obtain ⟨k, hk, rfl, hfr⟩ := hrel
    clear F1
    by_cases hlt : k < n
    · obtain ⟨b, off, rfl, hb, hc⟩ := (hfr.old HS.out).int k (by rw [HN.out]; exact hlt)
      have hbd := HP.out.bd k (by rw [HN.out]; exact hlt)
      rw [HN.out] at hbd
      obtain ⟨x, hx⟩ : ∃ x : Nat, nth p k = x := ⟨(nth p k).toNat, by omega⟩
      have hnew := snL_new HP.out k x (by rw [HN.out]; exact hlt) hx
      have hst := snL_step p k x (by rw [HN.out]; exact hlt) hx
      rw [hx] at hc hbd
      have hxn : x < n := by omega
      obtain ⟨g, e, _, _, hcell, hz⟩ := hfr.open (by rw [snL_len]; omega)
      cases e
      have c1 := hcell x (by rw [snL_len]; omega)
      rw [snL_get p k x (by omega), hnew] at c1
      have z1 := hz x
      have F2 := hfr.set x (.bool true)
      rw [hst] at F2
      have HF := Lib.hid F2
      clear hcell hz hx hnew hst hfr F2 hbd
      have d1 : (0 : Int) ≤ (x : Int) := by omega
      have d2 : (x : Int) < 10 := by omega
      have d3 : decide ((x : Int) < 0) = false := decide_eq_false (by omega)
      have d4 : decide (n ≤ x) = false := decide_eq_false (by omega)
      have d5 : x < 10 := by omega
      go_wp2_with fail
      go_roundw
      case rel => exact ⟨k + 1, by omega, by go_num, HF.out⟩
      case measure => simp only [intOf]; omega
    · go_wp2_with fail
      go_ret
      exact ⟨rfl, hfr.below⟩

def lotsL (l : List Int) (t : Nat) : List Int := (List.range (min t l.length)).map fun i : Nat => nth l i % ((i : Int) + 1)
theorem lotsL_len (l : List Int) (t : Nat) : (lotsL l t).length = min t l.length := by simp [lotsL]
theorem lotsL_nth (l : List Int) (t i : Nat) (h : i < min t l.length) : nth (lotsL l t) i = nth l i % ((i : Int) + 1) := by
  unfold nth lotsL
  rw [List.getD_eq_getElem?_getD, List.getElem?_map, List.getElem?_range h]; rfl
theorem lotsL_ok (l : List Int) (t : Nat) : LotOk (lotsL l t) := fun i hi => by
  rw [lotsL_len] at hi
  rw [lotsL_nth _ _ _ hi]
  have := Int.emod_nonneg (nth l i) (b := (i : Int) + 1) (by omega)
  have := Int.emod_lt_of_pos (nth l i) (b := (i : Int) + 1) (by omega)
  omega
theorem lotsL_take (l : List Int) (t k : Nat) (h : k < min t l.length) : (lotsL l t).take k ++ [nth l k % ((k : Int) + 1)] = (lotsL l t).take (k + 1) := by
  rw [take_nth _ k (by rw [lotsL_len]; exact h), lotsL_nth _ _ _ h]

def OneP (l : List Int) (n : Nat) (w : World) (e : Ending) (w' : World) : Prop :=
  ∃ (ad : Option Addr) (cp : Nat), e = .returned (.slice ad n cp) ∧ n ≤ cp ∧ Fr w w' [⟨3, .slice ad n cp, ints l⟩]

set_option maxRecDepth 100000 in
set_option maxHeartbeats 4000000 in
theorem dealtR (l : List Int) (n : Nat) (a : Option Addr) (cap : Nat) (w : World) (h : Sa w a (ints l)) (hn : l.length = n) (hp : LotOk l) (h10 : n ≤ 1000) :
    Calls Try.prog 64 #[.slice a n cap] w (OneP (dealL l) n w) := by
  have HN := Lib.hid hn; have HS := Lib.hid h; have HP := Lib.hid hp
  clear hn h hp
  go_enter Try.func64, Try.ntmps64
  go_wp2_with fail
  go_loopw [3, 8] (fun o i wr => ∃ (k : Nat) (ad : Option Addr) (cp : Nat), k ≤ n ∧ i = .int .i64 k ∧ o = .slice ad k cp ∧ Fr w wr [⟨3, .slice ad k cp, ints (dealK l k)⟩]) (fun _ i _ => n - (intOf i).toNat)
  case atStart => exact ⟨0, none, 0, by omega, rfl, rfl, (Fr.start w).nilSlice _⟩
  case round =>
    obtain ⟨k, ad, cp, hk, rfl, rfl, hfr⟩ := hrel
    by_cases hlt : k < n
    · obtain ⟨b, off, rfl, hb, hc⟩ := (hfr.old HS.out).int k (by rw [HN.out]; exact hlt)
      have hbd := HP.out k (by rw [HN.out]; exact hlt)
      obtain ⟨dl, _⟩ := dealK_ok l HP.out k (by rw [HN.out]; omega)
      obtain ⟨x, hx⟩ : ∃ x : Nat, nth l k = x := ⟨(nth l k).toNat, by omega⟩
      have hst : dealK l (k + 1) = ((dealK l k ++ [(k : Int)]).set k (nth (dealK l k ++ [(k : Int)]) x)).set x k := by rw [dealK, hx]; rfl
      rw [hx] at hc hbd
      have hxk : x ≤ k := by omega
      have hk2 : nth (dealK l k ++ [(k : Int)]) k = k := by rw [nth_snoc, dl, if_pos rfl]
      have hlen2 : (dealK l k ++ [(k : Int)]).length = k + 1 := by rw [List.length_append, dl]; rfl
      obtain ⟨O, hO⟩ : ∃ O, dealK l k ++ [(k : Int)] = O := ⟨_, rfl⟩
      rw [hO] at hst hk2 hlen2
      have HST := Lib.hid hst; have HK2 := Lib.hid hk2; have HL2 := Lib.hid hlen2; have HO := Lib.hid hO
      have HF := Lib.hid hfr
      obtain ⟨y, hy⟩ : ∃ y, nth O x = y := ⟨_, rfl⟩
      have HY := Lib.hid hy
      clear hx dl hst hk2 hlen2 hO hfr hy hbd
      have d1 : (0 : Int) ≤ (x : Int) := by omega
      have d2 : (x : Int) < (k : Int) + 1 := by omega
      have d3 : (0 : Int) ≤ (k : Int) := by omega
      have d4 : (k : Int) < (k : Int) + 1 := by omega
      have d5 : x < k + 1 := by omega
      go_wp2_with (with_reducible refine at_slot 16 ?_; go_must (refine wpList_pushInt rfl _ _ rfl ad k cp _ (k : Int) _ rfl HF.out rfl ?_ ?_); rotate_left; intro ad' cp' w3 hf2 hlt2; rw [HO.out] at hf2; obtain ⟨g, rfl, -, c1, z1⟩ := hf2.openI x (by rw [HL2.out]; omega); obtain ⟨g', e, -, c2, z2⟩ := hf2.openI k (by rw [HL2.out]; omega); cases e; rw [HY.out] at c1; rw [HK2.out] at c2; obtain ⟨g3, e3, -, c3, z3⟩ := (hf2.setInt k y).openI x (by rw [List.length_set, HL2.out]; omega); cases e3; have F3 := (((hf2.setInt k y).setInt x k)).drew; rw [← HY.out, ← HST.out] at F3; rw [HY.out] at F3; have HF3 := Lib.hid F3; clear F3 hf2)
      · go_region
        go_wp2_with fail
        go_roundw
        case rel => exact ⟨k + 1, _, cp', by omega, by go_num, rfl, HF3.out⟩
        case measure => simp only [intOf]; omega
      · omega
    · obtain rfl : k = n := by omega
      go_wp2_with fail
      go_ret
      exact ⟨ad, cp, rfl, hfr.cap, by rw [dealL, HN.out]; exact hfr⟩

def MadeP (l : List Int) (w : World) (e : Ending) (w' : World) : Prop :=
  ∃ (ad : Option Addr) (n cp : Nat), e = .returned (.slice ad n cp) ∧ l.length = n ∧ n ≤ cp ∧ Fr w w' [⟨3, .slice ad n cp, ints l⟩]
def permL (l : List Int) (t : Nat) : List Int := dealL (lotsL l t)
theorem permL_ok (l : List Int) (t : Nat) : (permL l t).length = min t l.length ∧ IsP (permL l t) := by
  have := dealL_ok (lotsL l t) (lotsL_ok l t)
  rw [lotsL_len] at this; exact this

set_option maxRecDepth 100000 in
set_option maxHeartbeats 2000000 in
theorem permOf_any (l : List Int) (n : Nat) (a : Option Addr) (cap : Nat) (t : Nat) (w : World) (h : Sa w a (ints l)) (hn : l.length = n) (hc : n ≤ cap) (hm : n ≤ maxLen) (ht : t ≤ 1000) :
    Calls Try.prog 17 #[.slice a n cap, .int .i64 t] w (MadeP (permL l t) w) := by
  unfold maxLen at hm
  obtain ⟨m, m1, m2, m3⟩ : ∃ m : Nat, m ≤ n ∧ (m : Int) ≤ (t : Int) ∧ (m = n ∨ (m : Int) = (t : Int)) := ⟨min n t, by omega, by omega, by omega⟩
  have HMIN := Lib.hid (run_min2 #[3, 3] 3 n t m m1 m2 m3)
  have HN := Lib.hid hn; have HS := Lib.hid h
  have HM : Hid (min t l.length = m) := Lib.hid (by omega)
  have mt : m ≤ 1000 := by omega
  clear hn h m3
  have b1 : (m : Int) ≤ (cap : Int) := by omega
  go_enter Try.func17, Try.ntmps17
  have hmin := HMIN.out
  go_wp2_with fail
  clear hmin
  go_loopw [5, 15] (fun o i wr => ∃ (k : Nat) (ad : Option Addr) (cp : Nat), k ≤ m ∧ i = .int .i64 k ∧ o = .slice ad k cp ∧ Fr w wr [⟨3, .slice ad k cp, ints ((lotsL l t).take k)⟩]) (fun _ i _ => m - (intOf i).toNat)
  case atStart => exact ⟨0, none, 0, by omega, rfl, rfl, (Fr.start w).nilSlice _⟩
  case round =>
    obtain ⟨k, ad, cp, hk, rfl, rfl, hfr⟩ := hrel
    by_cases hlt : k < m
    · obtain ⟨b, off, rfl, hb, hc⟩ := (hfr.old HS.out).int k (by rw [HN.out]; omega)
      have hs := Lib.hid (lotsL_take l t k (by rw [HM.out]; exact hlt))
      obtain ⟨x, hx⟩ : ∃ x, nth l k = x := ⟨_, rfl⟩
      rw [hx] at hc
      have HX := Lib.hid hx
      have HF := Lib.hid hfr
      clear hx hfr
      have d1 : (0 : Int) ≤ (k : Int) := by omega
      have d2 : (k : Int) < (m : Int) := by omega
      have e1 := Int.emod_nonneg x (b := (k : Int) + 1) (by omega)
      have e2 := Int.emod_lt_of_pos x (b := (k : Int) + 1) (by omega)
      go_wp2_with (first
        | (go_at_call 27; refine (within_any _ _ _ (by omega) (by omega)).mono ?_; rintro e w' ⟨rfl, rfl⟩)
        | (with_reducible refine at_slot 26 ?_; go_must (refine wpList_pushInt rfl _ _ rfl ad k cp _ (x % ((k : Int) + 1)) _ rfl HF.out rfl ?_ ?_); rotate_left; intro ad' cp' w2 hf2 hlt2))
      · rw [show (lotsL l t).take k ++ [x % ((k : Int) + 1)] = (lotsL l t).take (k + 1) from by rw [← HX.out]; exact hs.out] at hf2
        exact ⟨⟨k + 1, ad', cp', by omega, by simp, rfl, hf2⟩, by simp only [intOf]; omega⟩
      · omega
    · obtain rfl : k = m := by omega
      have hl : (lotsL l t).length = k := by rw [lotsL_len, HM.out]
      rw [List.take_of_length_le (by omega)] at hfr
      have HL := Lib.hid hl
      clear hl
      go_wp2_with fail
      refine (dealtR (lotsL l t) k _ _ _ (hfr.get 0 rfl) HL.out (lotsL_ok l t) mt).mono ?_; rintro e w5 ⟨ad5, cp5, rfl, hc5, hf⟩
      have F6 := hfr.below.call hf
      go_wp2_with fail
      go_ret
      refine ⟨ad5, k, cp5, rfl, by rw [(permL_ok l t).1, HM.out], hc5, ?_⟩
      exact F6
end Go.Proofs.Ytdabgibmbmhmdaa
