/- The walk of the law PartsGlaisher. -/
import Derived.Test.YtdabgibmbmhmdaaGlaU
import Derived.Test.YtdabgibmbmhmdaaSrtD
import Derived.Test.YtdabgibmbmhmdaaSumOf
import Derived.Test.YtdabgibmbmhmdaaPartL
import Derived.Test.YtdabgibmbmhmdaaGood
import Derived.Test.YtdabgibmbmhmdaaSlCmpt
import Derived.Test.YtdabgibmbmhmdaaIdxF
import Derived.Deep.CutRange
namespace Go.Proofs.Ytdabgibmbmhmdaa
open Go.RowKit

theorem first_rep (l : List Int) : ∀ k, k ≤ l.length → ∃ m, m ≤ k ∧ (∀ i, 0 < i → i < m → nth l i ≠ nth l (i - 1)) ∧ (m < k → 0 < m ∧ nth l m = nth l (m - 1))
  | 0, _ => ⟨0, Nat.le_refl _, fun i _ h => by omega, fun h => by omega⟩
  | k + 1, hk => by
    obtain ⟨m, h1, h2, h3⟩ := first_rep l k (by omega)
    by_cases hm : m < k
    · exact ⟨m, by omega, h2, fun _ => h3 hm⟩
    · obtain rfl : m = k := by omega
      by_cases he : 0 < m ∧ nth l m = nth l (m - 1)
      · exact ⟨m, by omega, h2, fun _ => he⟩
      · refine ⟨m + 1, by omega, fun i h0 hi => ?_, fun h => by omega⟩
        by_cases e : i = m
        · subst e; exact fun h => he ⟨h0, h⟩
        · exact h2 i h0 (by omega)
theorem pw_of {l : List Int} (h : ∀ i j, i < j → j < l.length → nth l j < nth l i) : l.Pairwise fun x y => y < x := by
  rw [List.pairwise_iff_getElem]
  intro i j hi hj hij
  have := h i j hij hj
  simpa [nth, hi, hj] using this
theorem pw_nth {l : List Int} (h : l.Pairwise fun x y => y < x) : ∀ i, 0 < i → i < l.length → nth l i ≠ nth l (i - 1) := fun i h0 hi => by
  rw [List.pairwise_iff_getElem] at h
  have := h (i - 1) i (by omega) hi (by omega)
  have e1 : nth l i = l[i] := by simp [nth, hi]
  have e2 : nth l (i - 1) = l[i - 1] := by simp [nth, show i - 1 < l.length by omega]
  rw [e1, e2]; omega
theorem strict_pw {l : List Int} (hp : PartOk l) (hm : ∀ i, 0 < i → i < l.length → nth l i ≠ nth l (i - 1)) : l.Pairwise fun x y => y < x :=
  pw_of fun i j hij hj => by
    have h1 := part_desc' hp (show i ≤ j - 1 by omega) (by omega)
    have h2 := (hp j hj).2.2.1 (by omega)
    have h3 := hm j (by omega) hj
    omega
theorem sumI_sum (l : List Int) : sumI l = l.sum := by
  induction l with
  | nil => rfl
  | cons x l ih => rw [sumI_cons, List.sum_cons, ih]
theorem fall_part {l : List Int} (h1 : ∀ x ∈ l, 1 ≤ x ∧ x ≤ 40) (hf : l.Pairwise fun x y => y ≤ x) (hs : l.sum ≤ 40) : PartOk l := by
  refine partOk_of h1 (fun i hi => ?_) (by rw [sumI_sum]; exact hs)
  rw [List.pairwise_iff_getElem] at hf
  have := hf i (i + 1) (by omega) hi (by omega)
  have e1 : nth l i = l[i] := by simp [nth, show i < l.length by omega]
  have e2 : nth l (i + 1) = l[i + 1] := by simp [nth, hi]
  rw [e1, e2]; exact this
/-- the odd number at or below -/
def toOdd (v : Int) : Int := v - 1 + v % 2
def oddOf (l : List Int) : List Int := (srtI (l.map toOdd)).reverse
theorem oddOf_len (l : List Int) : (oddOf l).length = l.length := by unfold oddOf; rw [List.length_reverse, srtI_len, List.length_map]
theorem toOdd_ok {v : Int} (h : 1 ≤ v ∧ v ≤ 40) : (1 ≤ toOdd v ∧ toOdd v ≤ v) ∧ toOdd v % 2 = 1 := by unfold toOdd; omega
theorem sum_toOdd : ∀ {l : List Int}, (∀ x ∈ l, 1 ≤ x ∧ x ≤ 40) → (l.map toOdd).sum ≤ l.sum
  | [], _ => by simp
  | x :: l, h => by
    have := sum_toOdd (l := l) (fun y hy => h y (List.mem_cons_of_mem _ hy))
    have := (toOdd_ok (h x List.mem_cons_self)).1
    rw [List.map_cons, List.sum_cons, List.sum_cons]; omega
theorem oddOf_ok {l : List Int} (h : ∀ x ∈ l, 1 ≤ x ∧ x ≤ 40) (hs : l.sum ≤ 40) : (∀ x ∈ oddOf l, 1 ≤ x ∧ x ≤ 40) ∧ AllOdd (oddOf l) ∧ (oddOf l).sum ≤ 40 ∧ (oddOf l).Pairwise fun x y => y ≤ x := by
  have hp : (oddOf l).Perm (l.map toOdd) := (List.reverse_perm _).trans (srtI_perm _)
  have hm : ∀ x ∈ oddOf l, (1 ≤ x ∧ x ≤ 40) ∧ x % 2 = 1 := fun x hx => by
    obtain ⟨v, hv, rfl⟩ := List.mem_map.1 (hp.mem_iff.1 hx)
    have := h v hv
    have := toOdd_ok this
    omega
  refine ⟨fun x hx => (hm x hx).1, fun x hx => (hm x hx).2, ?_, ?_⟩
  · rw [sum_perm hp]
    have := sum_toOdd h; omega
  · unfold oddOf
    rw [List.pairwise_reverse]
    exact (List.pairwise_mergeSort (le := fun x y : Int => decide (x ≤ y)) (fun a b c h1 h2 => by simp at *; omega) (fun a b => by simp; omega) (l.map toOdd)).imp fun h => of_decide_eq_true h
theorem odd43 : desc (oddRaw [4, 3]) = [3, 1, 1, 1, 1] := by
  refine fall_uniq ((desc_perm _).trans ?_) (desc_pw _) (by decide)
  have : oddRaw [4, 3] = [1, 1, 1, 1, 3] := by decide
  rw [this]
  decide

theorem evenF (x : Int) (W : World) : Calls Try.prog 48 #[.int .i64 x] W fun e w' => e = .returned (.bool (x.tmod 2 == 0)) ∧ W = w' := by
  go_enter Try.func48, Try.ntmps48
  go_wp2
  go_ret
  exact ⟨rfl, rfl⟩
/-- no even number in the list -/
theorem noEven (l : List Int) (n : Nat) (a : Option Addr) (cap : Nat) (w : World) (h : Sa w a (ints l)) (hn : l.length = n) (hl : n ≤ 1000000) (ho : AllOdd l) :
    Calls Try.prog 47 #[.slice a n cap, .func (.func 48) #[] #[]] w fun e w' => e = .returned (.bool false) ∧ w = w' := by
  have hi := idxF_any (fun x => x.tmod 2 == 0) 48 #[] (enters_of Try.func48 (by kernel_rfl) rfl) l n a cap w (fun x => evenF x w) h hn hl
  have hi2 : Calls Try.prog 89 #[.slice a n cap, .func (.func 48) #[] #[]] w fun e w' => e = .returned (.int .i64 (-1)) ∧ w = w' := hi.mono fun e w' ⟨r, he, hr, hw⟩ => by
    rcases hr with ⟨rfl, -⟩ | ⟨k, hk, -, hp, -⟩
    · exact ⟨he, hw⟩
    · exfalso
      have := ho _ (nth_mem l k (by omega))
      have h2 : (nth l k).tmod 2 = 0 := by simpa using hp
      rw [Int.tmod_eq_emod] at h2
      split at h2 <;> omega
  have HI := Lib.hid hi2
  clear hi hi2
  go_enter Try.func47, Try.ntmps47
  go_wp2_with fail
  refine HI.out.mono ?_
  rintro e w' ⟨rfl, rfl⟩
  go_wp2_with fail
  go_ret
  exact ⟨rfl, rfl⟩

set_option maxRecDepth 100000 in
set_option maxHeartbeats 8000000 in
theorem partsGlaisher_any (l0 : List Int) (n : Nat) (a : Option Addr) (cap : Nat) (w : World) (h : Sa w a (ints l0)) (hn : l0.length = n) (hc : n ≤ cap) (hm : n ≤ maxLen) :
    Calls Try.prog 10 #[.slice a n cap] w fun e w' => e = .returned (.bool true) ∧ Below w.heap.size w w' := by
  obtain ⟨s1, s2, s3⟩ := sofR_ok l0 (min n 20) (by omega)
  have HN := Lib.hid hn; have HS := Lib.hid h
  have P43 := Lib.hid (show PartOk [4, 3] from by unfold PartOk; decide)
  have q43 : ∀ i, 0 < i → i < 2 → nth [4, 3] i ≠ nth [4, 3] (i - 1) := fun i h0 hi => by
    have : i = 1 := by omega
    subst this
    decide
  have Q43 := Lib.hid q43
  clear q43
  clear hn h
  go_enter Try.func10, Try.ntmps10
  go_wp2_with fail
  have F1 := (Fr.start w).lit [4, 3] #[.int .i64 4, .int .i64 3] rfl 2 rfl (by omega) 3
  refine (partOdd sortOdd [4, 3] 2 2 _ _ _ (F1.get 0 rfl) rfl P43.out (by omega) Q43.out (fun h => by omega)).mono ?_; rintro e w1 hpost
  obtain ⟨ad, cp, rfl, hcp, hf⟩ : OneSlI [3, 1, 1, 1, 1] 0 (w.alloc (.cells #[.int .i64 4, .int .i64 3] 3)) e w1 := by
    rcases hpost with ⟨-, hp⟩ | ⟨hlt, -⟩
    · rw [odd43] at hp; exact hp
    · omega
  clear hpost
  have F2 := F1.below.call hf
  clear F1 hf
  go_wp2_with fail
  have F3 := F2.lit [3, 1, 1, 1, 1] #[.int .i64 3, .int .i64 1, .int .i64 1, .int .i64 1, .int .i64 1] rfl 5 rfl (by omega) 3
  refine (slEqual [3, 1, 1, 1, 1] [3, 1, 1, 1, 1] 5 5 _ _ _ _ _ (F3.get 1 rfl) (F3.get 0 rfl) rfl rfl (by omega) (by omega)).mono ?_; rintro e w2 ⟨rfl, hf⟩
  rw [decide_eq_true rfl]
  replace F3 := F3.below.keep hf.bel
  clear F2 hf
  go_wp2_with fail
  refine (partsLive_any _).mono ?_; rintro e w3 ⟨rfl, hb⟩
  replace F3 := F3.keep hb
  clear hb
  go_wp2_with fail
  refine (sumOf_any l0 n _ _ 20 _ (F3.old HS.out) HN.out hc hm (by omega)).mono ?_; rintro e w4 ⟨ad1, m, cp1, rfl, hlen, hcp1, hf⟩
  have F4 := F3.call hf
  clear F3 hf
  generalize sofR l0 (min n 20) = l at *
  have HP := Lib.hid s1; have HB := Lib.hid s2; have HL := Lib.hid hlen
  have hml : m ≤ 20 := by omega
  clear s1 s2 s3 hlen
  obtain ⟨r, hr1, hr2, hr3⟩ := first_rep l m (by rw [HL.out]; exact Nat.le_refl _)
  have HR2 := Lib.hid hr2; have HR3 := Lib.hid hr3
  clear hr2 hr3
  go_wp2_with fail
  refine (partOdd sortOdd l m r _ _ _ (F4.get 0 rfl) HL.out HP.out hr1 HR2.out HR3.out).mono ?_; rintro e w5 hpost
  have hres : ∃ (ado : Option Addr) (no co : Nat) (er : Int) (o : List Int), e = .returned (.tuple #[.slice ado no co, .int .i64 er]) ∧ Fr w w5 [⟨3, .slice ado no co, ints o⟩, ⟨3, .slice ad1 m cp1, ints l⟩] ∧ no ≤ co ∧
      Hid ((er = 0 ∧ r = m ∧ o = desc (oddRaw l)) ∨ (er = 3 ∧ r < m ∧ no = 0)) := by
    rcases hpost with ⟨h1, ad, cp, rfl, h2, hf⟩ | ⟨h1, rfl, hf⟩
    · exact ⟨ad, _, cp, 0, _, rfl, F4.call hf, h2, Lib.hid (.inl ⟨rfl, h1, rfl⟩)⟩
    · exact ⟨none, 0, 0, 3, [], rfl, (F4.keep hf.bel).nilSlice _, Nat.le_refl _, Lib.hid (.inr ⟨rfl, h1, rfl⟩)⟩
  obtain ⟨ado, no, co, er, o, rfl, F5, hco, HO⟩ := hres
  clear hpost F4
  have F5l := Lib.hid F5.len
  go_upto_if 42 with (fail)
  go_cut [9] from 8 (fun s9 wc => Hid (Fr w wc [⟨3, .slice ad1 m cp1, ints l⟩]))
  case first =>
    rcases HO.out with ⟨rfl, h1, h2⟩ | ⟨rfl, h1, h2⟩
    · subst h1
      have hst := strict_pw HP.out (fun i h0 hi => HR2.out i h0 (by rw [HL.out] at hi; exact hi))
      obtain ⟨g1, g2, g3, g4⟩ := glaisher1 (part_pos' HP.out) (by rw [← sumI_sum]; exact HB.out) hst
      rw [← h2] at g1 g2 g3 g4
      have hno := F5.len
      rw [ints_len] at hno
      have HPO := Lib.hid (fall_part (fun x hx => (g1 x hx).1) (by rw [h2]; exact desc_pw _) (by rw [g2, ← sumI_sum]; exact HB.out))
      have HOD := Lib.hid (show AllOdd o from fun x hx => (g1 x hx).2)
      have HG4 := Lib.hid g4
      have HNO := Lib.hid hno.symm
      have hn40 : no ≤ 40 := by omega
      have HF5 := Lib.hid F5
      clear hst g1 g2 g3 g4 hno F5 h2 HO F5l
      go_wp2_with fail
      refine (partUnlike sortUnlike o no _ _ _ (HF5.out.get 0 rfl) HNO.out HPO.out HOD.out).mono ?_; rintro e w6 ⟨ad6, cp6, rfl, hcp6, hf⟩
      rw [HG4.out] at hf hcp6 ⊢
      rw [HL.out] at hf hcp6 ⊢
      have F6 := HF5.out.call hf
      clear hf
      go_wp2_with fail
      refine (slEqual l l r r _ _ _ _ _ (F6.get 0 rfl) (F6.get 2 rfl) HL.out HL.out (by omega) (by omega)).mono ?_; rintro e w7 ⟨rfl, hf⟩
      rw [decide_eq_true rfl]
      have F7 := F6.keep hf.bel
      clear F6 hf
      go_wp2_with fail
      refine (noEven o no _ _ _ (F7.get 1 rfl) HNO.out (by omega) HOD.out).mono ?_; rintro e w8 ⟨rfl, rfl⟩
      have HF7 := Lib.hid (F7.sub (List.Sublist.cons _ (List.Sublist.cons _ (List.Sublist.refl _))))
      clear F7
      go_wp2_with fail
      go_meet
      exact HF7
    · have hrep := HR3.out h1
      have hlt := compact_lt l r hrep.1 (by rw [HL.out]; exact h1) hrep.2
      rw [HL.out] at hlt
      have HF5 := Lib.hid F5.tail
      clear hrep F5 F5l HO
      subst h2
      go_wp2_with fail
      refine (slClone l m _ _ _ (HF5.out.get 0 rfl) HL.out (by omega)).mono ?_; rintro e w6 ⟨ad6, cp6, rfl, hcp6, hf⟩
      have F6 := HF5.out.call hf
      clear hf
      go_wp2_with fail
      refine (slCompactOwn l m cp6 ad6 _ F6 (by omega)).mono ?_; rintro e w7 ⟨rfl, hf⟩
      have HF7 := Lib.hid hf.tail
      clear F6 hf
      obtain ⟨q, hq⟩ : ∃ q, (Lib.compact l).length = q := ⟨_, rfl⟩
      rw [hq] at hlt ⊢
      have hne : ((q : Int) == (m : Int)) = false := by rw [beq_eq_false_iff_ne]; omega
      clear hq
      go_wp2_with fail
      go_meet
      exact HF7
  case rest =>
  have HF0 := hcut
  clear hcut F5l HO hco HR2 HR3 hr1
  obtain ⟨o1, o2, o3, o4⟩ := oddOf_ok (part_pos' HP.out) (by rw [← sumI_sum]; exact HB.out)
  obtain ⟨g1, g2, g3, g4, g5⟩ := glaisher2 o1 o2 o3 o4
  have hlo := oddOf_len l
  rw [HL.out] at hlo
  have HPO := Lib.hid (fall_part o1 o4 o3)
  have HOD := Lib.hid o2
  have HPU := Lib.hid (fall_part g1 (desc_pw _) (by rw [g2]; exact o3))
  have HSU := Lib.hid (pw_nth g4)
  have HBK := Lib.hid g5
  have HLO := Lib.hid hlo
  have HOO := Lib.hid (show oddOf l = (srtI (l.map toOdd)).reverse from rfl)
  have g3' : (desc (unlikeTo (oddOf l) 41)).length ≤ 40 := g3
  clear o1 o2 o3 o4 g1 g2 g3 g4 g5 hlo
  go_wp2_with fail
  have hF0 := HF0.out.nilSlice 3
  go_loopw [10, 73] (fun o i wr => ∃ (k : Nat) (ad : Option Addr) (cp : Nat), k ≤ m ∧ i = .int .i64 k ∧ o = .slice ad k cp ∧ Fr w wr [⟨3, .slice ad k cp, ints ((l.take k).map toOdd)⟩, ⟨3, .slice ad1 m cp1, ints l⟩]) (fun _ i _ => m - (intOf i).toNat)
  case atStart => exact ⟨0, none, 0, by omega, rfl, rfl, hF0⟩
  case round =>
    obtain ⟨k, ad, cp, hk, rfl, rfl, hfr⟩ := hrel
    clear hF0
    by_cases hlt : k < m
    · obtain ⟨b, off, rfl, hb, hc⟩ := (hfr.get 1 rfl).int k (by rw [HL.out]; exact hlt)
      have hx := part_pos' HP.out _ (nth_mem l k (by rw [HL.out]; exact hlt))
      have hs := Lib.hid (show (l.take (k + 1)).map toOdd = (l.take k).map toOdd ++ [toOdd (nth l k)] from by rw [take_nth l k (by rw [HL.out]; exact hlt), List.map_append]; rfl)
      obtain ⟨x, hx'⟩ : ∃ x, nth l k = x := ⟨_, rfl⟩
      rw [hx'] at hc hx hs
      obtain ⟨y, hy⟩ : ∃ y, toOdd x = y := ⟨_, rfl⟩
      rw [hy] at hs
      have hxy : x - 1 + x % 2 = y := by rw [← hy]; rfl
      have HFR := Lib.hid hfr
      clear hx' hy hfr
      go_wp2_with (with_reducible refine at_slot 84 ?_; go_must (refine wpList_pushInt rfl _ _ rfl ad k cp _ y _ rfl HFR.out rfl ?_ ?_); rotate_left; intro ad' cp' w3 hf2 hlt2)
      · rw [← hs.out] at hf2
        go_roundw
        case rel => exact ⟨k + 1, ad', cp', by omega, by go_num, rfl, hf2⟩
        case measure => simp only [intOf]; omega
      · omega
    · obtain rfl : k = m := by omega
      rw [List.take_of_length_le (by rw [HL.out]; omega)] at hfr
      have hsrt := slSortAll _ k cp ad wr hfr (by omega)
      clear hfr
      go_wp2_with (go_at_call 50; refine hsrt.mono ?_; rintro e w2 ⟨rfl, F2⟩)
      refine (slReverseAll _ k cp ad _ _ F2 (by omega)).mono ?_; rintro e w3 ⟨rfl, F3⟩
      rw [← HOO.out] at F3
      clear F2
      obtain ⟨O, hO⟩ : ∃ O, oddOf l = O := ⟨_, rfl⟩
      rw [hO] at F3 HPO HOD HPU HSU HBK HLO g3'
      clear HOO hO
      go_wp2_with fail
      refine (partUnlike sortUnlike O k _ _ _ (F3.get 0 rfl) HLO.out HPO.out HOD.out).mono ?_; rintro e w4 ⟨ad4, cp4, rfl, hcp4, hf⟩
      have F4 := F3.call hf
      clear F3 hf
      obtain ⟨U, hU⟩ : ∃ U, desc (unlikeTo O 41) = U := ⟨_, rfl⟩
      rw [hU] at F4 HPU HSU HBK g3' hcp4 ⊢
      clear hU
      obtain ⟨un, hun⟩ : ∃ un, U.length = un := ⟨_, rfl⟩
      have HUN := Lib.hid hun
      rw [hun] at F4 g3' hcp4 ⊢
      clear hun
      go_wp2_with fail
      refine (partOdd sortOdd U un un _ _ _ (F4.get 0 rfl) HUN.out HPU.out (Nat.le_refl _) (fun i h0 hi => HSU.out i h0 (by rw [HUN.out]; exact hi)) (fun h => by omega)).mono ?_; rintro e w5 hpost
      obtain ⟨ad5, cp5, rfl, hcp5, hf⟩ : OneSlI O 0 w4 e w5 := by
        rcases hpost with ⟨-, hp⟩ | ⟨hlt, -⟩
        · rw [HBK.out] at hp; exact hp
        · omega
      rw [HLO.out] at hf hcp5 ⊢
      have F5 := F4.call hf
      clear hpost F4 hf
      go_wp2_with fail
      refine (good2b _ w5.heap.size _ rfl).mono ?_; rintro e w' ⟨rfl, rfl⟩
      replace F5 := F5.alloc (.cells #[.int .i64 0, .int .i64 0] 23)
      go_wp2_with fail
      refine (slEqual O O k k _ _ _ _ _ (F5.get 0 rfl) (F5.get 2 rfl) HLO.out HLO.out (by omega) (by omega)).mono ?_; rintro e w6 ⟨rfl, hf⟩
      rw [decide_eq_true rfl]
      replace F5 := F5.keep hf.bel
      clear hf
      go_wp2_with fail
      refine (slClone U un _ _ _ (F5.get 1 rfl) HUN.out (by omega)).mono ?_; rintro e w7 ⟨ad7, cp7, rfl, hcp7, hf⟩
      have F6 := F5.call hf
      clear hf F5
      go_wp2_with fail
      refine (slCompactOwn U un cp7 ad7 _ F6 (by omega)).mono ?_; rintro e w8 ⟨rfl, hf⟩
      rw [compact_same U (fun i h0 hi => HSU.out i h0 hi), HUN.out]
      have HF7 := Lib.hid hf
      clear F6 hf
      go_wp2_with fail
      go_ret
      exact ⟨by simp, HF7.out.bel⟩
theorem partsGlaisher_row (a : Option Addr) (len cap : Nat) (z : List Int) (w : World) (h : IsRow .i64 w a len cap z) :
    Calls Try.prog 10 #[.slice a len cap] w fun e w' => e = .returned (.bool true) ∧ Below w.heap.size w w' :=
  partsGlaisher_any (z.take len) len a cap w h.sa.1 h.sa.2.1 h.cap h.sa.2.2.1
end Go.Proofs.Ytdabgibmbmhmdaa
