/- Contract of castkeep.SumOf: a falling list of numbers from 1 to 12 that are 40 or less together. -/
import Derived.Test.YtdabgibmbmhmdaaSrtN
import Derived.Test.YtdabgibmbmhmdaaPartM2
namespace Go.Proofs.Ytdabgibmbmhmdaa
open Go.RowKit

def sofStep (s : List Int × Int) (x : Int) : List Int × Int := if s.2 = 0 then s else (s.1 ++ [1 + x % min s.2 12], s.2 - (1 + x % min s.2 12))
def sofS (l : List Int) : List Int × Int := l.foldl sofStep ([], 40)
theorem sofS_snoc (l : List Int) (x : Int) : sofS (l ++ [x]) = sofStep (sofS l) x := by simp [sofS]
structure SofOk (s : List Int × Int) (k : Nat) : Prop where
  mem : ∀ x ∈ s.1, 1 ≤ x ∧ x ≤ 12
  lft : 0 ≤ s.2
  sum : sumI s.1 + s.2 = 40
  len : s.1.length ≤ k
theorem sofStep_ok {s : List Int × Int} {k : Nat} (h : SofOk s k) (x : Int) : SofOk (sofStep s x) (k + 1) := by
  unfold sofStep
  split
  · exact ⟨h.mem, h.lft, h.sum, by have := h.len; omega⟩
  · next h0 =>
    have hl := h.lft
    have e1 := Int.emod_nonneg x (b := min s.2 12) (by omega)
    have e2 := Int.emod_lt_of_pos x (b := min s.2 12) (by omega)
    refine ⟨fun y hy => ?_, by simp only; omega, ?_, by simp; exact h.len⟩
    · rcases List.mem_append.1 hy with hy | hy
      · exact h.mem y hy
      · rw [List.mem_singleton] at hy; omega
    · have := h.sum
      simp only [sumI_snoc]; omega
theorem sofS_ok (l : List Int) : ∀ k, k ≤ l.length → SofOk (sofS (l.take k)) k
  | 0, _ => ⟨by simp [sofS], by simp [sofS], by simp [sofS, sumI], by simp [sofS]⟩
  | k + 1, h => by
    rw [take_nth l k (by omega), sofS_snoc]
    exact sofStep_ok (sofS_ok l k (by omega)) _
theorem sofS_end (l : List Int) (k : Nat) (h : (sofS (l.take k)).2 = 0) : ∀ d, k + d ≤ l.length → sofS (l.take (k + d)) = sofS (l.take k)
  | 0, _ => rfl
  | d + 1, hd => by
    rw [show k + (d + 1) = k + d + 1 from by omega, take_nth l (k + d) (by omega), sofS_snoc, sofS_end l k h d (by omega)]
    unfold sofStep
    rw [if_pos h]
def sofR (l : List Int) (m : Nat) : List Int := (srtI (sofS (l.take m)).1).reverse
theorem sofR_len (l : List Int) (m : Nat) : (sofR l m).length = (sofS (l.take m)).1.length := by unfold sofR; rw [List.length_reverse, srtI_len]
theorem nth_reverse (l : List Int) (i : Nat) (h : i < l.length) : nth l.reverse i = nth l (l.length - 1 - i) := by
  unfold nth
  rw [List.getD_eq_getElem?_getD, List.getD_eq_getElem?_getD, List.getElem?_reverse h]
theorem sofR_ok (l : List Int) (m : Nat) (h : m ≤ l.length) : PartOk (sofR l m) ∧ sumI (sofR l m) ≤ 40 ∧ (sofR l m).length ≤ m := by
  have H := sofS_ok l m h
  have hp : (sofR l m).Perm (sofS (l.take m)).1 := (List.reverse_perm _).trans (srtI_perm _)
  have hs := sumI_perm hp
  have := H.sum; have := H.lft
  refine ⟨partOk_of (fun x hx => ?_) (fun i hi => ?_) (by omega), by omega, by rw [sofR_len]; exact H.len⟩
  · have := H.mem x (hp.mem_iff.1 hx); omega
  · unfold sofR at hi ⊢
    rw [List.length_reverse] at hi
    rw [nth_reverse _ _ (by omega), nth_reverse _ _ (by omega)]
    exact srtI_rise _ _ _ (by omega) (by omega)

def MadeS (l : List Int) (w : World) (e : Ending) (w' : World) : Prop :=
  ∃ (ad : Option Addr) (n cp : Nat), e = .returned (.slice ad n cp) ∧ l.length = n ∧ n ≤ cp ∧ Fr w w' [⟨3, .slice ad n cp, ints l⟩]
set_option maxRecDepth 100000 in
set_option maxHeartbeats 4000000 in
theorem sumOf_any (l : List Int) (n : Nat) (a : Option Addr) (cap : Nat) (t : Nat) (w : World) (h : Sa w a (ints l)) (hn : l.length = n) (hc : n ≤ cap) (hm : n ≤ maxLen) (ht : t ≤ 1000) :
    Calls Try.prog 43 #[.slice a n cap, .int .i64 t] w (MadeS (sofR l (min n t)) w) := by
  unfold maxLen at hm
  obtain ⟨m, m1, m2, m3⟩ : ∃ m : Nat, m ≤ n ∧ (m : Int) ≤ (t : Int) ∧ (m = n ∨ (m : Int) = (t : Int)) := ⟨min n t, by omega, by omega, by omega⟩
  have HMIN := Lib.hid (run_min2 #[3, 3] 3 n t m m1 m2 m3)
  have HN := Lib.hid hn; have HS := Lib.hid h
  rw [show min n t = m from by omega]
  have HB := Lib.hid (sofS_ok l)
  have mt : m ≤ 1000 := by omega
  clear hn h m3
  have b1 : (m : Int) ≤ (cap : Int) := by omega
  have EN : ∀ (k : Nat) (ad : Option Addr) (cp c : Nat) (wr : World), Fr w wr [⟨3, .slice ad c cp, ints (sofS (l.take m)).1⟩] → c ≤ m →
      Calls Try.prog 50 #[.slice ad c cp] wr fun e w' => e = .returned (.tuple #[]) ∧ Fr w w' [⟨3, .slice ad c cp, ints (srtI (sofS (l.take m)).1)⟩] := fun k ad cp c wr hF hc => slSortAll _ c cp ad wr hF (by omega)
  have HEN := Lib.hid EN; clear EN
  go_enter Try.func43, Try.ntmps43
  have hmin := HMIN.out
  go_wp2_with fail
  clear hmin
  go_loopw [5, 6, 16] (fun o q i wr => ∃ (k c : Nat) (ad : Option Addr) (cp : Nat), k ≤ m ∧ i = .int .i64 k ∧ o = .slice ad c cp ∧ q = .int .i64 (sofS (l.take k)).2 ∧ (sofS (l.take k)).1.length = c ∧ Fr w wr [⟨3, .slice ad c cp, ints (sofS (l.take k)).1⟩]) (fun _ _ i _ => m - (intOf i).toNat)
  case atStart => exact ⟨0, 0, none, 0, by omega, rfl, rfl, rfl, rfl, (Fr.start w).nilSlice _⟩
  case round =>
    obtain ⟨k, c, ad, cp, hk, rfl, rfl, rfl, hlen, hfr⟩ := hrel
    have B := HB.out k (by rw [HN.out]; omega)
    have ck : c ≤ k := by rw [← hlen]; exact B.len
    have q0 := B.lft
    have q1 : (sofS (l.take k)).2 ≤ 40 := by
      have := B.sum
      have := sumI_nn _ (fun x hx => by have := B.mem x hx; omega)
      omega
    have HL := Lib.hid hlen
    clear hlen B
    by_cases hlt : k < m
    · by_cases hq : (sofS (l.take k)).2 = 0
      · have he := sofS_end l k hq (m - k) (by rw [HN.out]; omega)
        rw [show k + (m - k) = m from by omega] at he
        rw [← he] at hfr HL
        rw [hq]
        clear hq he q0 q1
        have F := Lib.hid hfr
        have hcall := HEN.out k ad cp c wr hfr (by omega)
        obtain ⟨b, off, rfl, hb, hc⟩ := (hfr.old HS.out).int k (by rw [HN.out]; omega)
        have d1 : (0 : Int) ≤ (k : Int) := by omega
        have d2 : (k : Int) < (m : Int) := by omega
        generalize nth l k = x at hc
        clear hfr
        go_wp2_with (go_at_call 50; refine hcall.mono ?_; rintro e w2 ⟨rfl, F2⟩)
        refine (slReverseAll _ c cp ad [] _ F2 (by omega)).mono ?_; rintro e w3 ⟨rfl, F3⟩
        go_wp2_with fail
        go_ret
        exact ⟨ad, c, cp, rfl, by rw [sofR_len, HL.out], F3.cap, F3⟩
      · obtain ⟨b, off, rfl, hb, hc⟩ := (hfr.old HS.out).int k (by rw [HN.out]; omega)
        have hs : sofS (l.take (k + 1)) = sofStep (sofS (l.take k)) (nth l k) := by rw [take_nth l k (by rw [HN.out]; omega), sofS_snoc]
        unfold sofStep at hs
        rw [if_neg hq] at hs
        have Hs := Lib.hid hs
        clear hs
        obtain ⟨x, hx⟩ : ∃ x, nth l k = x := ⟨_, rfl⟩
        rw [hx] at hc Hs
        obtain ⟨q, hq'⟩ : ∃ q, (sofS (l.take k)).2 = q := ⟨_, rfl⟩
        rw [hq'] at Hs hq q0 q1 ⊢
        obtain ⟨z, hz⟩ : ∃ z, min q 12 = z := ⟨_, rfl⟩
        rw [hz] at Hs
        have hz1 : 1 ≤ z := by omega
        have hz2 : z ≤ 12 := by omega
        have hz3 : z ≤ q := by omega
        obtain ⟨Q, hQ⟩ : ∃ Q : Nat, q = Q := ⟨q.toNat, by omega⟩
        obtain ⟨Z, hZ⟩ : ∃ Z : Nat, z = Z := ⟨z.toNat, by omega⟩
        subst hQ; subst hZ
        have HMIN2 := Lib.hid (run_min2 #[3, 3] 3 Q 12 Z (by omega) (by omega) (by omega))
        generalize (sofS (l.take k)).1 = o at *
        clear hx hq' hz
        have HF := Lib.hid hfr
        clear hfr
        have d1 : (0 : Int) ≤ (k : Int) := by omega
        have d2 : (k : Int) < (m : Int) := by omega
        have e1 := Int.emod_nonneg x (b := (Z : Int)) (by omega)
        have e2 := Int.emod_lt_of_pos x (b := (Z : Int)) (by omega)
        obtain ⟨y, hy⟩ : ∃ y, x % (Z : Int) = y := ⟨_, rfl⟩
        rw [hy] at e1 e2 Hs
        have HY := Lib.hid hy
        clear hy
        have hmin := HMIN2.out
        go_wp2_with (first
          | (go_at_call 27; refine (within_any _ _ _ (by omega) (by omega)).mono ?_; rintro e w' ⟨rfl, rfl⟩; rw [HY.out]; clear hmin)
          | (with_reducible refine at_slot 30 ?_; go_must (refine wpList_pushInt rfl _ _ rfl ad c cp _ (1 + y) _ rfl HF.out rfl ?_ ?_); rotate_left; intro ad' cp' w2 hf2 hlt2))
        · refine ⟨⟨k + 1, c + 1, ad', cp', by omega, by simp, rfl, by rw [Hs.out], by rw [Hs.out]; simp [HL.out], by rw [Hs.out]; exact hf2⟩, by simp only [intOf]; omega⟩
        · omega
    · obtain rfl : k = m := by omega
      have hcall := HEN.out k ad cp c wr hfr (by omega)
      clear q0 q1
      generalize (sofS (l.take k)).2 = q
      go_wp2_with (go_at_call 50; refine hcall.mono ?_; rintro e w2 ⟨rfl, F2⟩)
      refine (slReverseAll _ c cp ad [] _ F2 (by omega)).mono ?_; rintro e w3 ⟨rfl, F3⟩
      go_wp2_with fail
      go_ret
      exact ⟨ad, c, cp, rfl, by rw [sofR_len, HL.out], F3.cap, F3⟩
end Go.Proofs.Ytdabgibmbmhmdaa
