/- Several of my texts in one: SlFn. -/
import Derived.Test.YtooghdnlaonkaaaPw02
import Derived.RegionTactic
import Derived.ChangeAlike
/- Contracts of slices.Clone and slices.Reverse over ints. -/
namespace Go.Proofs.Ytooghdnlaonkaaa
open Go.RowKit

def OneV (l : List Int) (n : Nat) (w : World) (e : Ending) (w' : World) : Prop :=
  ∃ (ad : Option Addr) (cp : Nat), e = .returned (.slice ad n cp) ∧ n ≤ cp ∧ Fr w w' [⟨3, .slice ad n cp, ints l⟩]

set_option maxRecDepth 100000 in
set_option maxHeartbeats 1000000 in
theorem slClone (l : List Int) (n : Nat) (a : Option Addr) (cap : Nat) (w : World) (h : Sa w a (ints l)) (hn : l.length = n) (hl : n ≤ 900000) :
    Calls Try.prog 24 #[.slice a n cap] w (OneV l n w) := by
  cases a with
  | none =>
    have h0 : n = 0 := by
      rcases Nat.eq_zero_or_pos n with h1 | h1
      · exact h1
      · obtain ⟨b, off, e, _⟩ := h (by rw [ints_len]; omega)
        cases e
    subst h0
    have hl0 := List.eq_nil_of_length_eq_zero hn
    subst hl0
    clear hn h
    have heq : ∀ w, Sem.run Try.prog (binOp .eql 32 (.slice none 0 cap) (.slice none 0 0)) w = .ok (.bool true) w := fun w => Lib.run_eql_slice_nil w 32 3 none 0 cap 0 0 Try.underlying32
    go_enter Try.func24, Try.ntmps24
    go_wp2_with fail
    go_ret
    exact ⟨_, _, rfl, by omega, (Fr.start w).nilSlice _⟩
  | some ad =>
    have HN := Lib.hid (show (ints l).length = n from by rw [ints_len, hn])
    have HS := Lib.hid (h.alloc (.cells #[] 3))
    have HF := Lib.hid ((Fr.start w).lit [] #[] rfl 0 rfl (by omega) 3)
    clear hn h
    have heq : ∀ w, Sem.run Try.prog (binOp .eql 32 (.slice (some ad) n cap) (.slice none 0 0)) w = .ok (.bool false) w := fun w => Lib.run_eql_slice_nil w 32 3 (some ad) n cap 0 0 Try.underlying32
    go_enter Try.func24, Try.ntmps24
    go_wp2_with (with_reducible refine at_slot 7 ?_; go_must (refine wpList_pushAll rfl (.tmp 5) (.tmp 6) 32 3 (.int .i64 0) 8 Try.underlying32 intInfo rfl (by omega) rfl _ (some ad) 0 0 n cap (ints []) (ints l) [] rfl HF.out rfl HS.out HN.out (fun e => by cases e) (ints_one l) (by omega) ?_); intro ad2 cp2 w2 hf2 hsz2)
    go_ret
    rw [Nat.zero_add] at hf2
    exact ⟨ad2, cp2, rfl, hf2.cap, hf2⟩

/-! Reverse -/
def revPart (off m t : Nat) (l : List Int) : List Int :=
  (List.range l.length).map fun p => if off ≤ p ∧ p < off + m ∧ (p < off + t ∨ off + m ≤ p + t) then nth l (off + off + m - 1 - p) else nth l p
def revSeg (off m : Nat) (l : List Int) : List Int := (List.range l.length).map fun p => if off ≤ p ∧ p < off + m then nth l (off + off + m - 1 - p) else nth l p
theorem nth_rangeMap (n : Nat) (f : Nat → Int) (p : Nat) (h : p < n) : nth ((List.range n).map f) p = f p := by simp [nth, h]
theorem revPart_len (off m t : Nat) (l : List Int) : (revPart off m t l).length = l.length := by simp [revPart]
theorem revSeg_len (off m : Nat) (l : List Int) : (revSeg off m l).length = l.length := by simp [revSeg]
theorem revSeg_nth (off m : Nat) (l : List Int) (p : Nat) (h : p < l.length) : nth (revSeg off m l) p = if off ≤ p ∧ p < off + m then nth l (off + off + m - 1 - p) else nth l p := nth_rangeMap _ _ _ h
theorem revPart_nth (off m t : Nat) (l : List Int) (p : Nat) (h : p < l.length) : nth (revPart off m t l) p = if off ≤ p ∧ p < off + m ∧ (p < off + t ∨ off + m ≤ p + t) then nth l (off + off + m - 1 - p) else nth l p := nth_rangeMap _ _ _ h
theorem revPart_zero (off m : Nat) (l : List Int) : revPart off m 0 l = l := by
  refine ext_nth (revPart_len _ _ _ _) (fun p hp => ?_)
  rw [revPart_len] at hp
  rw [revPart_nth _ _ _ _ _ hp, if_neg (by omega)]
theorem revPart_done (off m t : Nat) (l : List Int) (h : m ≤ 2 * t + 1) : revPart off m t l = revSeg off m l := by
  refine ext_nth (by rw [revPart_len, revSeg_len]) (fun p hp => ?_)
  rw [revPart_len] at hp
  rw [revPart_nth _ _ _ _ _ hp, revSeg_nth _ _ _ _ hp]
  by_cases h1 : off ≤ p ∧ p < off + m
  · rw [if_pos h1]
    by_cases h2 : p < off + t ∨ off + m ≤ p + t
    · rw [if_pos ⟨h1.1, h1.2, h2⟩]
    · rw [if_neg (fun h3 => h2 h3.2.2)]
      congr 1
      omega
  · rw [if_neg h1, if_neg (fun h3 => h1 ⟨h3.1, h3.2.1⟩)]
theorem revPart_step (off m t : Nat) (l : List Int) (h : off + m ≤ l.length) (ht : 2 * t + 1 < m) :
    ((revPart off m t l).set (off + t) (nth (revPart off m t l) (off + (m - 1 - t)))).set (off + (m - 1 - t)) (nth (revPart off m t l) (off + t)) = revPart off m (t + 1) l := by
  refine ext_nth (by simp [revPart_len]) (fun p hp => ?_)
  rw [List.length_set, List.length_set, revPart_len] at hp
  rw [nth_set _ _ _ _ (by rw [List.length_set, revPart_len]; omega), nth_set _ _ _ _ (by rw [revPart_len]; omega)]
  rw [revPart_nth off m t l _ (by omega : off + t < l.length), revPart_nth off m t l _ (by omega : off + (m - 1 - t) < l.length), revPart_nth off m t l p hp, revPart_nth off m (t + 1) l p hp]
  rw [if_neg (show ¬(off ≤ off + t ∧ off + t < off + m ∧ (off + t < off + t ∨ off + m ≤ off + t + t)) by omega), if_neg (show ¬(off ≤ off + (m - 1 - t) ∧ off + (m - 1 - t) < off + m ∧ (off + (m - 1 - t) < off + t ∨ off + m ≤ off + (m - 1 - t) + t)) by omega)]
  by_cases e1 : p = off + (m - 1 - t)
  · rw [if_pos e1, if_pos (by omega)]
    congr 1; omega
  · rw [if_neg e1]
    by_cases e2 : p = off + t
    · rw [if_pos e2, if_pos (by omega)]
      congr 1; omega
    · rw [if_neg e2]
      by_cases e3 : off ≤ p ∧ p < off + m ∧ (p < off + t ∨ off + m ≤ p + t)
      · rw [if_pos e3, if_pos (by omega)]
      · rw [if_neg e3, if_neg (by omega)]
theorem revSeg_all (l : List Int) : revSeg 0 l.length l = l.reverse := by
  refine ext_nth (by rw [revSeg_len, List.length_reverse]) (fun p hp => ?_)
  rw [revSeg_len] at hp
  rw [revSeg_nth _ _ _ _ hp, if_pos ⟨by omega, by omega⟩]
  unfold nth
  rw [List.getD_eq_getElem?_getD, List.getD_eq_getElem?_getD, List.getElem?_reverse (by omega)]
  congr 2; omega

set_option maxHeartbeats 2000000 in
theorem slReverse {w0 : World} (l : List Int) (n cap : Nat) (g off m cap' : Nat) (L : List Ent) (w : World) (hF : Fr w0 w (⟨3, .slice (some ⟨g, 0, none⟩) n cap, ints l⟩ :: L)) (hm : off + m ≤ l.length) (hl : m ≤ 1000000) :
    Calls Try.prog 100 #[.slice (some ⟨g, off, none⟩) m cap'] w fun e w' => e = .returned (.tuple #[]) ∧ Fr w0 w' (⟨3, .slice (some ⟨g, 0, none⟩) n cap, ints (revSeg off m l)⟩ :: L) := by
  have HF := Lib.hid hF; have HM := Lib.hid hm
  clear hF hm
  go_enter Try.func100, Try.ntmps100
  go_wp2_with fail
  go_loopw [2, 3] (fun i j wr => ∃ t : Nat, (t = 0 ∨ 2 * t ≤ m + 1) ∧ i = .int .i64 t ∧ j = .int .i64 ((m : Int) - 1 - t) ∧ Fr w0 wr (⟨3, .slice (some ⟨g, 0, none⟩) n cap, ints (revPart off m t l)⟩ :: L)) (fun i _ _ => m - (intOf i).toNat)
  case atStart => exact ⟨0, .inl rfl, rfl, by simp, by rw [revPart_zero]; exact HF.out⟩
  case round =>
    obtain ⟨t, ht, rfl, rfl, hfr⟩ := hrel
    clear HF
    by_cases hlt : 2 * t + 1 < m
    · obtain ⟨k, hk⟩ : ∃ k : Nat, k = m - 1 - t := ⟨_, rfl⟩
      rw [show (m : Int) - 1 - (t : Int) = (k : Int) from by omega]
      obtain ⟨g', e, _, _, hc, hz⟩ := hfr.open (by rw [ints_len, revPart_len]; have := HM.out; omega)
      cases e
      have hst := revPart_step off m t l HM.out hlt
      rw [← hk] at hst
      have l1 : off + t < (revPart off m t l).length := by rw [revPart_len]; have := HM.out; omega
      have l2 : off + k < (revPart off m t l).length := by rw [revPart_len]; have := HM.out; omega
      have c1 := hc (off + t) (by rw [ints_len]; exact l1)
      have c2 := hc (off + k) (by rw [ints_len]; exact l2)
      rw [ints_get _ _ l1] at c1
      rw [ints_get _ _ l2] at c2
      have z1 := hz (off + t)
      have z2 := hz (off + k)
      have HST := Lib.hid hst
      have HFR := Lib.hid hfr
      have tk : t < k := by omega
      have km : k < m := by omega
      have HK := Lib.hid hk
      clear hc hz hst l1 l2 hfr hk ht
      obtain ⟨x, hx⟩ : ∃ x, nth (revPart off m t l) (off + t) = x := ⟨_, rfl⟩
      obtain ⟨y, hy⟩ : ∃ y, nth (revPart off m t l) (off + k) = y := ⟨_, rfl⟩
      rw [hx] at c1
      rw [hy] at c2
      have HX := Lib.hid hx; have HY := Lib.hid hy
      clear hx hy
      have d1 : (0 : Int) ≤ (t : Int) := by omega
      have d2 : (t : Int) < (m : Int) := by omega
      have d3 : (0 : Int) ≤ (k : Int) := by omega
      have d4 : (k : Int) < (m : Int) := by omega
      have d5 : (t : Int) < (k : Int) := by omega
      go_wp2_with fail
      go_region
      go_wp2_with fail
      have F1 := (HFR.out.setInt (off + t) y)
      have F2 := (F1.setInt (off + k) x).drew
      rw [← HX.out, ← HY.out, HST.out] at F2
      rw [HX.out, HY.out] at F2
      refine ⟨⟨t + 1, .inr (by omega), by simp, by rw [val_int]; have := HK.out; omega, F2⟩, by simp only [intOf]; omega⟩
    · have hd : decide ((t : Int) < (m : Int) - 1 - (t : Int)) = false := decide_eq_false (by omega)
      rw [revPart_done off m t l (by omega)] at hfr
      go_wp2_with fail
      go_end0
      exact ⟨rfl, hfr⟩
end Go.Proofs.Ytooghdnlaonkaaa
