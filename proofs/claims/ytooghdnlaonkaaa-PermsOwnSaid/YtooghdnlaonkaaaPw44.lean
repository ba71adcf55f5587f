/- Several of my texts in one: DPerm2. -/
import Derived.Test.YtooghdnlaonkaaaPw24
import Derived.Test.YtooghdnlaonkaaaPw07
import Derived.Test.YtooghdnlaonkaaaPw28
import Derived.Test.YtooghdnlaonkaaaPw14
import Derived.Test.YtooghdnlaonkaaaPw32
import Derived.Test.YtooghdnlaonkaaaPw36
import Derived.Test.YtooghdnlaonkaaaPw39
import Derived.Test.YtooghdnlaonkaaaPw40
import Derived.Test.YtooghdnlaonkaaaPw43
/- The fourteen functions of PermsOwn and perm.Times at any input (printed by genpo.py). -/
namespace Go.Proofs.Ytooghdnlaonkaaa
open Go.RowKit

def WkE (er : Int) (w : World) (e : Ending) (w' : World) : Prop := ∃ (R : List Int) (nr : Nat) (ar : Option Addr) (cr : Nat), e = .returned (.tuple #[.slice ar nr cr, .int .i64 er]) ∧ R.length = nr ∧ Fr w w' [⟨3, .slice ar nr cr, ints R⟩] ∧ ∀ x ∈ R, 0 ≤ x
def WkS (w : World) (e : Ending) (w' : World) : Prop := ∃ er, WkE er w e w'
def Wk (g : Nat) : Prop := ∀ (l : List Int) (n : Nat) (a : Option Addr) (cap : Nat) (w : World), Sa w a (ints l) → l.length = n → n ≤ cap → n ≤ maxLen → Calls Try.prog g #[.slice a n cap] w (WkS w)
theorem wkE_no {w w' : World} {e : Ending} (er : Int) (h : e = .returned (.tuple #[.slice none 0 0, .int .i64 er])) (hf : Fr w w' []) : WkE er w e w' := ⟨[], 0, none, 0, h, rfl, hf.nilSlice 3, by simp⟩
theorem wk_no {w w' : World} {e : Ending} (er : Int) (h : e = .returned (.tuple #[.slice none 0 0, .int .i64 er])) (hf : Fr w w' []) : WkS w e w' := ⟨er, wkE_no er h hf⟩
theorem pos_nth {l : List Int} (h : ∀ i, i < l.length → 0 ≤ nth l i) : ∀ x ∈ l, 0 ≤ x := fun x hx => by
  obtain ⟨i, hi, e⟩ := List.getElem_of_mem hx
  have := h i hi
  have e2 : nth l i = l[i] := by simp [nth, hi]
  omega
theorem isP_pos {p : List Int} (h : IsP p) : ∀ x ∈ p, 0 ≤ x := pos_nth fun i hi => (h.bd i hi).1
theorem pick_pos (may : Int → Int → Bool) (l : List Int) (A : List (List Int)) (hA : ∀ r ∈ A, ∀ x ∈ r, (0 : Int) ≤ x) (y : Int) : ∀ k, ∀ x ∈ pickK may l A y k, 0 ≤ x
  | 0 => fun x hx => by cases hx
  | k + 1 => fun x hx => by
    rw [pickK] at hx
    split at hx
    · unfold rowAt at hx
      rw [List.getD_eq_getElem?_getD] at hx
      cases hk : A[k]? with
      | none => rw [hk] at hx; simp at hx
      | some r => rw [hk] at hx; exact hA r (List.mem_of_getElem? hk) x hx
    · exact pick_pos may l A hA y k x hx
theorem rowsK_pos (may : Int → Int → Bool) (l : List Int) : ∀ i, ∀ r ∈ rowsK may l i, ∀ x ∈ r, (0 : Int) ≤ x
  | 0 => fun r hr => by cases hr
  | i + 1 => fun r hr x hx => by
    rw [rowsK] at hr
    rcases List.mem_append.1 hr with hr | hr
    · exact rowsK_pos may l i r hr x hx
    · rw [List.mem_singleton] at hr
      subst hr
      rcases List.mem_append.1 hx with hx | hx
      · exact pick_pos may l _ (rowsK_pos may l i) _ _ x hx
      · rw [List.mem_singleton] at hx; omega
theorem bestK_pos (may : Int → Int → Bool) (l : List Int) : ∀ n, ∀ x ∈ bestK may l n, (0 : Int) ≤ x
  | 0 => fun x hx => by cases hx
  | i + 1 => fun x hx => by
    rw [bestK] at hx
    split at hx
    · unfold rowAt at hx
      rw [List.getD_eq_getElem?_getD] at hx
      cases hk : (rowsK may l (i + 1))[i]? with
      | none => rw [hk] at hx; simp at hx
      | some r => rw [hk] at hx; exact rowsK_pos may l _ r (List.mem_of_getElem? hk) x hx
    · exact bestK_pos may l i x hx
theorem oK_pos (l : List Int) : ∀ i, ∀ x ∈ oK l i, (0 : Int) ≤ x
  | 0 => fun x hx => by cases hx
  | i + 1 => fun x hx => by
    rw [oK] at hx
    rcases List.mem_append.1 hx with hx | hx
    · exact oK_pos l i x hx
    · rw [List.mem_singleton] at hx; omega
theorem valB_pos : ∀ (l : List Int) (m : Int), valB m l → ∀ x ∈ l, 0 ≤ x
  | [], _, _ => fun x hx => by cases hx
  | y :: l, m, h => fun x hx => by
    obtain ⟨h1, h2, h3⟩ := h
    rcases List.mem_cons.1 hx with rfl | hx
    · exact h1
    · exact valB_pos l _ h3 x hx
theorem cycL_pos (out : List Nat) : ∀ x ∈ cycL out, (0 : Int) ≤ x := fun x hx => by
  have := (cycL_perm out).mem_iff.2 hx
  unfold natI at this
  obtain ⟨y, _, rfl⟩ := List.mem_map.1 this
  omega
theorem part_small {l : List Int} (h : PartOk l) : Small l := ⟨fun x hx => part_pos' h x hx, h.len⟩
set_option maxRecDepth 100000 in
set_option maxHeartbeats 1000000 in
theorem noInv (er : Int) (n : Nat) (a : Option Addr) (cap : Nat) (w : World) (her : er ≠ 0) (hc : Calls Try.prog 75 #[.slice a n cap] w fun e w' => e = .returned (.int .i64 er) ∧ Fr w w' []) :
    Calls Try.prog 50 #[.slice a n cap] w (WkS w) := by
  have HC := Lib.hid hc
  have g : (er == 0) = false := by simpa using her
  clear her hc
  go_enter Try.func50, Try.ntmps50
  go_wp2_with fail
  refine HC.out.mono ?_; rintro e w' ⟨rfl, hf⟩
  have HF := Lib.hid hf
  clear hf HC
  go_wp2_with fail
  go_ret2
  exact wk_no er rfl HF.out
set_option maxRecDepth 100000 in
set_option maxHeartbeats 1000000 in
theorem noCyc (er : Int) (n : Nat) (a : Option Addr) (cap : Nat) (w : World) (her : er ≠ 0) (hc : Calls Try.prog 75 #[.slice a n cap] w fun e w' => e = .returned (.int .i64 er) ∧ Fr w w' []) :
    Calls Try.prog 51 #[.slice a n cap] w (WkS w) := by
  have HC := Lib.hid hc
  have g : (er == 0) = false := by simpa using her
  clear her hc
  go_enter Try.func51, Try.ntmps51
  go_wp2_with fail
  refine HC.out.mono ?_; rintro e w' ⟨rfl, hf⟩
  have HF := Lib.hid hf
  clear hf HC
  go_wp2_with fail
  go_ret2
  exact wk_no er rfl HF.out
set_option maxRecDepth 100000 in
set_option maxHeartbeats 1000000 in
theorem noCode (er : Int) (n : Nat) (a : Option Addr) (cap : Nat) (w : World) (her : er ≠ 0) (hc : Calls Try.prog 75 #[.slice a n cap] w fun e w' => e = .returned (.int .i64 er) ∧ Fr w w' []) :
    Calls Try.prog 52 #[.slice a n cap] w (WkS w) := by
  have HC := Lib.hid hc
  have g : (er == 0) = false := by simpa using her
  clear her hc
  go_enter Try.func52, Try.ntmps52
  go_wp2_with fail
  refine HC.out.mono ?_; rintro e w' ⟨rfl, hf⟩
  have HF := Lib.hid hf
  clear hf HC
  go_wp2_with fail
  go_ret2
  exact wk_no er rfl HF.out
set_option maxRecDepth 100000 in
set_option maxHeartbeats 1000000 in
theorem noNxt (er : Int) (n : Nat) (a : Option Addr) (cap : Nat) (w : World) (her : er ≠ 0) (hc : Calls Try.prog 75 #[.slice a n cap] w fun e w' => e = .returned (.int .i64 er) ∧ Fr w w' []) :
    Calls Try.prog 53 #[.slice a n cap] w (WkS w) := by
  have HC := Lib.hid hc
  have g : (er == 0) = false := by simpa using her
  clear her hc
  go_enter Try.func53, Try.ntmps53
  go_wp2_with fail
  refine HC.out.mono ?_; rintro e w' ⟨rfl, hf⟩
  have HF := Lib.hid hf
  clear hf HC
  go_wp2_with fail
  go_ret2
  exact wk_no er rfl HF.out
set_option maxRecDepth 100000 in
set_option maxHeartbeats 1000000 in
theorem noLots (er : Int) (n : Nat) (a : Option Addr) (cap : Nat) (w : World) (her : er ≠ 0) (hc : Calls Try.prog 75 #[.slice a n cap] w fun e w' => e = .returned (.int .i64 er) ∧ Fr w w' []) :
    Calls Try.prog 54 #[.slice a n cap] w (WkS w) := by
  have HC := Lib.hid hc
  have g : (er == 0) = false := by simpa using her
  clear her hc
  go_enter Try.func54, Try.ntmps54
  go_wp2_with fail
  refine HC.out.mono ?_; rintro e w' ⟨rfl, hf⟩
  have HF := Lib.hid hf
  clear hf HC
  go_wp2_with fail
  go_ret2
  exact wk_no er rfl HF.out
set_option maxRecDepth 100000 in
set_option maxHeartbeats 1000000 in
theorem noDeal {Q : Prop} (n : Nat) (a : Option Addr) (cap : Nat) (w : World) (hq : ¬ Q) (hc : Calls Try.prog 101 #[.slice a n cap] w (ChkA Q w)) :
    Calls Try.prog 55 #[.slice a n cap] w (WkS w) := by
  have HC := Lib.hid hc; have HQ := Lib.hid hq
  have HF := Lib.hid (Fr.start w)
  clear hq hc
  go_enter Try.func55, Try.ntmps55
  go_wp2_with fail
  refine HC.out.mono ?_; rintro e w' ⟨er, rfl, her, rfl⟩
  have g : (er == 0) = false := by
    rw [beq_eq_false_iff_ne]
    exact fun h => HQ.out (her h)
  clear her HC HQ
  go_wp2_with fail
  go_ret2
  exact wk_no er rfl HF.out
set_option maxRecDepth 100000 in
set_option maxHeartbeats 1000000 in
theorem noBNxt {Q : Prop} (n : Nat) (a : Option Addr) (cap : Nat) (w : World) (hq : ¬ Q) (hc : Calls Try.prog 108 #[.slice a n cap] w (ChkA Q w)) :
    Calls Try.prog 60 #[.slice a n cap] w (WkS w) := by
  have HC := Lib.hid hc; have HQ := Lib.hid hq
  have HF := Lib.hid (Fr.start w)
  clear hq hc
  go_enter Try.func60, Try.ntmps60
  go_wp2_with fail
  refine HC.out.mono ?_; rintro e w' ⟨er, rfl, her, rfl⟩
  have g : (er == 0) = false := by
    rw [beq_eq_false_iff_ne]
    exact fun h => HQ.out (her h)
  clear her HC HQ
  go_wp2_with fail
  go_ret2
  exact wk_no er rfl HF.out
set_option maxRecDepth 100000 in
set_option maxHeartbeats 1000000 in
theorem noTurn {Q : Prop} (n : Nat) (a : Option Addr) (cap : Nat) (w : World) (hq : ¬ Q) (hc : Calls Try.prog 110 #[.slice a n cap] w (ChkA Q w)) :
    Calls Try.prog 61 #[.slice a n cap] w (WkS w) := by
  have HC := Lib.hid hc; have HQ := Lib.hid hq
  have HF := Lib.hid (Fr.start w)
  clear hq hc
  go_enter Try.func61, Try.ntmps61
  go_wp2_with fail
  refine HC.out.mono ?_; rintro e w' ⟨er, rfl, her, rfl⟩
  have g : (er == 0) = false := by
    rw [beq_eq_false_iff_ne]
    exact fun h => HQ.out (her h)
  clear her HC HQ
  go_wp2_with fail
  go_ret2
  exact wk_no er rfl HF.out
set_option maxRecDepth 100000 in
set_option maxHeartbeats 1000000 in
theorem noOdd {Q : Prop} (n : Nat) (a : Option Addr) (cap : Nat) (w : World) (hq : ¬ Q) (hc : Calls Try.prog 110 #[.slice a n cap] w (ChkA Q w)) :
    Calls Try.prog 62 #[.slice a n cap] w (WkS w) := by
  have HC := Lib.hid hc; have HQ := Lib.hid hq
  have HF := Lib.hid (Fr.start w)
  clear hq hc
  go_enter Try.func62, Try.ntmps62
  go_wp2_with fail
  refine HC.out.mono ?_; rintro e w' ⟨er, rfl, her, rfl⟩
  have g : (er == 0) = false := by
    rw [beq_eq_false_iff_ne]
    exact fun h => HQ.out (her h)
  clear her HC HQ
  go_wp2_with fail
  go_ret2
  exact wk_no er rfl HF.out
set_option maxRecDepth 100000 in
set_option maxHeartbeats 1000000 in
theorem noUnl {Q : Prop} (n : Nat) (a : Option Addr) (cap : Nat) (w : World) (hq : ¬ Q) (hc : Calls Try.prog 110 #[.slice a n cap] w (ChkA Q w)) :
    Calls Try.prog 63 #[.slice a n cap] w (WkS w) := by
  have HC := Lib.hid hc; have HQ := Lib.hid hq
  have HF := Lib.hid (Fr.start w)
  clear hq hc
  go_enter Try.func63, Try.ntmps63
  go_wp2_with fail
  refine HC.out.mono ?_; rintro e w' ⟨er, rfl, her, rfl⟩
  have g : (er == 0) = false := by
    rw [beq_eq_false_iff_ne]
    exact fun h => HQ.out (her h)
  clear her HC HQ
  go_wp2_with fail
  go_ret2
  exact wk_no er rfl HF.out
theorem wkInv : Wk 50 := fun l n a cap w h hn hc hm => by
  by_cases h0 : chkP l = 0
  · obtain ⟨h10, hp⟩ := chkP_ok h0
    rw [hn] at h10
    exact (permInv l n a cap w h hn hp h10).mono fun e w' ⟨ad, cp, h1, _, h2⟩ => ⟨0, invL l, n, ad, cp, h1, by rw [invL_len, hn], h2, isP_pos (inv_isP hp)⟩
  · exact noInv _ n a cap w h0 (permChkA l n a cap w h hn hm)
theorem wkCyc : Wk 51 := fun l n a cap w h hn hc hm => by
  by_cases h0 : chkP l = 0
  · obtain ⟨h10, hp⟩ := chkP_ok h0
    rw [hn] at h10
    exact (cycles_any l n a cap w h hn hp h10).mono fun e w' ⟨ad, cp, out, h1, _, h2⟩ => ⟨0, cycL out, _, ad, cp, h1, cycL_len out, h2, cycL_pos out⟩
  · exact noCyc _ n a cap w h0 (permChkA l n a cap w h hn hm)
theorem wkCode : Wk 52 := fun l n a cap w h hn hc hm => by
  by_cases h0 : chkP l = 0
  · obtain ⟨h10, hp⟩ := chkP_ok h0
    rw [hn] at h10
    exact (rankCode l n a cap w h hn hp h10 hc).mono fun e w' ⟨ad, cp, h1, _, h2⟩ => ⟨0, codeL l, n, ad, cp, h1, by rw [codeL_len, hn], h2, pos_nth fun i hi => (codeL_bd l i (by rwa [codeL_len] at hi)).1⟩
  · exact noCode _ n a cap w h0 (permChkA l n a cap w h hn hm)
theorem wkNxt : Wk 53 := fun l n a cap w h hn hc hm => by
  by_cases h0 : chkP l = 0
  · obtain ⟨h10, hp⟩ := chkP_ok h0
    rw [hn] at h10
    refine (rankNext l n a cap w h hn hp h10).mono fun e w' hr => ?_
    rcases hr with ⟨_, h1, h2⟩ | ⟨q, i, ad, cp, h0, h1, _, h2⟩
    · exact wk_no 4 h1 h2
    · exact ⟨0, q, n, ad, cp, h1, by rw [h0.len, hn], h2, isP_pos h0.isP⟩
  · exact noNxt _ n a cap w h0 (permChkA l n a cap w h hn hm)
theorem wkLots : Wk 54 := fun l n a cap w h hn hc hm => by
  by_cases h0 : chkP l = 0
  · obtain ⟨h10, hp⟩ := chkP_ok h0
    rw [hn] at h10
    exact (shLots l n a cap w h hn hp h10).mono fun e w' ⟨ad, cp, h1, _, h2⟩ => ⟨0, lotsD n l, n, ad, cp, h1, lotsD_len n l, h2, pos_nth fun i hi => (lotsD_ok n l hn hp i hi).1⟩
  · exact noLots _ n a cap w h0 (permChkA l n a cap w h hn hm)
theorem wkDeal : Wk 55 := fun l n a cap w h hn hc hm => by
  by_cases hq : LotOk l ∧ n ≤ 10
  · obtain ⟨hp, h10⟩ := hq
    obtain ⟨d1, d2⟩ := dealL_ok l hp
    exact (shDeal l n a cap w h hn hp h10).mono fun e w' ⟨ad, cp, h1, _, h2⟩ => ⟨0, dealL l, n, ad, cp, h1, by rw [d1, hn], h2, isP_pos d2⟩
  · exact noDeal n a cap w hq (shChkA l n a cap w h hn hm)
theorem wkUp : Wk 56 := fun l n a cap w h hn hc hm => by
  by_cases h30 : n ≤ 30
  · exact (lin_up l n a cap w h hn h30 hc).mono fun e w' ⟨ad, cp, h1, _, h2⟩ => ⟨0, _, _, ad, cp, h1, rfl, h2, bestK_pos _ _ _⟩
  · exact (lin_up_no n a cap w (by omega)).mono fun e w' ⟨h1, h2⟩ => wk_no 2 h1 (by subst h2; exact Fr.start w)
theorem wkDown : Wk 57 := fun l n a cap w h hn hc hm => by
  by_cases h30 : n ≤ 30
  · exact (lin_down l n a cap w h hn h30 hc).mono fun e w' ⟨ad, cp, h1, _, h2⟩ => ⟨0, _, _, ad, cp, h1, rfl, h2, bestK_pos _ _ _⟩
  · exact (lin_down_no n a cap w (by omega)).mono fun e w' ⟨h1, h2⟩ => wk_no 2 h1 (by subst h2; exact Fr.start w)
theorem wkSplit : Wk 58 := fun l n a cap w h hn hc hm => by
  by_cases h30 : n ≤ 30
  · exact (lin_split l n a cap w h hn h30).mono fun e w' ⟨ad, cp, h1, _, h2⟩ => ⟨0, _, _, ad, cp, h1, oK_len l n, h2, oK_pos l n⟩
  · exact (lin_split_no n a cap w (by omega)).mono fun e w' ⟨h1, h2⟩ => wk_no 2 h1 (by subst h2; exact Fr.start w)
set_option maxRecDepth 100000 in
set_option maxHeartbeats 1000000 in
theorem noBOf (n : Nat) (a : Option Addr) (cap : Nat) (w : World) (hl : 10 < n) (hm : n ≤ maxLen) : Calls Try.prog 59 #[.slice a n cap] w (WkS w) := by
  unfold maxLen at hm
  have HF := Lib.hid (Fr.start w)
  have g : decide ((10 : Int) < (n : Int)) = true := decide_eq_true (by omega)
  go_enter Try.func59, Try.ntmps59
  go_wp2_with fail
  go_ret2
  exact wk_no 2 rfl HF.out
theorem wkBOf : Wk 59 := fun l n a cap w h hn hc hm => by
  by_cases h10 : n ≤ 10
  · refine (blkOf_any l _ w (h.sl' n cap hn) (by omega)).mono ?_
    rintro e w' ⟨v, rfl, ho, hb⟩
    have hf : Fr w w' [⟨3, v, ints (ofRun l).2⟩] := by
      refine ⟨hb, ⟨fun e he => ?_, List.pairwise_singleton _ _⟩⟩
      simp only [List.mem_singleton] at he
      subst he
      unfold Ent.own
      rw [ints_len]
      exact ho
    obtain ⟨ad, cp, rfl⟩ := hf.isSlice
    exact ⟨0, (ofRun l).2, _, ad, cp, rfl, by rw [ints_len], hf, pos_nth fun i hi => (ofRun_grows l (by omega) i hi).1⟩
  · exact noBOf n a cap w (by omega) hm
theorem wkBNxt : Wk 60 := fun l n a cap w h hn hc hm => by
  by_cases hq : GrowsOk l ∧ n ≤ 10
  · obtain ⟨hg, h10⟩ := hq
    have hv : valB (-1) l := valB_of_grows l [] hg
    refine (blkNext l n a cap w h hn h10 hc hg).mono fun e w' hr => ?_
    rcases hr with ⟨_, h1, h2⟩ | ⟨s, ad, cp, h0, h1, _, h2⟩
    · exact wk_no 4 h1 h2
    · exact ⟨0, s, n, ad, cp, h1, by rw [nxtB_len _ _ _ h0, hn], h2, valB_pos s _ ((nxtB_says l l (-1) (by omega) hv hv rfl).2 s h0).1⟩
  · exact noBNxt n a cap w hq (blkChkA l n a cap w h hn hm)
theorem wkTurn : Wk 61 := fun l n a cap w h hn hc hm => by
  by_cases hq : PartOk l
  · have hb := (trn_bd l hq l.length (Nat.le_refl _)).2
    rw [List.take_length] at hb
    exact (partTurned l n a cap w h hn hq).mono fun e w' ⟨ad, cp, h1, _, h2⟩ => ⟨0, trn l, _, ad, cp, h1, rfl, h2, pos_nth fun i hi => (hb i hi).1⟩
  · exact noTurn n a cap w hq (partChkA l n a cap w h hn hm)
theorem first_eq (l : List Int) : ∀ n, n ≤ l.length → ∃ m, m ≤ n ∧ (∀ i, 0 < i → i < m → nth l i ≠ nth l (i - 1)) ∧ (m < n → 0 < m ∧ nth l m = nth l (m - 1))
  | 0, _ => ⟨0, by omega, fun i h h' => by omega, fun h => by omega⟩
  | n + 1, hn => by
    obtain ⟨m, h1, h2, h3⟩ := first_eq l n (by omega)
    by_cases e : m = n
    · subst e
      by_cases h0 : m = 0
      · exact ⟨1, by omega, fun i h h' => by omega, fun h => by omega⟩
      · by_cases h4 : nth l m = nth l (m - 1)
        · exact ⟨m, by omega, h2, fun _ => ⟨by omega, h4⟩⟩
        · refine ⟨m + 1, by omega, fun i hi hi' => ?_, fun h => by omega⟩
          rcases Nat.lt_succ_iff_lt_or_eq.1 hi' with h | rfl
          · exact h2 i hi h
          · exact h4
    · exact ⟨m, by omega, h2, fun _ => h3 (by omega)⟩
theorem wkOdd : Wk 62 := fun l n a cap w h hn hc hm => by
  by_cases hq : PartOk l
  · obtain ⟨m, m1, m2, m3⟩ := first_eq l n (by omega)
    refine (partOdd sortOdd l n m a cap w h hn hq m1 m2 m3).mono fun e w' hr => ?_
    rcases hr with ⟨_, ad, cp, h1, _, h2⟩ | ⟨_, h1, h2⟩
    · exact ⟨0, desc (oddRaw l), _, ad, cp, h1, rfl, h2, fun x hx => by
        have := (oddRaw_odd (part_pos' hq) x ((desc_perm _).mem_iff.1 hx)).1
        omega⟩
    · exact wk_no 3 h1 h2
  · exact noOdd n a cap w hq (partChkA l n a cap w h hn hm)
set_option maxRecDepth 100000 in
set_option maxHeartbeats 8000000 in
theorem partUnlikeEven (l : List Int) (n : Nat) (a : Option Addr) (cap : Nat) (w : World) (h : Sa w a (ints l)) (hn : l.length = n) (hp : PartOk l) (ho : ¬ AllOdd l) :
    Calls Try.prog 63 #[.slice a n cap] w (WkS w) := by
  have hl := hp.len
  rw [hn] at hl
  have HN := Lib.hid hn; have HS := Lib.hid h; have HP := Lib.hid hp; have HO := Lib.hid ho
  clear hn h hp ho
  go_enter Try.func63, Try.ntmps63
  go_wp2_with fail
  refine (partChk l n _ _ _ HS.out HN.out HP.out).mono ?_; rintro e w' ⟨rfl, rfl⟩
  go_wp2_with fail
  have F1 := (Fr.start w).new 147 (Array.replicate 41 (.int .i64 0)) (ints (cntL [])) (by rfl) 41 rfl (by omega)
  go_loopw [19] (fun i wr => ∃ k : Nat, k ≤ n ∧ i = .int .i64 k ∧ Hid (∀ j, j < k → nth l j % 2 = 1) ∧ Fr w wr [⟨147, .slice (some ⟨w.heap.size, 0, none⟩) 41 41, ints (cntL (l.take k))⟩]) (fun i _ => n - (intOf i).toNat)
  case atStart => exact ⟨0, by omega, rfl, Lib.hid fun j hj => by omega, F1⟩
  case round =>
    obtain ⟨k, hk, rfl, HK, hfr⟩ := hrel
    clear F1
    by_cases hlt : k < n
    · obtain ⟨b, off, rfl, hb, hc⟩ := (hfr.old HS.out).int k (by rw [HN.out]; exact hlt)
      have hx := part_pos' HP.out _ (nth_mem l k (by rw [HN.out]; exact hlt))
      obtain ⟨x, hxe⟩ : ∃ x : Nat, nth l k = x := ⟨(nth l k).toNat, by omega⟩
      by_cases hodd : nth l k % 2 = 1
      · have HK2 : Hid (∀ j, j < k + 1 → nth l j % 2 = 1) := Lib.hid fun j hj => by
          rcases Nat.lt_succ_iff_lt_or_eq.1 hj with h | rfl
          · exact HK.out j h
          · exact hodd
        have hst := cntL_snoc (l.take k) x (by omega)
        have hcx := cntL_nth (l.take k) x (by omega)
        have hcb : (l.take k).count (x : Int) ≤ 40 := by
          have := List.count_le_length (a := (x : Int)) (l := l.take k)
          rw [List.length_take] at this; omega
        rw [← hxe, ← take_nth l k (by rw [HN.out]; exact hlt)] at hst
        rw [hxe] at hc hx hodd
        rw [hcx] at hst
        obtain ⟨g, e, _, c1, z1⟩ := hfr.openI x (by rw [cntL_len]; omega)
        cases e
        rw [hcx] at c1
        obtain ⟨q, hq⟩ : ∃ q, (l.take k).count (x : Int) = q := ⟨_, rfl⟩
        rw [hq] at c1 hst hcb
        have F2 := hfr.setInt x ((q : Int) + 1)
        rw [hst] at F2
        have HF2 := Lib.hid F2
        have HFR := Lib.hid hfr
        clear hst hcx hxe hq F2 hfr
        have d1 : decide ((x : Int) < 0) = false := decide_eq_false (by omega)
        have d2 : decide ((40 : Int) < (x : Int)) = false := decide_eq_false (by omega)
        have d3 : decide (41 ≤ x) = false := decide_eq_false (by omega)
        go_wp2_with fail
        go_roundw
        case rel => exact ⟨k + 1, by omega, by go_num, HK2, HF2.out⟩
        case measure => simp only [intOf]; omega
      · have hev : nth l k % 2 = 0 := by omega
        have HF := Lib.hid hfr.below
        rw [hxe] at hc hx hev
        clear hxe hfr hodd
        go_wp2_with fail
        go_ret2
        exact wk_no 3 rfl HF.out
    · exfalso
      refine HO.out fun x hx => ?_
      obtain ⟨i, hi, e⟩ := List.getElem_of_mem hx
      have := HK.out i (by rw [HN.out] at hi; omega)
      have e2 : nth l i = l[i] := by simp [nth, hi]
      rw [e2, e] at this
      exact this
theorem wkUnl : Wk 63 := fun l n a cap w h hn hc hm => by
  by_cases hq : PartOk l
  · by_cases ho : AllOdd l
    · exact (partUnlike sortUnlike l n a cap w h hn hq ho).mono fun e w' ⟨ad, cp, h1, _, h2⟩ => ⟨0, desc (unlikeTo l 41), _, ad, cp, h1, rfl, h2, fun x hx => by
        have := unl_pos (part_small hq) ho x ((desc_perm _).mem_iff.1 hx)
        omega⟩
    · exact partUnlikeEven l n a cap w h hn hq ho
  · exact noUnl n a cap w hq (partChkA l n a cap w h hn hm)
noncomputable def tmE (p q : List Int) : Int := if chkP p ≠ 0 then chkP p else if chkP q ≠ 0 then chkP q else if p.length ≠ q.length then 1 else 0
set_option maxRecDepth 100000 in
set_option maxHeartbeats 4000000 in
theorem wkTimes (p q : List Int) (n m : Nat) (a b : Option Addr) (ca cb : Nat) (w : World) (h : Sa w a (ints p)) (hn : p.length = n) (h' : Sa w b (ints q)) (hm : q.length = m) (l1 : n ≤ maxLen) (l2 : m ≤ maxLen) :
    Calls Try.prog 49 #[.slice a n ca, .slice b m cb] w (WkE (tmE p q) w) := by
  have HC1 := Lib.hid (permChkA p n a ca w h hn l1)
  have HC2 := Lib.hid (fun w1 (hb : Below w.heap.size w w1) => permChkA q m b cb w1 (h'.keep hb) hm l2)
  by_cases c1 : chkP p = 0
  · by_cases c2 : chkP q = 0
    · by_cases c3 : n = m
      · subst c3
        have e1 : tmE p q = 0 := by unfold tmE; rw [if_neg (by simp [c1]), if_neg (by simp [c2]), if_neg (by omega)]
        rw [e1]
        obtain ⟨p1, p2⟩ := chkP_ok c1
        obtain ⟨q1, q2⟩ := chkP_ok c2
        exact (permTimes p q n a b ca cb w h hn p2 h' hm q2 (by omega)).mono fun e w' ⟨ad, cp, h1, _, h2⟩ => ⟨tmL p q, n, ad, cp, h1, by rw [tmL_len, hm], h2, isP_pos (tm_isP p2 q2 (by omega))⟩
      · have e1 : tmE p q = 1 := by unfold tmE; rw [if_neg (by simp [c1]), if_neg (by simp [c2]), if_pos (by omega)]
        rw [e1]
        rw [c1] at HC1
        rw [c2] at HC2
        have g : ((n : Int) == (m : Int)) = false := by rw [beq_eq_false_iff_ne]; omega
        unfold maxLen at l1 l2
        clear h hn h' hm c1 c2 c3 e1
        go_enter Try.func49, Try.ntmps49
        go_wp2_with fail
        refine HC1.out.mono ?_; rintro e w1 ⟨rfl, hf1⟩
        have HF1 := Lib.hid hf1
        have HC := Lib.hid (HC2.out w1 hf1.bel)
        clear hf1 HC1 HC2
        go_wp2_with fail
        refine HC.out.mono ?_; rintro e w2 ⟨rfl, hf2⟩
        have HF2 := Lib.hid (HF1.out.call hf2)
        clear hf2 HC HF1
        go_wp2_with fail
        go_ret2
        exact wkE_no 1 rfl HF2.out
    · have e1 : tmE p q = chkP q := by unfold tmE; rw [if_neg (by simp [c1]), if_pos c2]
      rw [e1]
      rw [c1] at HC1
      obtain ⟨er, her⟩ : ∃ er, chkP q = er := ⟨_, rfl⟩
      rw [her] at HC2 c2 ⊢
      have g : (er == 0) = false := by simpa using c2
      clear h hn h' hm c1 c2 e1 her
      go_enter Try.func49, Try.ntmps49
      go_wp2_with fail
      refine HC1.out.mono ?_; rintro e w1 ⟨rfl, hf1⟩
      have HF1 := Lib.hid hf1
      have HC := Lib.hid (HC2.out w1 hf1.bel)
      clear hf1 HC1 HC2
      go_wp2_with fail
      refine HC.out.mono ?_; rintro e w2 ⟨rfl, hf2⟩
      have HF2 := Lib.hid (HF1.out.call hf2)
      clear hf2 HC HF1
      go_wp2_with fail
      go_ret2
      exact wkE_no er rfl HF2.out
  · have e1 : tmE p q = chkP p := by unfold tmE; rw [if_pos c1]
    rw [e1]
    obtain ⟨er, her⟩ : ∃ er, chkP p = er := ⟨_, rfl⟩
    rw [her] at HC1 c1 ⊢
    have g : (er == 0) = false := by simpa using c1
    clear h hn h' hm c1 e1 her HC2
    go_enter Try.func49, Try.ntmps49
    go_wp2_with fail
    refine HC1.out.mono ?_; rintro e w1 ⟨rfl, hf1⟩
    have HF1 := Lib.hid hf1
    clear hf1 HC1
    go_wp2_with fail
    go_ret2
    exact wkE_no er rfl HF1.out
end Go.Proofs.Ytooghdnlaonkaaa
