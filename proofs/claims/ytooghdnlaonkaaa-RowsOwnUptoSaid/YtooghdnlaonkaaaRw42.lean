/- Several of my texts in one: RowU. -/
import Derived.Test.YtooghdnlaonkaaaRw23
import Derived.Test.YtooghdnlaonkaaaRw28
import Derived.Test.YtooghdnlaonkaaaRw41
/- tableau.Of, tableau.Back, gray.Walk at any input; weak. -/
namespace Go.Proofs.Ytooghdnlaonkaaa
open Go.RowKit

def OfU (er : Int) (P : List (List Int)) (w : World) (e : Ending) (w' : World) : Prop :=
  ∃ (adp : Option Addr) (np cp : Nat) (RP : List Rw) (adq : Option Addr) (nq cq : Nat) (RQ : List Rw), e = .returned (.tuple #[.agg #[.slice adp np cp, .slice adq nq cq], .int .i64 er]) ∧
    lsR RP = P ∧ RP.length = np ∧ RQ.length = nq ∧ np ≤ 10 ∧ nq ≤ 10 ∧ (∀ p ∈ RP, p.2.2.length ≤ 10) ∧ Fr w w' (pqE adp np cp RP adq nq cq RQ [])
theorem ofU (p : List Int) (n : Nat) (a : Option Addr) (cap : Nat) (hn : p.length = n) (hm : n ≤ maxLen) : ∃ (P : List (List Int)) (er : Int), (∀ r ∈ P, (-7 : Int) ∉ r) ∧ P.length ≤ 10 ∧
    ∀ w, Sa w a (ints p) → Calls Try.prog 25 #[.slice a n cap] w (OfU er P w) := by
  by_cases hc : chkP p = 0
  · obtain ⟨h10, hp⟩ := chkP_ok hc
    have hbd := rsk_bd p n
    refine ⟨(rsk p n).1, 0, fun r hr hx => ?_, by omega, fun w h => ?_⟩
    · have e1 := rsk_P p n (by omega)
      rw [e1, List.take_of_length_le (by omega)] at hr
      have := isP_mem hp (-7) (ins_flat.mem_iff.1 (List.mem_flatten.2 ⟨r, hr, hx⟩))
      omega
    · refine (tabOf p n a cap w h hn hp (by omega)).mono ?_
      rintro e w' ⟨adp, np, cp, RP, adq, nq, cq, RQ, rfl, h1, h2, h3, h4, hf⟩
      have l1 : np ≤ 10 := by rw [← h3, ← lsR_len, h1]; omega
      have l2 : nq ≤ 10 := by rw [← h4, ← lsR_len, h2]; omega
      refine ⟨adp, np, cp, RP, adq, nq, cq, RQ, rfl, h1, h3, h4, l1, l2, fun q hq => ?_, hf⟩
      have := hbd.2.2.1 q.2.2 (by rw [← h1]; exact List.mem_map_of_mem (f := fun p : Rw => p.2.2) hq)
      omega
  · refine ⟨[], chkP p, by simp, by simp, fun w h => ?_⟩
    refine (tabOfNo p n a cap w h hn hm hc).mono ?_
    rintro e w' ⟨rfl, hf⟩
    exact ⟨none, 0, 0, [], none, 0, 0, [], rfl, rfl, rfl, rfl, by omega, by omega, by simp, (hf.nilSlice _).nilSlice _⟩
/-- one slice of the call's own and an error -/
def OneU (T : TypeId) (w : World) (e : Ending) (w' : World) : Prop :=
  ∃ (ad : Option Addr) (n cp : Nat) (er : Int) (xs : List Value), e = .returned (.tuple #[.slice ad n cp, .int .i64 er]) ∧ Fr w w' [⟨T, .slice ad n cp, xs⟩]
theorem oneNil {w w' : World} (T : TypeId) (er : Int) {e : Ending} (he : e = .returned (.tuple #[.slice none 0 0, .int .i64 er])) (hf : Fr w w' []) : OneU T w e w' :=
  ⟨none, 0, 0, er, [], he, hf.nilSlice _⟩
theorem backU (RP RQ : List Rw) (mp mq : Nat) (ap aq : Option Addr) (cp cq : Nat) (w : World) (hp : Rm w ap RP) (hq : Rm w aq RQ) (hmp : RP.length = mp) (hmq : RQ.length = mq)
    (h1 : mp ≤ 1048576) (h2 : mq ≤ 1048576) (h3 : ∀ p ∈ RP, p.2.2.length ≤ 1048576) (h4 : ∀ p ∈ RQ, p.2.2.length ≤ 1048576) :
    Calls Try.prog 27 #[.agg #[.slice ap mp cp, .slice aq mq cq]] w (OneU 3 w) := by
  have lb : ∀ {R : List Rw} {m : Nat}, R.length = m → (∀ p ∈ R, p.2.2.length ≤ 1048576) → ∀ i, i < m → lenN (lsR R) i ≤ 9223372036854775807 := fun {R m} hR hb i hi => by
    unfold lenN
    rw [List.getD_eq_getElem?_getD, List.getElem?_eq_getElem (by rw [lsR_len]; omega), lsR_get R i (by omega)]
    have := hb _ (List.getElem_mem (show i < R.length by omega))
    show R[i].2.2.length ≤ _
    omega
  by_cases hc : TabOk (lsR RP) ∧ TabOk (lsR RQ) ∧ (lsR RP).map List.length = (lsR RQ).map List.length
  · obtain ⟨c1, c2, c3⟩ := hc
    obtain rfl : mp = mq := by have := congrArg List.length c3; rw [List.length_map, List.length_map, lsR_len, lsR_len] at this; omega
    refine (tabBack RP RQ _ _ mp _ ap aq cp cq w hp hq rfl rfl (by rw [lsR_len]; exact hmp) (by rw [lsR_len]; exact hmq) c1 c2 (tabOk_gd c1 c2 c3) rfl).mono ?_
    rintro e w' ⟨ad, cp, rfl, -, hf⟩
    exact ⟨ad, _, cp, 0, _, rfl, hf⟩
  · refine (tabBackNo RP RQ _ _ mp mq ap aq cp cq w hp hq rfl rfl (by rw [lsR_len]; exact hmp) (by rw [lsR_len]; exact hmq) (by omega) (by omega) (lb hmp h3) (lb hmq h4) hc).mono ?_
    rintro e w' ⟨er, -, rfl, hf⟩
    exact oneNil _ er rfl hf
/-- rows of the call's own and an error -/
def GrpU (w : World) (e : Ending) (w' : World) : Prop :=
  ∃ (ad : Option Addr) (k cp : Nat) (er : Int) (R : List Rw), e = .returned (.tuple #[.slice ad k cp, .int .i64 er]) ∧ R.length = k ∧ k ≤ 1000 ∧ Fr w w' (outE ad k cp R :: R.map re)
def GrpSaidU : Prop := ∀ (n : Int) (R : List Rw) (m : Nat) (a : Option Addr) (cap : Nat) (w : World), Rm w a R → R.length = m → m ≤ maxLen → (∀ p ∈ R, p.2.2.length ≤ maxLen) →
    Calls Try.prog 28 #[.int .i64 n, .slice a m cap] w (GrpU w)
def LstSaidU : Prop := ∀ (n : Int) (R : List Rw) (m : Nat) (a : Option Addr) (cap : Nat) (z : List Int) (q : Nat) (b : Option Addr) (cb : Nat) (w : World), Rm w a R → R.length = m → m ≤ maxLen → (∀ p ∈ R, p.2.2.length ≤ maxLen) → Sa w b (ints z) → z.length = q → q ≤ maxLen → q ≤ cb →
    Calls Try.prog 29 #[.int .i64 n, .slice a m cap, .slice b q cb] w (OneU 3 w)
def TurnsSaid : Prop := ∀ w, Calls Try.prog 22 #[] w fun e w' => e = .returned (.bool true) ∧ Fr w w' []
theorem walkU (n : Int) (w : World) : Calls Try.prog 30 #[.int .i64 n] w (OneU 64 w) := by
  by_cases hc : n < 0 ∨ 10 < n
  · refine (grayWalkNo n w hc).mono ?_
    rintro e w' ⟨rfl, rfl⟩
    exact oneNil _ 1 rfl (Fr.start w)
  · obtain ⟨k, rfl⟩ : ∃ k : Nat, n = k := ⟨n.toNat, by omega⟩
    refine (grayWalk_any k w (by omega)).mono ?_
    rintro e w' ⟨ad, cp, rfl, hf⟩
    exact ⟨ad, _, cp, 0, _, rfl, hf⟩
end Go.Proofs.Ytooghdnlaonkaaa
