/- Several of my texts in one: RowG. -/
import Derived.Test.YtooghdnlaonkaaaRw23
import Derived.Test.YtooghdnlaonkaaaRw51
import Derived.Test.YtooghdnlaonkaaaRw42
/- orbits.Group, orbits.Least at any input; weak. -/
namespace Go.Proofs.Ytooghdnlaonkaaa
open Go.RowKit

theorem grpU (n : Int) (R : List Rw) (m : Nat) (a : Option Addr) (cap : Nat) (w : World) (h : Rm w a R) (hm : R.length = m) (hl : m ≤ maxLen) (hr : ∀ p ∈ R, p.2.2.length ≤ maxLen) :
    Calls Try.prog 28 #[.int .i64 n, .slice a m cap] w (GrpU w) := by
  by_cases hc : OrbIn n m R
  · obtain ⟨c0, c1, c2, c3⟩ := hc
    obtain ⟨k, rfl⟩ : ∃ k : Nat, n = k := ⟨n.toNat, by omega⟩
    refine (orbGroup k R m a cap w h hm (by omega) c2 (by simpa using c3)).mono ?_
    rintro e w' ⟨ad, cp, R', rfl, hf, hg⟩
    have h1 := hg.len
    rw [lsR_len] at h1
    have := fac6 k (by omega)
    exact ⟨ad, _, cp, 0, R', rfl, rfl, by omega, hf⟩
  · refine (grpNo n R m a cap w h hm hl hr hc).mono ?_
    rintro e w' ⟨er, -, rfl, hf⟩
    exact ⟨none, 0, 0, er, [], rfl, rfl, by omega, hf.nilSlice _⟩
set_option maxRecDepth 100000 in
set_option maxHeartbeats 2000000 in
theorem lstForm (n : Nat) (R0 : List Rw) (m : Nat) (a : Option Addr) (cap : Nat) (q : Nat) (b : Option Addr) (cb : Nat) (w : World) (h : Rm w a R0) (hm : R0.length = m) (n6 : n ≤ 6) (m6 : m ≤ 6) (hp : AllPn n (lsR R0)) (hn : q ≠ n) :
    Calls Try.prog 29 #[.int .i64 n, .slice a m cap, .slice b q cb] w (OneU 3 w) := by
  have HG := Lib.hid (orbGroup n R0 m a cap w h hm n6 m6 hp)
  have g1 : ((q : Int) != (n : Int)) = true := by rw [bne_iff_ne]; omega
  clear h hm hp hn
  go_enter Try.func29, Try.ntmps29
  go_wp2_with fail
  refine HG.out.mono ?_; rintro e w1 ⟨ad, cp, R, rfl, hf1, hgr⟩
  have HF := Lib.hid hf1.below
  clear hf1 hgr HG
  go_wp2_with fail
  go_ret2
  exact oneNil _ _ rfl HF.out
theorem lstU (n : Int) (R : List Rw) (m : Nat) (a : Option Addr) (cap : Nat) (z : List Int) (q : Nat) (b : Option Addr) (cb : Nat) (w : World) (h : Rm w a R) (hm : R.length = m) (hl : m ≤ maxLen) (hr : ∀ p ∈ R, p.2.2.length ≤ maxLen) (hz : Sa w b (ints z)) (hn : z.length = q) (_ : q ≤ maxLen) (hcb : q ≤ cb) :
    Calls Try.prog 29 #[.int .i64 n, .slice a m cap, .slice b q cb] w (OneU 3 w) := by
  by_cases hc : OrbIn n m R
  · obtain ⟨c0, c1, c2, c3⟩ := hc
    obtain ⟨k, rfl⟩ : ∃ k : Nat, n = k := ⟨n.toNat, by omega⟩
    by_cases hk : q = k
    · subst hk
      refine (orbLeast q R m a cap z b cb w h hm (by omega) c2 (by simpa using c3) hz hn hcb).mono ?_
      rintro e w' ⟨G, -, ad, cp, rfl, hf⟩
      exact ⟨ad, _, cp, 0, _, rfl, hf⟩
    · exact lstForm k R m a cap q b cb w h hm (by omega) c2 (by simpa using c3) hk
  · refine (lstNo n R m a cap _ w h hm hl hr hc).mono ?_
    rintro e w' ⟨er, -, rfl, hf⟩
    exact oneNil _ er rfl hf
end Go.Proofs.Ytooghdnlaonkaaa
