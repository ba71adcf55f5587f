/- lottery.Winner for every lot: one word. -/
import Derived.Test.YtfompfaepabpgaaLot
namespace Go.Proofs.Ytfompfaepabpgaa
open Go.RowKit

set_option maxHeartbeats 800000 in
theorem lotWinnerX (l : List Int) (n : Nat) (a : Option Addr) (cap : Nat) (lot : Int) (w : World) (h : Sa w a (ints l)) (hn : l.length = n) (hp : TkOk l) (h1 : isum l ≠ 0) (h2 : lot < 0 ∨ isum l ≤ lot) :
    Calls Try.prog 47 #[.slice a n cap, .int .i64 lot] w fun e w' => e = .returned (.tuple #[.int .i64 0, .int .i64 1]) ∧ w = w' := by
  have HN := Lib.hid hn; have HS := Lib.hid h; have HP := Lib.hid hp
  obtain ⟨S, hS⟩ : ∃ S, isum l = S := ⟨_, rfl⟩
  rw [hS] at h1 h2
  have HSS := Lib.hid hS
  have z : (S == 0) = false := by rw [beq_eq_false_iff_ne]; exact h1
  clear hn h hp h1 hS
  by_cases h0 : lot < 0
  · have d : decide (lot < 0) = true := decide_eq_true h0
    clear h2
    go_enter Try.func47, Try.ntmps47
    go_wp2_with fail
    refine (lotAll l n _ _ _ HS.out HN.out HP.out).mono ?_; rintro e w' ⟨rfl, rfl⟩
    rw [HSS.out]
    go_wp2_with fail
    go_ret2
    exact ⟨rfl, rfl⟩
  · have d : decide (lot < 0) = false := decide_eq_false h0
    have d2 : decide (S ≤ lot) = true := decide_eq_true (by omega)
    clear h2
    go_enter Try.func47, Try.ntmps47
    go_wp2_with fail
    refine (lotAll l n _ _ _ HS.out HN.out HP.out).mono ?_; rintro e w' ⟨rfl, rfl⟩
    rw [HSS.out]
    go_wp2_with fail
    go_ret2
    exact ⟨rfl, rfl⟩
/-- who wins, and with which error -/
def winW (l : List Int) (lot : Int) : Int × Int := if isum l = 0 then (0, 4) else if lot < 0 ∨ isum l ≤ lot then (0, 1) else (((winL l lot : Nat) : Int), 0)
theorem lotWinAny (l : List Int) (n : Nat) (a : Option Addr) (cap : Nat) (lot : Int) (w : World) (h : Sa w a (ints l)) (hn : l.length = n) (hp : TkOk l) :
    Calls Try.prog 47 #[.slice a n cap, .int .i64 lot] w fun e w' => e = .returned (.tuple #[.int .i64 (winW l lot).1, .int .i64 (winW l lot).2]) ∧ w = w' := by
  by_cases h1 : isum l = 0
  · have e : winW l lot = (0, 4) := by unfold winW; rw [if_pos h1]
    rw [e]; exact lotWinner0 l n a cap lot w h hn hp h1
  · by_cases h2 : lot < 0 ∨ isum l ≤ lot
    · have e : winW l lot = (0, 1) := by unfold winW; rw [if_neg h1, if_pos h2]
      rw [e]; exact lotWinnerX l n a cap lot w h hn hp h1 h2
    · have e : winW l lot = (((winL l lot : Nat) : Int), 0) := by unfold winW; rw [if_neg h1, if_neg h2]
      rw [e]; exact lotWinner l n a cap lot w h hn hp (by omega) (by omega)
end Go.Proofs.Ytfompfaepabpgaa
