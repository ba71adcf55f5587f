/- stride.Next for all counts from 0 on. -/
import Derived.Test.YtfompfaepabpgaaStr
namespace Go.Proofs.Ytfompfaepabpgaa
open Go.RowKit

set_option maxRecDepth 100000 in
set_option maxHeartbeats 2000000 in
theorem strNextX (l had : List Int) (n : Nat) (a b : Option Addr) (ca cb : Nat) (w : World) (h : Sa w a (ints l)) (h' : Sa w b (ints had)) (hn : l.length = n) (hn' : had.length = n) (hp : TkOk l)
    (hh : ∀ j, j < n → 0 ≤ nth had j) (hx : ∃ j, j < n ∧ 1000000000 < nth had j) :
    Calls Try.prog 49 #[.slice a n ca, .slice b n cb] w fun e w' => e = .returned (.tuple #[.int .i64 0, .int .i64 1]) ∧ Fr w w' [] := by
  have hn8 := hp.1
  rw [hn] at hn8
  have HN := Lib.hid hn; have HN' := Lib.hid hn'; have HS := Lib.hid h; have HS' := Lib.hid h'; have HP := Lib.hid hp; have HH := Lib.hid hh; have HX := Lib.hid hx
  clear hn hn' h h' hp hh hx
  go_enter Try.func49, Try.ntmps49
  go_wp2_with fail
  refine (lotChk l n _ _ _ HS.out HN.out HP.out).mono ?_; rintro e w' ⟨rfl, rfl⟩
  have q0 : ((n : Int) != (n : Int)) = false := by simp
  go_wp2_with fail
  go_loop [22] (fun i => ∃ k : Nat, k ≤ n ∧ i = .int .i64 k ∧ Hid (∀ j, j < k → nth had j ≤ 1000000000)) (fun i => n - (intOf i).toNat)
  case atStart => exact ⟨0, by omega, rfl, Lib.hid fun j hj => by omega⟩
  case round =>
    obtain ⟨k, hk, rfl, HK⟩ := hrel
    by_cases hlt : k < n
    · obtain ⟨b', off, rfl, hb, hc⟩ := HS'.out.int k (by rw [HN'.out]; exact hlt)
      have p1 := HH.out k hlt
      obtain ⟨x, hx⟩ : ∃ x, nth had k = x := ⟨_, rfl⟩
      rw [hx] at hc p1
      have HXX := Lib.hid hx
      clear hx
      have d0 : decide (x < 0) = false := decide_eq_false (by omega)
      by_cases hbig : 1000000000 < x
      · have d1 : decide (1000000000 < x) = true := decide_eq_true hbig
        go_wp2_with fail
        go_ret2
        exact ⟨rfl, Fr.start _⟩
      · have d1 : decide (1000000000 < x) = false := decide_eq_false hbig
        go_wp2_with fail
        exact ⟨⟨k + 1, by omega, by simp, Lib.hid fun j hj => by
          by_cases e : j = k
          · rw [e, HXX.out]; omega
          · exact HK.out j (by omega)⟩, by simp only [intOf]; omega⟩
    · obtain ⟨j, h1, h2⟩ := HX.out
      have := HK.out j (by omega)
      omega
/-- whose turn it is, and with which error -/
def nextW (l had : List Int) : Int × Int :=
  if had.any (fun x => decide (1000000000 < x)) then (0, 1) else if bestL l had l.length < 0 then (0, 4) else (bestL l had l.length, 0)
theorem strNextAny (l had : List Int) (n : Nat) (a b : Option Addr) (ca cb : Nat) (w : World) (h : Sa w a (ints l)) (h' : Sa w b (ints had)) (hn : l.length = n) (hn' : had.length = n) (hp : TkOk l)
    (hh : ∀ j, j < n → 0 ≤ nth had j) :
    Calls Try.prog 49 #[.slice a n ca, .slice b n cb] w fun e w' => e = .returned (.tuple #[.int .i64 (nextW l had).1, .int .i64 (nextW l had).2]) ∧ Fr w w' [] := by
  cases ha : had.any (fun x => decide (1000000000 < x))
  · have hall : ∀ j, j < n → nth had j ≤ 1000000000 := fun j hj => by
      rw [List.any_eq_false] at ha
      have := ha (nth had j) (nth_mem _ _ (by omega))
      simpa using this
    refine (strNext l had n a b ca cb w h h' hn hn' hp (fun j hj => ⟨hh j hj, hall j hj⟩)).mono ?_
    rintro e w' ⟨hx, hf⟩
    refine ⟨?_, hf⟩
    unfold nextW
    rw [ha, hn]
    rcases hx with ⟨h1, rfl⟩ | ⟨h1, rfl⟩
    · rw [if_pos h1]; rfl
    · rw [if_neg (show ¬ bestL l had n < 0 by omega)]; rfl
  · have e : nextW l had = (0, 1) := by unfold nextW; rw [ha]; rfl
    rw [e]
    obtain ⟨x, hx, hb⟩ := List.any_eq_true.1 ha
    obtain ⟨j, hj, rfl⟩ := List.getElem_of_mem hx
    have e2 : nth had j = had[j] := by simp [nth, hj]
    refine strNextX l had n a b ca cb w h h' hn hn' hp hh ⟨j, by omega, ?_⟩
    rw [e2]; simpa using hb
end Go.Proofs.Ytfompfaepabpgaa
