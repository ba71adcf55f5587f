/- slices.Contains over strings. -/
import Derived.Test.YtfompfaepabpgaaSlEqS
namespace Go.Proofs.Ytfompfaepabpgaa
open Go.RowKit

def IdxS (l : List ByteArray) (x : ByteArray) (w : World) (e : Ending) (w' : World) : Prop := ∃ q : Int, e = .returned (.int .i64 q) ∧ ((0 ≤ q ∧ x ∈ l) ∨ (q < 0 ∧ x ∉ l)) ∧ Fr w w' []
set_option maxRecDepth 100000 in
set_option maxHeartbeats 4000000 in
theorem slIdxS (l : List ByteArray) (n : Nat) (a : Option Addr) (cap : Nat) (x : ByteArray) (w : World) (h : Sa w a (strV l)) (hn : l.length = n) (hm : n ≤ maxLen) :
    Calls Try.prog 57 #[.slice a n cap, .string x] w (IdxS l x w) := by
  have HN := Lib.hid hn; have HS := Lib.hid h
  unfold maxLen at hm
  clear hn h
  go_enter Try.func57, Try.ntmps57
  go_wp2_with fail
  go_loopw [8] (fun q wr => ∃ k : Nat, k ≤ n ∧ q = .int .i64 k ∧ Hid (∀ i, i < k → l[i]? ≠ some x) ∧ Hid (Fr w wr [])) (fun q _ => n - (intOf q).toNat)
  case atStart => exact ⟨0, by omega, rfl, Lib.hid (fun i hi => by omega), Lib.hid (Fr.start w)⟩
  case round =>
    obtain ⟨k, hk, rfl, HK, HF⟩ := hrel
    by_cases hlt : k < n
    · obtain ⟨y, hy⟩ : ∃ y, l[k]? = some y := ⟨_, List.getElem?_eq_getElem (by rw [HN.out]; exact hlt)⟩
      obtain ⟨b, off, rfl, -, x1⟩ := (HF.out.old HS.out).strA k y hy
      have g := str_eq x y
      have d1 : (0 : Int) ≤ (k : Int) := by omega
      have d2 : (k : Int) < (n : Int) := by omega
      by_cases he : x = y
      · have HY := Lib.hid (List.mem_of_getElem? hy)
        rw [decide_eq_true he] at g
        have HE := Lib.hid he
        clear hy he
        go_wp2_with fail
        go_ret
        exact ⟨(k : Int), rfl, .inl ⟨d1, by rw [HE.out]; exact HY.out⟩, HF.out⟩
      · have HY := Lib.hid (show l[k]? ≠ some x from fun e => he (by rw [hy] at e; cases e; rfl))
        rw [decide_eq_false he] at g
        clear hy he
        go_wp2_with fail
        refine ⟨⟨k + 1, by omega, by simp, Lib.hid (fun i hi => ?_), HF⟩, by simp only [intOf]; omega⟩
        by_cases e : i = k
        · rw [e]; exact HY.out
        · exact HK.out i (by omega)
    · obtain rfl : k = n := by omega
      go_wp2_with fail
      go_ret
      refine ⟨-1, rfl, .inr ⟨by omega, fun hx => ?_⟩, HF.out⟩
      obtain ⟨i, hi, e⟩ := List.getElem_of_mem hx
      exact HK.out i (by rw [← HN.out]; exact hi) (by rw [List.getElem?_eq_getElem hi, e])
theorem slCoS (l : List ByteArray) (n : Nat) (a : Option Addr) (cap : Nat) (x : ByteArray) (w : World) (h : Sa w a (strV l)) (hn : l.length = n) (hm : n ≤ maxLen) :
    Calls Try.prog 21 #[.slice a n cap, .string x] w fun e w' => ∃ bb : Bool, e = .returned (.bool bb) ∧ (bb = true ↔ x ∈ l) ∧ Fr w w' [] := by
  have HC := Lib.hid (slIdxS l n a cap x w h hn hm)
  clear h hn hm
  go_enter Try.func21, Try.ntmps21
  go_wp2_with fail
  refine HC.out.mono ?_; rintro e w2 ⟨q, rfl, hq, hf⟩
  have HF := Lib.hid hf
  rcases hq with ⟨h0, hm⟩ | ⟨h0, hm⟩
  · have g : decide (0 ≤ q) = true := decide_eq_true h0
    have HM := Lib.hid hm
    clear hf hm
    go_wp2_with fail
    go_ret
    exact ⟨true, rfl, ⟨fun _ => HM.out, fun _ => rfl⟩, HF.out⟩
  · have g : decide (0 ≤ q) = false := decide_eq_false (by omega)
    have HM := Lib.hid hm
    clear hf hm
    go_wp2_with fail
    go_ret
    exact ⟨false, rfl, ⟨fun h => absurd h (by decide), fun h => absurd h HM.out⟩, HF.out⟩
end Go.Proofs.Ytfompfaepabpgaa
