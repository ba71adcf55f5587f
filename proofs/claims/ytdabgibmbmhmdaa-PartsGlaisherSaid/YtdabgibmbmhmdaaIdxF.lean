/- slices.IndexFunc over ints with any quiet test. -/
import Derived.Test.YtdabgibmbmhmdaaArr3
import Derived.RegionTactic
import Derived.ChangeAlike
import Derived.Shelf.Abstract
namespace Go.Proofs.Ytdabgibmbmhmdaa
open Go.RowKit

def IdxF (P : Int → Bool) (l : List Int) (n : Nat) (w : World) (e : Ending) (w' : World) : Prop :=
  ∃ r : Int, e = .returned (.int .i64 r) ∧ ((r = -1 ∧ ∀ i, i < n → P (nth l i) = false) ∨ ∃ k : Nat, k < n ∧ r = k ∧ P (nth l k) = true ∧ ∀ i, i < k → P (nth l i) = false) ∧ w = w'
set_option maxHeartbeats 1000000 in
theorem idxF_any (P : Int → Bool) (g : Nat) (cl : Array Value) (hg : ∀ args w, (callFunc g args).run Try.prog w = .ok (.enter g args) w)
    (l : List Int) (n : Nat) (a : Option Addr) (cap : Nat) (w : World) (hf : ∀ x, Calls Try.prog g (#[.int .i64 x] ++ cl) w fun e w' => e = .returned (.bool (P x)) ∧ w = w') (h : Sa w a (ints l)) (hn : l.length = n) (hl : n ≤ 1000000) :
    Calls Try.prog 89 #[.slice a n cap, .func (.func g) #[] cl] w (IdxF P l n w) := by
  have HS := Lib.hid h; have HN := Lib.hid hn; have HF := Lib.hid hf
  clear h hn hf
  go_enter Try.func89, Try.ntmps89
  go_wp2_with fail
  go_loop [8] (fun i => ∃ k : Nat, k ≤ n ∧ Hid (∀ i, i < k → P (nth l i) = false) ∧ i = .int .i64 k) (fun i => n - (intOf i).toNat)
  case atStart => exact ⟨0, Nat.zero_le _, Lib.hid (by intro i hi; omega), rfl⟩
  case round =>
    obtain ⟨k, hk, hz, rfl⟩ := hrel
    by_cases hlt : k < n
    · obtain ⟨b, off, rfl, hb, hc⟩ := HS.out.int k (by rw [HN.out]; exact hlt)
      obtain ⟨x, hx⟩ : ∃ x, nth l k = x := ⟨_, rfl⟩
      rw [hx] at hc
      have HX := Lib.hid hx
      have HC := Lib.hid (HF.out x)
      have e1 : (0 : Int) ≤ (k : Int) := by omega
      have e2 : (k : Int) < (n : Int) := by omega
      obtain ⟨B, hB⟩ : ∃ B, P x = B := ⟨_, rfl⟩
      have HB := Lib.hid hB
      clear hx hB
      cases B
      · go_wp2_with (go_at_fn g; refine HC.out.mono ?_; rintro e w' ⟨rfl, rfl⟩; rw [HB.out])
        go_round
        case rel =>
          refine ⟨k + 1, by omega, Lib.hid fun i hi => ?_, by go_num⟩
          by_cases h : i = k
          · subst h; rw [HX.out]; exact HB.out
          · exact hz.out i (by omega)
        case measure => simp [intOf]; omega
      · go_wp2_with (go_at_fn g; refine HC.out.mono ?_; rintro e w' ⟨rfl, rfl⟩; rw [HB.out])
        go_ret
        exact ⟨k, rfl, .inr ⟨k, hlt, rfl, by rw [HX.out]; exact HB.out, hz.out⟩, rfl⟩
    · obtain rfl : k = n := by omega
      go_wp2_with fail
      go_ret
      exact ⟨-1, rfl, .inl ⟨rfl, hz.out⟩, rfl⟩
end Go.Proofs.Ytdabgibmbmhmdaa
