/- Contract of subset.Size alone. -/
import Derived.Test.YtdabgibmbmhmdaaBase
import Derived.Test.YtdabgibmbmhmdaaMathSub
import Derived.Laws.BitsAllLaws
namespace Go.Proofs.Ytdabgibmbmhmdaa
open Go.RowKit

theorem Size_nat (s : Nat) (w : World) (hs : s < 65536) :
    Calls Try.prog 36 #[.int .u16 s] w fun e w' => e = .returned (.int .i64 (onesB s 16 : Nat)) ∧ w = w' := by
  go_enter Try.func36, Try.ntmps36
  go_wp2_with fail
  go_loop [0, 3] (fun x n => ∃ t c : Nat, t < 65536 ∧ Hid (c + onesB t 16 = onesB s 16) ∧ x = .int .u16 t ∧ n = .int .i64 c) (fun x _ => (intOf x).toNat)
  case atStart => exact ⟨s, 0, hs, Lib.hid (by omega), rfl, rfl⟩
  case round =>
    obtain ⟨t, c, ht, hc, rfl, rfl⟩ := hrel
    have h16 := onesB_le s 16
    have hc16 : c ≤ 16 := by have := hc.out; omega
    by_cases h0 : 0 < t
    · have A := Go.u16_and_nat t (t - 1) ht (by omega)
      rw [Int.natCast_sub (by omega)] at A
      have lt : t &&& (t - 1) ≤ t - 1 := Nat.and_le_right
      have HA := Lib.hid A; clear A
      go_wp2_with fail
      go_round
      case rel =>
        refine ⟨t &&& (t - 1), c + 1, by omega, Lib.hid ?_, val_int HA.out, by go_num⟩
        have := ones_and_pred t h0 ht; have := hc.out; omega
      case measure =>
        have := HA.out
        simp [intOf] at this ⊢
        rw [this]; simp; omega
    · obtain rfl : t = 0 := by omega
      go_wp2_with fail
      go_ret
      refine ⟨ret_int ?_, rfl⟩
      have h1 := hc.out
      rw [(ones_zero_iff 0 (by omega)).2 rfl] at h1
      rw [← h1]; rfl

end Go.Proofs.Ytdabgibmbmhmdaa
