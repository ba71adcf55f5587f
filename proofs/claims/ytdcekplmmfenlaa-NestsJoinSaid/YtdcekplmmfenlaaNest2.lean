/- Contract of nests.At. -/
import Derived.Test.YtdcekplmmfenlaaNest
namespace Go.Proofs.Ytdcekplmmfenlaa
open Go.RowKit

/-- the nest of rank k that still has so many steps to go, at a height -/
def atN : Nat → Nat → Nat → List UInt8
  | 0, _, _ => []
  | r + 1, h, k => if k < pathN r (h + 1) then 40 :: atN r (h + 1) k else 41 :: atN r (h - 1) (k - pathN r (h + 1))
theorem atN_len : ∀ r h k, (atN r h k).length = r
  | 0, _, _ => rfl
  | r + 1, h, k => by
    rw [atN]
    split
    · rw [List.length_cons, atN_len]
    · rw [List.length_cons, atN_len]

theorem strApp (l : List UInt8) (x : UInt8) : (⟨l.toArray⟩ : ByteArray) ++ ⟨#[x]⟩ = ⟨(l ++ [x]).toArray⟩ := by
  apply ByteArray.ext
  rw [ByteArray.data_append]
  simp

set_option maxHeartbeats 1000000 in
theorem nestAt_nat (n k : Nat) (w : World) (hn : n ≤ 15) (hk : k < catN n) :
    Calls Try.prog 21 #[.int .i64 n, .int .i64 k] w fun e w' => e = .returned (.tuple #[.string ⟨(atN (2 * n) 0 k).toArray⟩, .int .i64 0]) ∧ Below w.heap.size w w' := by
  have d1 : decide ((k : Int) < 0) = false := by simp
  have d2 : decide (catN n ≤ k) = false := by simp; omega
  go_enter Try.func21, Try.ntmps21
  go_wp2_with fail
  refine (nestCount_i _ n _ rfl hn).mono ?_; rintro e w1 ⟨rfl, hb⟩
  have HB := Lib.hid hb; clear hb
  go_wp2_with fail
  go_loopw [1, 8, 9] (fun kk s h wr => ∃ (r hh c : Nat) (pre : List UInt8), r ≤ 2 * n ∧ hh + r ≤ 2 * n ∧ Hid (pre ++ atN r hh c = atN (2 * n) 0 k) ∧ pre.length + r = 2 * n ∧ c < pathN r hh ∧ kk = .int .i64 c ∧ s = .string ⟨pre.toArray⟩ ∧ h = .int .i64 hh ∧ Below w.heap.size w wr) (fun _ s _ _ => match s with | .string b => 2 * n - b.size | _ => 0)
  case atStart => exact ⟨2 * n, 0, k, [], by omega, by omega, Lib.hid rfl, by simp, hk, rfl, rfl, rfl, HB.out⟩
  case round =>
    obtain ⟨r, hh, c, pre, hr, hrh, hp, hl, hc, rfl, rfl, rfl, hbel⟩ := hrel
    clear d1 d2
    replace HB := Lib.hid hbel; clear hbel
    by_cases h0 : r = 0
    · subst h0
      go_wp2_with fail
      go_ret2
      refine ⟨?_, HB.out⟩
      have h := hp.out
      rw [atN, List.append_nil] at h
      rw [← h]; rfl
    · obtain ⟨q, rfl⟩ : ∃ q, r = q + 1 := ⟨r - 1, by omega⟩
      have bp := pathN_le31 q (hh + 1) (by omega)
      have bc : c ≤ 2147483648 := Nat.le_trans (Nat.le_of_lt hc) (pathN_le31 (q + 1) hh (by omega))
      by_cases hx : c < pathN q (hh + 1)
      · have hp' : Hid ((pre ++ [40]) ++ atN q (hh + 1) c = atN (2 * n) 0 k) := Lib.hid (by rw [← hp.out, atN, if_pos hx]; simp)
        go_wp2_with fail
        refine (ways_i _ _ (hh + 1) q _ (by omega) (by omega) (by omega)).mono ?_; rintro e w2 ⟨rfl, hb⟩
        replace HB := Lib.hid (kin_trans HB.out hb); clear hb
        go_wp2_with fail
        refine ⟨⟨q, hh + 1, c, pre ++ [40], by omega, by omega, hp', by simp; omega, hx, rfl, by rw [strApp], by go_num, HB.out⟩, ?_⟩
        rw [strApp]
        simp [ByteArray.size]
        omega
      · have hp' : Hid ((pre ++ [41]) ++ atN q (hh - 1) (c - pathN q (hh + 1)) = atN (2 * n) 0 k) := Lib.hid (by rw [← hp.out, atN, if_neg hx]; simp)
        obtain ⟨g, rfl⟩ : ∃ g, hh = g + 1 := ⟨hh - 1, by
          cases hh with
          | zero => rw [pathN] at hc; exact absurd hc hx
          | succ g => rfl⟩
        have hc2 : c - pathN q (g + 1 + 1) < pathN q g := by
          rw [pathN] at hc; rw [show g + 1 + 1 = g + 2 from rfl] at hx ⊢; omega
        go_wp2_with fail
        refine (ways_i _ _ (g + 1 + 1) q _ (by omega) (by omega) (by omega)).mono ?_; rintro e w2 ⟨rfl, hb⟩
        replace HB := Lib.hid (kin_trans HB.out hb); clear hb
        go_wp2_with fail
        refine ⟨⟨q, g, c - pathN q (g + 1 + 1), pre ++ [41], by omega, by omega, hp', by simp; omega, hc2, val_int (by omega), by rw [strApp], val_int (by omega), HB.out⟩, ?_⟩
        rw [strApp]
        simp [ByteArray.size]
        omega

theorem nestsLive_any (w : World) : Calls Try.prog 15 #[] w fun e w' => e = .returned (.bool true) ∧ Below w.heap.size w w' := by
  have h1 : catN 3 = 5 := by rw [← catL_eq]; decide +kernel
  have h2 : atN (2 * 3) 0 1 = [40, 40, 41, 40, 41, 41] := by decide +kernel
  go_enter Try.func15, Try.ntmps15
  go_wp2_with fail
  refine (nestCount_i _ 3 _ rfl (by omega)).mono ?_; rintro e w1 ⟨rfl, hb⟩
  rw [h1]
  have HB := Lib.hid hb; clear hb
  go_wp2_with fail
  refine (nestAt_nat 3 1 _ (by omega) (by rw [h1]; omega)).mono ?_; rintro e w2 ⟨rfl, hb⟩
  rw [h2]
  replace HB := Lib.hid (kin_trans HB.out hb); clear hb
  go_wp2_with fail
  refine (good2 _ _).mono ?_; rintro e w' ⟨rfl, rfl⟩
  go_wp2_with fail
  go_ret
  exact ⟨rfl, kin_alloc HB.out _⟩
end Go.Proofs.Ytdcekplmmfenlaa
