/- Contracts of package tape. -/
import Derived.Test.YtnjnndodfdghbaaTapeM
import Derived.Test.YtnjnndodfdghbaaCat
namespace Go.Proofs.Ytnjnndodfdghbaa
open Go.RowKit

set_option maxHeartbeats 1000000 in
theorem tpChk (l : List Int) (n : Nat) (a : Option Addr) (cap : Nat) (w : World) (h : Sa w a (byts l)) (hn : l.length = n) (hp : Bit01 l) (hl : n ≤ 200) :
    Calls Try.prog 55 #[.slice a n cap] w fun e w' => e = .returned (.int .i64 0) ∧ w = w' := by
  have HN := Lib.hid hn; have HS := Lib.hid h; have HP := Lib.hid hp
  clear hn h hp
  go_enter Try.func55, Try.ntmps55
  go_wp2_with fail
  go_loop [10] (fun i => ∃ k : Nat, k ≤ n ∧ i = .int .i64 k) (fun i => n - (intOf i).toNat)
  case atStart => exact ⟨0, by omega, rfl⟩
  case round =>
    obtain ⟨k, hk, rfl⟩ := hrel
    by_cases hlt : k < n
    · obtain ⟨b, off, rfl, hb, hc⟩ := HS.out.byt k (by rw [HN.out]; exact hlt)
      obtain ⟨p1, p2⟩ := HP.out (nth l k) (nth_mem _ _ (by rw [HN.out]; exact hlt))
      obtain ⟨x, hx⟩ : ∃ x, nth l k = x := ⟨_, rfl⟩
      rw [hx] at hc p1 p2
      clear hx
      go_wp2_with fail
      exact ⟨⟨k + 1, by omega, by simp⟩, by simp only [intOf]; omega⟩
    · go_wp2_with fail
      go_ret
      exact ⟨rfl, rfl⟩

set_option maxHeartbeats 1000000 in
theorem tpBits (n : Int) (w : World) (h1 : 1 ≤ n) (h2 : n ≤ 1024) :
    Calls Try.prog 60 #[.int .i64 n] w fun e w' => e = .returned (.tuple #[.int .i64 (bitsN n.toNat : Nat), .int .i64 0]) ∧ w = w' := by
  obtain ⟨m, hm⟩ : ∃ m : Nat, n = m := ⟨n.toNat, by omega⟩
  subst hm
  rw [Int.toNat_natCast]
  go_enter Try.func60, Try.ntmps60
  go_wp2_with fail
  go_loop [4] (fun i => ∃ k : Nat, k ≤ 10 ∧ i = .int .i64 k ∧ Hid (bitsN m = bitsF m (10 - k) k)) (fun i => 10 - (intOf i).toNat)
  case atStart => exact ⟨0, by omega, rfl, Lib.hid rfl⟩
  case round =>
    obtain ⟨k, hk, rfl, HB⟩ := hrel
    by_cases hlt : 2 ^ k < m
    · have h10 : k < 10 := by
        rcases Nat.lt_or_ge k 10 with h | h
        · exact h
        · obtain rfl : k = 10 := by omega
          have : 2 ^ 10 = 1024 := by decide
          omega
      have HB2 : Hid (bitsN m = bitsF m (10 - (k + 1)) (k + 1)) := Lib.hid (by
        rw [HB.out, show 10 - k = (10 - (k + 1)) + 1 from by omega, bitsF, if_pos hlt])
      clear HB hk
      match k, h10, hlt, HB2 with
      | 0, _, hlt, HB2 => (go_wp2_with fail; exact ⟨⟨1, by omega, rfl, HB2⟩, by decide⟩)
      | 1, _, hlt, HB2 => (go_wp2_with fail; exact ⟨⟨2, by omega, rfl, HB2⟩, by decide⟩)
      | 2, _, hlt, HB2 => (go_wp2_with fail; exact ⟨⟨3, by omega, rfl, HB2⟩, by decide⟩)
      | 3, _, hlt, HB2 => (go_wp2_with fail; exact ⟨⟨4, by omega, rfl, HB2⟩, by decide⟩)
      | 4, _, hlt, HB2 => (go_wp2_with fail; exact ⟨⟨5, by omega, rfl, HB2⟩, by decide⟩)
      | 5, _, hlt, HB2 => (go_wp2_with fail; exact ⟨⟨6, by omega, rfl, HB2⟩, by decide⟩)
      | 6, _, hlt, HB2 => (go_wp2_with fail; exact ⟨⟨7, by omega, rfl, HB2⟩, by decide⟩)
      | 7, _, hlt, HB2 => (go_wp2_with fail; exact ⟨⟨8, by omega, rfl, HB2⟩, by decide⟩)
      | 8, _, hlt, HB2 => (go_wp2_with fail; exact ⟨⟨9, by omega, rfl, HB2⟩, by decide⟩)
      | 9, _, hlt, HB2 => (go_wp2_with fail; exact ⟨⟨10, by omega, rfl, HB2⟩, by decide⟩)
    · have HE : Hid (bitsN m = k) := Lib.hid (by
        rw [HB.out]
        cases h : 10 - k with
        | zero => rfl
        | succ f => rw [bitsF, if_neg hlt])
      clear HB
      have done : ∀ j : Nat, bitsN m = j → Ending.returned (.tuple #[.int .i64 (j : Int), .int .i64 0]) = .returned (.tuple #[.int .i64 (bitsN m : Nat), .int .i64 0]) := fun j hj => by rw [hj]
      match k, hk, hlt, HE with
      | 0, _, hlt, HE => (go_wp2_with fail; go_ret2; exact ⟨done 0 HE.out, rfl⟩)
      | 1, _, hlt, HE => (go_wp2_with fail; go_ret2; exact ⟨done 1 HE.out, rfl⟩)
      | 2, _, hlt, HE => (go_wp2_with fail; go_ret2; exact ⟨done 2 HE.out, rfl⟩)
      | 3, _, hlt, HE => (go_wp2_with fail; go_ret2; exact ⟨done 3 HE.out, rfl⟩)
      | 4, _, hlt, HE => (go_wp2_with fail; go_ret2; exact ⟨done 4 HE.out, rfl⟩)
      | 5, _, hlt, HE => (go_wp2_with fail; go_ret2; exact ⟨done 5 HE.out, rfl⟩)
      | 6, _, hlt, HE => (go_wp2_with fail; go_ret2; exact ⟨done 6 HE.out, rfl⟩)
      | 7, _, hlt, HE => (go_wp2_with fail; go_ret2; exact ⟨done 7 HE.out, rfl⟩)
      | 8, _, hlt, HE => (go_wp2_with fail; go_ret2; exact ⟨done 8 HE.out, rfl⟩)
      | 9, _, hlt, HE => (go_wp2_with fail; go_ret2; exact ⟨done 9 HE.out, rfl⟩)
      | 10, _, hlt, HE => (go_wp2_with fail; go_ret2; exact ⟨done 10 HE.out, rfl⟩)
end Go.Proofs.Ytnjnndodfdghbaa
