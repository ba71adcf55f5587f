/- Contract of event.weight. -/
import Derived.Test.YtliajiilcicppaaEvtM
namespace Go.Proofs.Ytliajiilcicppaa
open Go.RowKit

theorem shr_and1 (s i : Nat) (hs : s < 65536) : bits .and .u16 ((s / 2 ^ i : Nat) : Int) 1 = ((s / 2 ^ i % 2 : Nat) : Int) := by
  have := Go.u16_and_nat (s / 2 ^ i) 1 (Nat.lt_of_le_of_lt (Nat.div_le_self _ _) hs) (by omega)
  rw [Nat.and_one_is_mod] at this
  exact this

set_option maxHeartbeats 1000000 in
theorem evWeight (l : List Int) (n : Nat) (a : Option Addr) (ca : Nat) (s : Nat) (w : World) (h : Sa w a (ints l)) (hn : l.length = n) (h12 : n ≤ 12) (hp : Pos l) (hs : s < 65536) :
    Calls Try.prog 41 #[.slice a n ca, .int .u16 s] w fun e w' => e = .returned (.int .i64 (wtL l s)) ∧ w = w' := by
  have HN := Lib.hid hn; have HS := Lib.hid h; have HP := Lib.hid hp
  clear hn h hp
  go_enter Try.func41, Try.ntmps41
  go_wp2_with fail
  go_loop [5, 10] (fun x i => ∃ k : Nat, k ≤ n ∧ i = .int .i64 k ∧ x = .int .i64 (wtL (l.take k) s)) (fun _ i => n - (intOf i).toNat)
  case atStart => exact ⟨0, by omega, rfl, rfl⟩
  case round =>
    obtain ⟨k, hk, rfl, rfl⟩ := hrel
    by_cases hlt : k < n
    · obtain ⟨b', off, rfl, hb, hc⟩ := HS.out.int k (by rw [HN.out]; exact hlt)
      have hsn := take_nth l k (by rw [HN.out]; exact hlt)
      obtain ⟨p1, p2⟩ := HP.out _ (nth_mem l k (by rw [HN.out]; exact hlt))
      have hst : wtL (l.take (k + 1)) s = wtL (l.take k) s + if s / 2 ^ k % 2 = 1 then nth l k else 0 := by
        rw [hsn, wtL_snoc, List.length_take, HN.out, Nat.min_eq_left hk]
      obtain ⟨v1, v2⟩ := wtL_bd (l.take k) s (fun y hy => HP.out y (List.mem_of_mem_take hy))
      have v3 : wtL (l.take k) s ≤ 1200 := by
        rw [List.length_take, HN.out] at v2; omega
      obtain ⟨x, hx⟩ : ∃ x, nth l k = x := ⟨_, rfl⟩
      obtain ⟨V, hV⟩ : ∃ V, wtL (l.take k) s = V := ⟨_, rfl⟩
      rw [hx] at hc p1 p2 hst
      rw [hV] at v1 v3 hst ⊢
      have S := shr_and1 s k hs
      have F : (s : Int) / 2 ^ k = ((s / 2 ^ k : Nat) : Int) := by simp
      rcases Nat.mod_two_eq_zero_or_one (s / 2 ^ k) with hb2 | hb2
      · rw [if_neg (by omega)] at hst
        have E : (bits .and .u16 ((s : Int) / 2 ^ k) 1 == 1) = false := by rw [F, S, hb2]; rfl
        have HST := Lib.hid hst
        clear hx hV hst hsn S F hb2 v2
        go_wp2_with fail
        exact ⟨⟨k + 1, by omega, by simp, val_int (by rw [HST.out]; omega)⟩, by simp only [intOf]; omega⟩
      · rw [if_pos hb2] at hst
        have E : (bits .and .u16 ((s : Int) / 2 ^ k) 1 == 1) = true := by rw [F, S, hb2]; rfl
        have HST := Lib.hid hst
        clear hx hV hst hsn S F hb2 v2
        go_wp2_with fail
        exact ⟨⟨k + 1, by omega, by simp, val_int HST.out.symm⟩, by simp only [intOf]; omega⟩
    · have hkn : l.take k = l := List.take_of_length_le (by rw [HN.out]; omega)
      rw [hkn]
      go_wp2_with fail
      go_ret
      exact ⟨rfl, rfl⟩
end Go.Proofs.Ytliajiilcicppaa
