/- Several of my texts in one: SlF. -/
import Derived.Test.YtooghdnlaonkaaaPw01
/- Contracts of slices.Index, Equal over ints. -/
namespace Go.Proofs.Ytooghdnlaonkaaa
open Go.RowKit

/-- what Index tells: the first place of x in l, or -1 -/
def IdxIs (l : List Int) (x r : Int) : Prop := (r = -1 ∧ ∀ i, i < l.length → l.getD i 0 ≠ x) ∨ ∃ i : Nat, r = i ∧ i < l.length ∧ l.getD i 0 = x ∧ ∀ j, j < i → l.getD j 0 ≠ x
def IdxSaidI (l : List Int) (x : Int) (w : World) (e : Ending) (w' : World) : Prop := ∃ r : Int, e = .returned (.int .i64 r) ∧ IdxIs l x r ∧ w = w'
set_option maxHeartbeats 400000 in
theorem indexI_any (l : List Int) (v : Value) (x : Int) (w : World) (h : Sl w v l) (hl : l.length ≤ 1000000) :
    Calls Try.prog 71 #[v, .int .i64 x] w (IdxSaidI l x w) := by
  rcases h with ⟨rfl, a, cap, rfl⟩ | ⟨h0, b, off, cap, rfl, hb, hc⟩
  · go_enter Try.func71, Try.ntmps71
    go_wp2_with fail
    go_loop [8] (fun i => i = .int .i64 0) (fun _ => 0)
    case atStart => rfl
    case round =>
      subst hrel
      go_wp2_with fail
      go_ret
      exact ⟨-1, rfl, .inl ⟨rfl, fun i hi => by simp at hi⟩, rfl⟩
  · obtain ⟨f, hf⟩ : ∃ f : Nat → Int, ∀ i, f i = l.getD i 0 := ⟨fun i => l.getD i 0, fun _ => rfl⟩
    have HC : Hid (∀ i, i < l.length → w.cell? ⟨b, off + i, none⟩ = some (.int .i64 (f i))) := Lib.hid (fun i hi => by rw [hc i hi, hf])
    have HF := Lib.hid hf
    clear hc hf hb
    generalize hn : l.length = n at *
    have HN := Lib.hid hn; clear hn
    go_enter Try.func71, Try.ntmps71
    go_wp2_with fail
    go_loop [8] (fun i => ∃ k : Nat, k ≤ n ∧ Hid (∀ j, j < k → f j ≠ x) ∧ i = .int .i64 k) (fun i => n - (intOf i).toNat)
    case atStart => exact ⟨0, by omega, Lib.hid (by intro j hj; omega), rfl⟩
    case round =>
      obtain ⟨k, hk, hz, rfl⟩ := hrel
      by_cases hlt : k < n
      · have hcell := HC.out k hlt
        by_cases he : x = f k
        · have HE := Lib.hid he
          have ht : (x == f k) = true := by rw [beq_iff_eq]; exact he
          clear he
          go_wp2_with fail
          go_ret
          refine ⟨k, rfl, .inr ⟨k, rfl, by rw [HN.out]; exact hlt, by rw [← HF.out, HE.out], fun j hj => by rw [← HF.out]; exact hz.out j hj⟩, rfl⟩
        · have HE := Lib.hid he
          have ht : (x == f k) = false := by rw [beq_eq_false_iff_ne]; exact he
          clear he
          go_wp2_with fail
          go_round
          case rel =>
            refine ⟨k + 1, by omega, Lib.hid ?_, by go_num⟩
            intro j hj
            by_cases hjk : j = k
            · subst hjk; exact fun h => HE.out h.symm
            · exact hz.out j (by omega)
          case measure => simp [intOf]; omega
      · obtain rfl : k = n := by omega
        go_wp2_with fail
        go_ret
        exact ⟨-1, rfl, .inl ⟨rfl, fun j hj => by rw [HN.out] at hj; rw [← HF.out]; exact hz.out j hj⟩, rfl⟩
end Go.Proofs.Ytooghdnlaonkaaa
