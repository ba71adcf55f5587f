/- Several of my texts in one: SlMax. -/
import Derived.Test.YtooghdnlaonkaaaPw22
/- slices.Max over a slice that is not empty. -/
namespace Go.Proofs.Ytooghdnlaonkaaa
open Go.RowKit

theorem mst_one (x : Int) (h : 0 ≤ x) : mst [x] = x := by
  show (if (-1 : Int) < x then x else -1) = x
  rw [if_pos (by omega)]

set_option maxHeartbeats 1000000 in
/-- over numbers none of which is below 0 it is the `mst` of blocks.Check -/
theorem slMax (l : List Int) (v : Value) (w : World) (h : Sl w v l) (h1 : 0 < l.length) (hl : l.length ≤ 1000000) (hpos : 0 ≤ l.getD 0 0) :
    Calls Try.prog 109 #[v] w fun e w' => e = .returned (.int .i64 (mst l)) ∧ w = w' := by
  rcases h with ⟨rfl, a, cap, rfl⟩ | ⟨h0, b, off, cap, rfl, hb, hc⟩
  · simp at h1
  · obtain ⟨f, hf⟩ : ∃ f : Nat → Int, ∀ i, f i = l.getD i 0 := ⟨fun i => l.getD i 0, fun _ => rfl⟩
    have HC : Hid (∀ i, i < l.length → w.cell? ⟨b, off + i, none⟩ = some (.int .i64 (f i))) := Lib.hid (fun i hi => by rw [hc i hi, hf])
    have HF := Lib.hid hf
    have HP := Lib.hid hpos
    clear hc hf hb hpos
    generalize hn : l.length = n at *
    have HN := Lib.hid hn; clear hn
    have hc0 := HC.out 0 h1
    rw [Nat.add_zero] at hc0
    go_enter Try.func109, Try.ntmps109
    go_wp2_with fail
    go_loop [3, 4] (fun m i => ∃ k : Nat, 0 < k ∧ k ≤ n ∧ m = .int .i64 (mst (l.take k)) ∧ i = .int .i64 k) (fun _ i => n - (intOf i).toNat)
    case atStart =>
      refine ⟨1, by omega, by omega, ?_, rfl⟩
      rw [take_snocI l 0 (by rw [HN.out]; exact h1), List.take_zero, List.nil_append, mst_one _ HP.out, HF.out]
    case round =>
      obtain ⟨k, hk0, hk, rfl, rfl⟩ := hrel
      by_cases hlt : k < n
      · have hcell := HC.out k hlt
        have hsnoc := Lib.hid (show mst (l.take (k + 1)) = if mst (l.take k) < f k then f k else mst (l.take k) from by rw [take_snocI l k (by rw [HN.out]; exact hlt), mst_snoc, HF.out])
        generalize hM : mst (l.take k) = M at *
        have KM := Lib.hid hM; clear hM
        go_wp2_with fail
        exact ⟨⟨k + 1, by omega, by omega, by rw [hsnoc.out], by simp⟩, by simp [intOf]; omega⟩
      · go_wp2_with fail
        go_ret
        have hkn : l.take k = l := List.take_of_length_le (by rw [HN.out]; omega)
        rw [hkn]
        exact ⟨rfl, rfl⟩
end Go.Proofs.Ytooghdnlaonkaaa
