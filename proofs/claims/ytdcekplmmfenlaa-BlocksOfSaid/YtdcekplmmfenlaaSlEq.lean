/- slices.Equal over two equal slices. -/
import Derived.Test.YtdcekplmmfenlaaSlF
namespace Go.Proofs.Ytdcekplmmfenlaa
open Go.RowKit

theorem below_drewN {B : Nat} {a w : World} (h : Below B a w) : ∀ n, Below B a (w.drewN n) := fun _ => ⟨h.os, h.tape, h.output, h.size, h.block⟩

set_option maxHeartbeats 1000000 in
theorem sliceEq_same (l : List Int) (v u : Value) (w : World) (h : Sl w v l) (h' : Sl w u l) (hl : l.length ≤ 1000000) :
    Calls Try.prog 30 #[v, u] w fun e w' => e = .returned (.bool true) ∧ Below w.heap.size w w' := by
  rcases h with ⟨rfl, a, cap, rfl⟩ | ⟨h0, b, off, cap, rfl, hb, hc⟩
  · rcases h' with ⟨_, a', cap', rfl⟩ | ⟨h0', _⟩
    · go_enter Try.func30, Try.ntmps30
      go_wp2_with fail
      go_loop [13] (fun i => i = .int .i64 0) (fun _ => 0)
      case atStart => rfl
      case round =>
        subst hrel
        go_wp2_with fail
        go_ret
        exact ⟨rfl, Below.refl _ _⟩
    · simp at h0'
  · rcases h' with ⟨h1, _⟩ | ⟨h0', b', off', cap', rfl, hb', hc'⟩
    · rw [h1] at h0; simp at h0
    obtain ⟨f, hf⟩ : ∃ f : Nat → Int, ∀ i, f i = l.getD i 0 := ⟨fun i => l.getD i 0, fun _ => rfl⟩
    have HC : Hid (∀ i, i < l.length → w.cell? ⟨b, off + i, none⟩ = some (.int .i64 (f i))) := Lib.hid (fun i hi => by rw [hc i hi, hf])
    have HC' : Hid (∀ i, i < l.length → w.cell? ⟨b', off' + i, none⟩ = some (.int .i64 (f i))) := Lib.hid (fun i hi => by rw [hc' i hi, hf])
    clear hc hf hc'
    generalize hn : l.length = n at *
    have HN := Lib.hid hn; clear hn
    go_enter Try.func30, Try.ntmps30
    have hne : (((n : Nat) : Int) == ((n : Nat) : Int)) = true := beq_self_eq_true _
    go_wp2_with fail
    go_loopw [13] (fun i wr => ∃ k : Nat, k ≤ n ∧ i = .int .i64 k ∧ Below w.heap.size w wr) (fun i _ => n - (intOf i).toNat)
    case atStart => exact ⟨0, by omega, rfl, Below.refl _ _⟩
    case round =>
      obtain ⟨k, hk, rfl, hbel⟩ := hrel
      have HB := Lib.hid hbel
      by_cases hlt : k < n
      · have hcell : wr.cell? ⟨b, off + k, none⟩ = some (.int .i64 (f k)) := by
          rw [hbel.cell (p := ⟨b, off + k, none⟩) hb]; exact HC.out k hlt
        have hcell' : wr.cell? ⟨b', off' + k, none⟩ = some (.int .i64 (f k)) := by
          rw [hbel.cell (p := ⟨b', off' + k, none⟩) hb']; exact HC'.out k hlt
        have hfe : (f k == f k) = true := beq_self_eq_true _
        clear hbel
        go_wp2_with fail
        go_quiet (fail)
        go_wp2_with fail
        go_roundw
        case rel => exact ⟨k + 1, by omega, by go_num, below_drewN HB.out _⟩
        case measure => simp [intOf]; omega
      · go_wp2_with fail
        go_ret
        exact ⟨rfl, HB.out⟩
end Go.Proofs.Ytdcekplmmfenlaa
