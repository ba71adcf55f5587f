/- Several of my texts in one: SlFn2. -/
import Derived.Test.YtooghdnlaonkaaaPw10
/- slices.Reverse of a whole slice of the call's own, empty or not. -/
namespace Go.Proofs.Ytooghdnlaonkaaa
open Go.RowKit

set_option maxHeartbeats 1000000 in
theorem slReverse0 (w : World) : Calls Try.prog 100 #[.slice none 0 0] w fun e w' => e = .returned (.tuple #[]) ∧ w = w' := by
  go_enter Try.func100, Try.ntmps100
  go_wp2_with fail
  go_loop [2, 3] (fun i j => i = .int .i64 0 ∧ j = .int .i64 (-1)) (fun _ _ => 0)
  case atStart => exact ⟨rfl, rfl⟩
  case round =>
    obtain ⟨rfl, rfl⟩ := hrel
    go_wp2_with fail
    go_end0
    exact ⟨rfl, rfl⟩
theorem slReverseAll {w0 : World} (l : List Int) (n cap : Nat) (ad : Option Addr) (L : List Ent) (w : World) (hF : Fr w0 w (⟨3, .slice ad n cap, ints l⟩ :: L)) (hl : n ≤ 1000000) :
    Calls Try.prog 100 #[.slice ad n cap] w fun e w' => e = .returned (.tuple #[]) ∧ Fr w0 w' (⟨3, .slice ad n cap, ints l.reverse⟩ :: L) := by
  have hn := hF.len
  rw [ints_len] at hn
  cases ad with
  | none =>
    obtain ⟨rfl, rfl⟩ := hF.none rfl
    obtain rfl := List.eq_nil_of_length_eq_zero hn.symm
    exact (slReverse0 w).mono fun e w' ⟨h1, h2⟩ => ⟨h1, by subst h2; exact hF⟩
  | some ad =>
    have hO := hF.os.own _ List.mem_cons_self
    rcases hO.elim with ⟨_, ⟨h, _⟩ | ⟨g, cur, h, _⟩⟩
    · cases h
    · cases h
      have := slReverse l n cap g 0 n cap L w hF (by omega) hl
      rw [show revSeg 0 n l = l.reverse from by rw [hn]; exact revSeg_all l] at this
      exact this
/-- x[k:] -/
theorem slice_from (ad : Option Addr) (n cap k : Nat) (hk : k ≤ n) (hc : n ≤ cap) (xs : List Value) (w : World) (h : Sa w ad xs) (hx : xs.length = n) :
    ∃ ad' cap', (∀ W, Sem.run Try.prog (Instr.slice 32 (.slice ad n cap) (some (.int .i64 (k : Int))) none none) W = .ok (.slice ad' (n - k) cap') W) ∧ (∀ W, Sa W ad xs → Sa W ad' (xs.drop k)) ∧ n - k ≤ cap' := by
  have he : Try.prog.elem 32 = 3 := by kernel_rfl
  have ht : Try.prog.underlying 32 = some (.slice (Try.prog.elem 32)) := by rw [he]; exact Try.underlying32
  have hsz : ∀ W, Sem.run Try.prog (sizeOf (Try.prog.elem 32)) W = .ok 1 W := fun W => by
    rw [he]
    obtain ⟨i0, hi, _, hz1, _⟩ := info_parts intInfo
    simp [sizeOf, go_sem]; rfl
  refine ⟨if cap = k then ad else ad.map (·.add (k * 1)), cap - k, fun W => ?_, fun W hW h0 => ?_, by omega⟩
  · rw [run_slice_l W 32 ad n cap ht .i64 k (by omega) (by omega), hsz]
    simp [Result.andThen, sliced]
  · rw [List.length_drop] at h0
    rw [if_neg (by omega)]
    obtain ⟨b, off, rfl, _, _⟩ := hW (by omega)
    have := hW.drop k
    have e : (some ⟨b, off, none⟩ : Option Addr).map (·.add (k * 1)) = some ⟨b, off + k, none⟩ := by
      simp only [Option.map_some, Nat.mul_one]; unfold Addr.add; split
      · next h => simp_all
      · rfl
    rw [e]; exact this (by rw [List.length_drop]; exact h0)
end Go.Proofs.Ytooghdnlaonkaaa
