/- Contract of won with an error. -/
import Derived.Test.YtfompfaepabpgaaHal8
namespace Go.Proofs.Ytfompfaepabpgaa
open Go.RowKit

set_option maxRecDepth 100000 in
set_option maxHeartbeats 8000000 in
theorem halWonE {w0 w : World} (H : Nat) (s : HSt) (B : List Big) (i er : Int) (h : Hw w0 w H s B) (he : er ≠ 0) :
    Calls Try.prog 46 #[.pointer (some ⟨H, 0, .none⟩), .int .i64 i, .int .i64 er] w (ToldW w0 H s B ⟨#[]⟩ 0 er) := by
  obtain ⟨am, cm, al, cl, hf⟩ := h
  have hf1 := hf.new 32 #[.string ⟨#[]⟩, .int .i64 0] [.string ⟨#[]⟩, .int .i64 0] rfl w.heap.size rfl 2 rfl (by omega)
  obtain ⟨N, hN⟩ : ∃ N, w.heap.size = N := ⟨_, rfl⟩
  rw [hN] at hf1
  obtain ⟨gt, e, -, -, t1, t2⟩ := hf1.open (T := 32) (c := 1) (n := 2) (cap := 2) (ad := some ⟨N, 0, none⟩) (xs := [.string ⟨#[]⟩, .int .i64 0]) List.mem_cons_self (by simp)
  cases e
  have c0 := t1 0 (by simp)
  have c1 := t1 1 (by simp)
  have f0 := t2 0
  have f1 := t2 1
  simp at c0 c1
  have z : (er != 0) = true := by rw [bne_iff_ne]; exact he
  have HF1 := Lib.hid hf1
  clear hf hf1 t1 t2
  go_enter Try.func46, Try.ntmps46
  go_wp2_with fail
  have h4 : ToldW w0 H s B ⟨#[]⟩ 0 er (.returned (.tuple #[.agg #[.string ⟨#[]⟩, .int .i64 0], .int .i64 er])) (w.alloc (.cells #[.string ⟨#[]⟩, .int .i64 0] 32)) := ⟨rfl, am, cm, al, cl, HF1.out.tail⟩
  refine bodyPost_ret (v := .tuple #[.agg #[.string ⟨#[]⟩, .int .i64 0], .int .i64 er]) ?_ ?_ ?_
  rotate_left
  · rfl
  · exact h4
  simp [results, Try.results46, go_sem, c0, c1]
end Go.Proofs.Ytfompfaepabpgaa
