/- castkeep.turns; the walk of OrbitsFermat. -/
import Derived.Test.YtdabgibmbmhmdaaOrbR
import Derived.Test.YtdabgibmbmhmdaaGood
namespace Go.Proofs.Ytdabgibmbmhmdaa
open Go.RowKit

/-- one row in a row of its own -/
theorem rm_one {w0 w : World} {L : List Ent} {A B : Nat} {l : List Int} {n : Nat} (hl : l.length = n) (hF : Fr w0 w (⟨22, .slice (some ⟨B, 0, none⟩) 1 1, [.slice (some ⟨A, 0, none⟩) n n]⟩ :: ⟨3, .slice (some ⟨A, 0, none⟩) n n, ints l⟩ :: L)) :
    Rm w (some ⟨B, 0, none⟩) [(some ⟨A, 0, none⟩, n, l)] := by
  subst hl
  exact ⟨hF.get 0 rfl, fun p hp => by rw [List.mem_singleton] at hp; subst hp; exact hF.get 1 rfl⟩
set_option maxRecDepth 100000 in
set_option maxHeartbeats 8000000 in
theorem turnsOk (w : World) : Calls Try.prog 51 #[] w fun e w' => e = .returned (.bool true) ∧ Fr w w' [] := by
  obtain ⟨N, hN⟩ : ∃ N, w.heap.size = N := ⟨_, rfl⟩
  have h1 := (Fr.start w).lit' [1, 2, 0] #[.int .i64 1, .int .i64 2, .int .i64 0] rfl 3 rfl (by omega) 3 N hN
  have h2 := h1.new 22 #[.slice (some ⟨N, 0, none⟩) 3 3] [.slice (some ⟨N, 0, none⟩) 3 3] rfl 1 rfl (by omega)
  have e1 : (w.alloc (.cells #[.int .i64 1, .int .i64 2, .int .i64 0] 3)).heap.size = N + 1 := by simp [hN]
  rw [e1] at h2
  have hA : AllPn 3 (lsR [((some ⟨N, 0, none⟩, 3, [1, 2, 0]) : Rw)]) := fun p hp => by
    have hp : p ∈ [[1, 2, 0]] := hp
    rw [List.mem_singleton] at hp; subst hp
    exact ring3.gens _ (by decide)
  have HC := Lib.hid (orbCol 3 [(some ⟨N, 0, none⟩, 3, [1, 2, 0])] 1 _ 1 2 _ (rm_one rfl h2) rfl (by omega) (by omega) hA (by omega))
  have HF2 := Lib.hid h2
  clear h1 h2 hA e1
  go_enter Try.func51, Try.ntmps51
  go_wp2_with fail
  refine HC.out.mono ?_; rintro e w1 ⟨G, hg, rfl, hf1⟩
  obtain rfl : rotL 3 = G := IsGrp.uniq hg ring3
  rw [turns_col]
  have HF3 := Lib.hid (HF2.out.keep hf1.bel).below
  clear hf1 hg HC HF2
  obtain ⟨M, hM⟩ : ∃ M, w1.heap.size = M := ⟨_, rfl⟩
  have h1 := HF3.out.lit' [1, 2, 0] #[.int .i64 1, .int .i64 2, .int .i64 0] rfl 3 rfl (by omega) 3 M hM
  have h2 := h1.new 22 #[.slice (some ⟨M, 0, none⟩) 3 3] [.slice (some ⟨M, 0, none⟩) 3 3] rfl 1 rfl (by omega)
  have e1 : (w1.alloc (.cells #[.int .i64 1, .int .i64 2, .int .i64 0] 3)).heap.size = M + 1 := by simp [hM]
  rw [e1] at h2
  have hA : AllPn 3 (lsR [((some ⟨M, 0, none⟩, 3, [1, 2, 0]) : Rw)]) := fun p hp => by
    have hp : p ∈ [[1, 2, 0]] := hp
    rw [List.mem_singleton] at hp; subst hp
    exact ring3.gens _ (by decide)
  have HG := Lib.hid (orbGroup 3 [(some ⟨M, 0, none⟩, 3, [1, 2, 0])] 1 _ 1 _ (rm_one rfl h2) rfl (by omega) (by omega) hA)
  have HF4 := Lib.hid h2
  clear h1 h2 hA e1
  go_wp2_with fail
  refine HG.out.mono ?_; rintro e w2 ⟨ad, cp, R, rfl, hf2, hg⟩
  have hR : R.length = 3 := by
    have := IsGrp.uniq hg ring3
    rw [← lsR_len, ← this]; rfl
  rw [hR]
  have HF5 := Lib.hid (HF4.out.keep hf2.bel).below
  clear hf2 hg hR HG HF4
  go_wp2_with fail
  refine (good2b _ w2.heap.size _ rfl).mono ?_; rintro e w' ⟨rfl, rfl⟩
  have HF6 := Lib.hid (HF5.out.alloc (.cells #[.int .i64 0, .int .i64 0] 23))
  go_wp2_with fail
  go_ret
  exact ⟨rfl, HF6.out⟩
end Go.Proofs.Ytdabgibmbmhmdaa
