/- A name of one letter. -/
import Derived.Test.YtfompfaepabpgaaFairM
import Derived.Laws.BytesString
namespace Go.Proofs.Ytfompfaepabpgaa
open Go.RowKit

theorem oneStr (w : World) (b : Nat) (c : Nat) (h : w.cell? ⟨b, 0, none⟩ = some (.int .u8 (c : Int))) :
    Sem.run Try.prog (convert 66 9 (.slice (some ⟨b, 0, none⟩) 1 1)) w = .ok (.string ⟨#[UInt8.ofNat c]⟩) w := by
  rw [run_convert_bytes_string w 66 9 5 _ _ _ Try.underlying66 Try.underlying5 Try.underlying9]
  rw [run_bytesToString w ⟨b, 0, none⟩ 1 1 [(c : Int)] (by simp [loadCells, go_sem, h])]
  rfl
end Go.Proofs.Ytfompfaepabpgaa
