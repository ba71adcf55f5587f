/- Several of my texts in one: Good. -/
import Derived.Test.YtooghdnlaonkaaaPw01
/- good over literal slices, the block told by its number. -/
namespace Go.Proofs.Ytooghdnlaonkaaa
open Go.RowKit
theorem good1b (w : World) (b : Nat) (T : TypeId) (hb : w.heap.size = b) :
    Calls Try.prog 67 #[.slice (some ⟨b, 0, none⟩) 1 1] (w.alloc (.cells #[.int .i64 0] T)) fun e w' => e = .returned (.bool true) ∧ w.alloc (.cells #[.int .i64 0] T) = w' := by
  subst hb; exact good1 w T
theorem good2b (w : World) (b : Nat) (T : TypeId) (hb : w.heap.size = b) :
    Calls Try.prog 67 #[.slice (some ⟨b, 0, none⟩) 2 2] (w.alloc (.cells #[.int .i64 0, .int .i64 0] T)) fun e w' => e = .returned (.bool true) ∧ w.alloc (.cells #[.int .i64 0, .int .i64 0] T) = w' := by
  subst hb; exact good2 w T
theorem good3b (w : World) (b : Nat) (T : TypeId) (hb : w.heap.size = b) :
    Calls Try.prog 67 #[.slice (some ⟨b, 0, none⟩) 3 3] (w.alloc (.cells #[.int .i64 0, .int .i64 0, .int .i64 0] T)) fun e w' => e = .returned (.bool true) ∧ w.alloc (.cells #[.int .i64 0, .int .i64 0, .int .i64 0] T) = w' := by
  subst hb; exact good3 w T
theorem good4b (w : World) (b : Nat) (T : TypeId) (hb : w.heap.size = b) :
    Calls Try.prog 67 #[.slice (some ⟨b, 0, none⟩) 4 4] (w.alloc (.cells #[.int .i64 0, .int .i64 0, .int .i64 0, .int .i64 0] T)) fun e w' => e = .returned (.bool true) ∧ w.alloc (.cells #[.int .i64 0, .int .i64 0, .int .i64 0, .int .i64 0] T) = w' := by
  subst hb; exact good4 w T
theorem good5b (w : World) (b : Nat) (T : TypeId) (hb : w.heap.size = b) :
    Calls Try.prog 67 #[.slice (some ⟨b, 0, none⟩) 5 5] (w.alloc (.cells #[.int .i64 0, .int .i64 0, .int .i64 0, .int .i64 0, .int .i64 0] T)) fun e w' => e = .returned (.bool true) ∧ w.alloc (.cells #[.int .i64 0, .int .i64 0, .int .i64 0, .int .i64 0, .int .i64 0] T) = w' := by
  subst hb; exact good5 w T
theorem good6b (w : World) (b : Nat) (T : TypeId) (hb : w.heap.size = b) :
    Calls Try.prog 67 #[.slice (some ⟨b, 0, none⟩) 6 6] (w.alloc (.cells #[.int .i64 0, .int .i64 0, .int .i64 0, .int .i64 0, .int .i64 0, .int .i64 0] T)) fun e w' => e = .returned (.bool true) ∧ w.alloc (.cells #[.int .i64 0, .int .i64 0, .int .i64 0, .int .i64 0, .int .i64 0, .int .i64 0] T) = w' := by
  subst hb; exact good6 w T
theorem good7b (w : World) (b : Nat) (T : TypeId) (hb : w.heap.size = b) :
    Calls Try.prog 67 #[.slice (some ⟨b, 0, none⟩) 7 7] (w.alloc (.cells #[.int .i64 0, .int .i64 0, .int .i64 0, .int .i64 0, .int .i64 0, .int .i64 0, .int .i64 0] T)) fun e w' => e = .returned (.bool true) ∧ w.alloc (.cells #[.int .i64 0, .int .i64 0, .int .i64 0, .int .i64 0, .int .i64 0, .int .i64 0, .int .i64 0] T) = w' := by
  subst hb; exact good7 w T
theorem good8b (w : World) (b : Nat) (T : TypeId) (hb : w.heap.size = b) :
    Calls Try.prog 67 #[.slice (some ⟨b, 0, none⟩) 8 8] (w.alloc (.cells #[.int .i64 0, .int .i64 0, .int .i64 0, .int .i64 0, .int .i64 0, .int .i64 0, .int .i64 0, .int .i64 0] T)) fun e w' => e = .returned (.bool true) ∧ w.alloc (.cells #[.int .i64 0, .int .i64 0, .int .i64 0, .int .i64 0, .int .i64 0, .int .i64 0, .int .i64 0, .int .i64 0] T) = w' := by
  subst hb; exact good8 w T
theorem good9b (w : World) (b : Nat) (T : TypeId) (hb : w.heap.size = b) :
    Calls Try.prog 67 #[.slice (some ⟨b, 0, none⟩) 9 9] (w.alloc (.cells #[.int .i64 0, .int .i64 0, .int .i64 0, .int .i64 0, .int .i64 0, .int .i64 0, .int .i64 0, .int .i64 0, .int .i64 0] T)) fun e w' => e = .returned (.bool true) ∧ w.alloc (.cells #[.int .i64 0, .int .i64 0, .int .i64 0, .int .i64 0, .int .i64 0, .int .i64 0, .int .i64 0, .int .i64 0, .int .i64 0] T) = w' := by
  subst hb; exact good9 w T
theorem good10b (w : World) (b : Nat) (T : TypeId) (hb : w.heap.size = b) :
    Calls Try.prog 67 #[.slice (some ⟨b, 0, none⟩) 10 10] (w.alloc (.cells #[.int .i64 0, .int .i64 0, .int .i64 0, .int .i64 0, .int .i64 0, .int .i64 0, .int .i64 0, .int .i64 0, .int .i64 0, .int .i64 0] T)) fun e w' => e = .returned (.bool true) ∧ w.alloc (.cells #[.int .i64 0, .int .i64 0, .int .i64 0, .int .i64 0, .int .i64 0, .int .i64 0, .int .i64 0, .int .i64 0, .int .i64 0, .int .i64 0] T) = w' := by
  subst hb; exact good10 w T
end Go.Proofs.Ytooghdnlaonkaaa
