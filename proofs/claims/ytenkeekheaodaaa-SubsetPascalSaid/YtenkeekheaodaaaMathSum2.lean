/- Plain mathematics: more of sums. -/
import Derived.Test.YtenkeekheaodaaaMathSum
namespace Go.Proofs.Ytenkeekheaodaaa
theorem sumTo_shift (f : Nat → Nat) : ∀ k, sumTo f (k + 1) = f 0 + sumTo (fun i => f (i + 1)) k
  | 0 => by simp [sumTo]
  | k + 1 => by rw [sumTo_succ, sumTo_shift f k, sumTo_succ]; omega
theorem sumTo_add (f g : Nat → Nat) : ∀ k, sumTo (fun i => f i + g i) k = sumTo f k + sumTo g k
  | 0 => rfl
  | k + 1 => by rw [sumTo_succ, sumTo_succ, sumTo_succ, sumTo_add f g k]; omega
end Go.Proofs.Ytenkeekheaodaaa
