/-
  No cell of these rows narrows 'for every input' (looked for: loops, veiled, ifaces, maps, wideKeys, modest, calm, conditions, laid).
  DERIVED. THE GIVEN ROWS OF THIS SEAT. 12 by the template 'for every input the law returns true; each argument reads behind the call as it read before'; 0 by the template 'total and deterministic' (their statements: YtliajiilcicppaaTotals.lean).
  GIVEN WITH THE SEED: the statements are not yours to turn. If you find one false, say at which input.
  Laid BY PROGRAM, IN A SANDBOX (cutbox-rows.mjs): the forced cells as the released guide's own fill.sh prints them over the translation f1f0a555dba2d374… (all of the seat's roots in one cut). By AI agents, Wed Nov 11 2026. No macro, syntax, notation, axiom, sorry.
-/
import Derived.Test.YtliajiilcicppaaChecked
import GoSem.Claim
import GoSem.ClaimJoined
import GoSem.ClaimMapViews
import Derived.JoinedTies
import Derived.KernelRfl
namespace Go.Proofs.Ytliajiilcicppaa
/- THE CELL 'sum', in the pinned program and in every row, IS THE sha256 OF THE DUMP (.gsa) THAT YtliajiilcicppaaProg.lean LOADS. Nothing in Lean hashes anything: it is a label: what it is worth is what the hold of that sum in a sandbox is worth. -/
noncomputable def Try.pinned : Pinned := { name := "ytliajiilcicppaa", sum := "f1f0a555dba2d374d512a3b2f5b298ee02c928eace61dea74c0412ac5d99ee96", checked := Try.checked }
namespace Rows
def none {H : Type} : Left H := { results := [], args := [] }

/-- 'castkeep.RatioOrder': WHATEVER THE INPUT: true; the input reads as it did. -/
def ratioOrderSpec : ChangeSpec := { name := "ratioOrder", fn := fun _ => fun
  | [d1, d2, d3] => { results := [.lit (.bool true)], args := [d1, d2, d3] }
  | _ => none }
def ratioOrderRow : OpenClaim := { program := "ytliajiilcicppaa", sum := "f1f0a555dba2d374d512a3b2f5b298ee02c928eace61dea74c0412ac5d99ee96", func := "lotcaster/castkeep.RatioOrder", spec := "ratioOrder", unfollowed := true, recurses := true, apart := false }
def RatioOrderSaid : Prop := ratioOrderRow.holds Try.pinned (OpenSpec.ofChange ratioOrderSpec)

/-- ITS FALSE NEIGHBOUR: 'it returns false'. Refute it at one input. -/
def ratioOrderWrong : ChangeSpec := { name := "ratioOrder", fn := fun _ => fun
  | [d1, d2, d3] => { results := [.lit (.bool false)], args := [d1, d2, d3] }
  | _ => none }
def RatioOrderWrongFalsely : Prop := ratioOrderRow.holds Try.pinned (OpenSpec.ofChange ratioOrderWrong)

/-- 'castkeep.RatioField': WHATEVER THE INPUT: true; the input reads as it did. -/
def ratioFieldSpec : ChangeSpec := { name := "ratioField", fn := fun _ => fun
  | [d1, d2, d3, d4, d5, d6] => { results := [.lit (.bool true)], args := [d1, d2, d3, d4, d5, d6] }
  | _ => none }
def ratioFieldRow : OpenClaim := { program := "ytliajiilcicppaa", sum := "f1f0a555dba2d374d512a3b2f5b298ee02c928eace61dea74c0412ac5d99ee96", func := "lotcaster/castkeep.RatioField", spec := "ratioField", unfollowed := true, recurses := true, apart := false }
def RatioFieldSaid : Prop := ratioFieldRow.holds Try.pinned (OpenSpec.ofChange ratioFieldSpec)

/-- ITS FALSE NEIGHBOUR: 'it returns false'. Refute it at one input. -/
def ratioFieldWrong : ChangeSpec := { name := "ratioField", fn := fun _ => fun
  | [d1, d2, d3, d4, d5, d6] => { results := [.lit (.bool false)], args := [d1, d2, d3, d4, d5, d6] }
  | _ => none }
def RatioFieldWrongFalsely : Prop := ratioFieldRow.holds Try.pinned (OpenSpec.ofChange ratioFieldWrong)

/-- 'castkeep.RatioBetween': WHATEVER THE INPUT: true; the input reads as it did. -/
def ratioBetweenSpec : ChangeSpec := { name := "ratioBetween", fn := fun _ => fun
  | [d1, d2] => { results := [.lit (.bool true)], args := [d1, d2] }
  | _ => none }
def ratioBetweenRow : OpenClaim := { program := "ytliajiilcicppaa", sum := "f1f0a555dba2d374d512a3b2f5b298ee02c928eace61dea74c0412ac5d99ee96", func := "lotcaster/castkeep.RatioBetween", spec := "ratioBetween", unfollowed := true, recurses := true, apart := false }
def RatioBetweenSaid : Prop := ratioBetweenRow.holds Try.pinned (OpenSpec.ofChange ratioBetweenSpec)

/-- ITS FALSE NEIGHBOUR: 'it returns false'. Refute it at one input. -/
def ratioBetweenWrong : ChangeSpec := { name := "ratioBetween", fn := fun _ => fun
  | [d1, d2] => { results := [.lit (.bool false)], args := [d1, d2] }
  | _ => none }
def RatioBetweenWrongFalsely : Prop := ratioBetweenRow.holds Try.pinned (OpenSpec.ofChange ratioBetweenWrong)

/-- 'castkeep.EventApart': WHATEVER THE INPUT: true; the input reads as it did. -/
def eventApartSpec : ChangeSpec := { name := "eventApart", fn := fun _ => fun
  | [d1, d2, d3] => { results := [.lit (.bool true)], args := [d1, d2, d3] }
  | _ => none }
def eventApartRow : OpenClaim := { program := "ytliajiilcicppaa", sum := "f1f0a555dba2d374d512a3b2f5b298ee02c928eace61dea74c0412ac5d99ee96", func := "lotcaster/castkeep.EventApart", spec := "eventApart", unfollowed := true, recurses := true, apart := false }
def EventApartSaid : Prop := eventApartRow.holds Try.pinned (OpenSpec.ofChange eventApartSpec)

/-- ITS FALSE NEIGHBOUR: 'it returns false'. Refute it at one input. -/
def eventApartWrong : ChangeSpec := { name := "eventApart", fn := fun _ => fun
  | [d1, d2, d3] => { results := [.lit (.bool false)], args := [d1, d2, d3] }
  | _ => none }
def EventApartWrongFalsely : Prop := eventApartRow.holds Try.pinned (OpenSpec.ofChange eventApartWrong)

/-- 'castkeep.EventSome': WHATEVER THE INPUT: true; the input reads as it did. -/
def eventSomeSpec : ChangeSpec := { name := "eventSome", fn := fun _ => fun
  | [d1, d2] => { results := [.lit (.bool true)], args := [d1, d2] }
  | _ => none }
def eventSomeRow : OpenClaim := { program := "ytliajiilcicppaa", sum := "f1f0a555dba2d374d512a3b2f5b298ee02c928eace61dea74c0412ac5d99ee96", func := "lotcaster/castkeep.EventSome", spec := "eventSome", unfollowed := true, recurses := true, apart := false }
def EventSomeSaid : Prop := eventSomeRow.holds Try.pinned (OpenSpec.ofChange eventSomeSpec)

/-- ITS FALSE NEIGHBOUR: 'it returns false'. Refute it at one input. -/
def eventSomeWrong : ChangeSpec := { name := "eventSome", fn := fun _ => fun
  | [d1, d2] => { results := [.lit (.bool false)], args := [d1, d2] }
  | _ => none }
def EventSomeWrongFalsely : Prop := eventSomeRow.holds Try.pinned (OpenSpec.ofChange eventSomeWrong)

/-- 'castkeep.EventWhole': WHATEVER THE INPUT: true; the input reads as it did. -/
def eventWholeSpec : ChangeSpec := { name := "eventWhole", fn := fun _ => fun
  | [d1, d2, d3] => { results := [.lit (.bool true)], args := [d1, d2, d3] }
  | _ => none }
def eventWholeRow : OpenClaim := { program := "ytliajiilcicppaa", sum := "f1f0a555dba2d374d512a3b2f5b298ee02c928eace61dea74c0412ac5d99ee96", func := "lotcaster/castkeep.EventWhole", spec := "eventWhole", unfollowed := true, recurses := true, apart := false }
def EventWholeSaid : Prop := eventWholeRow.holds Try.pinned (OpenSpec.ofChange eventWholeSpec)

/-- ITS FALSE NEIGHBOUR: 'it returns false'. Refute it at one input. -/
def eventWholeWrong : ChangeSpec := { name := "eventWhole", fn := fun _ => fun
  | [d1, d2, d3] => { results := [.lit (.bool false)], args := [d1, d2, d3] }
  | _ => none }
def EventWholeWrongFalsely : Prop := eventWholeRow.holds Try.pinned (OpenSpec.ofChange eventWholeWrong)

/-- 'castkeep.EventBayes': WHATEVER THE INPUT: true; the input reads as it did. -/
def eventBayesSpec : ChangeSpec := { name := "eventBayes", fn := fun _ => fun
  | [d1, d2, d3] => { results := [.lit (.bool true)], args := [d1, d2, d3] }
  | _ => none }
def eventBayesRow : OpenClaim := { program := "ytliajiilcicppaa", sum := "f1f0a555dba2d374d512a3b2f5b298ee02c928eace61dea74c0412ac5d99ee96", func := "lotcaster/castkeep.EventBayes", spec := "eventBayes", unfollowed := true, recurses := true, apart := false }
def EventBayesSaid : Prop := eventBayesRow.holds Try.pinned (OpenSpec.ofChange eventBayesSpec)

/-- ITS FALSE NEIGHBOUR: 'it returns false'. Refute it at one input. -/
def eventBayesWrong : ChangeSpec := { name := "eventBayes", fn := fun _ => fun
  | [d1, d2, d3] => { results := [.lit (.bool false)], args := [d1, d2, d3] }
  | _ => none }
def EventBayesWrongFalsely : Prop := eventBayesRow.holds Try.pinned (OpenSpec.ofChange eventBayesWrong)

/-- 'castkeep.OddsChebyshev': WHATEVER THE INPUT: true; the input reads as it did. -/
def oddsChebyshevSpec : ChangeSpec := { name := "oddsChebyshev", fn := fun _ => fun
  | [d1, d2] => { results := [.lit (.bool true)], args := [d1, d2] }
  | _ => none }
def oddsChebyshevRow : OpenClaim := { program := "ytliajiilcicppaa", sum := "f1f0a555dba2d374d512a3b2f5b298ee02c928eace61dea74c0412ac5d99ee96", func := "lotcaster/castkeep.OddsChebyshev", spec := "oddsChebyshev", unfollowed := true, recurses := true, apart := false }
def OddsChebyshevSaid : Prop := oddsChebyshevRow.holds Try.pinned (OpenSpec.ofChange oddsChebyshevSpec)

/-- ITS FALSE NEIGHBOUR: 'it returns false'. Refute it at one input. -/
def oddsChebyshevWrong : ChangeSpec := { name := "oddsChebyshev", fn := fun _ => fun
  | [d1, d2] => { results := [.lit (.bool false)], args := [d1, d2] }
  | _ => none }
def OddsChebyshevWrongFalsely : Prop := oddsChebyshevRow.holds Try.pinned (OpenSpec.ofChange oddsChebyshevWrong)

/-- 'castkeep.OddsSums': WHATEVER THE INPUT: true; the input reads as it did. -/
def oddsSumsSpec : ChangeSpec := { name := "oddsSums", fn := fun _ => fun
  | [d1, d2] => { results := [.lit (.bool true)], args := [d1, d2] }
  | _ => none }
def oddsSumsRow : OpenClaim := { program := "ytliajiilcicppaa", sum := "f1f0a555dba2d374d512a3b2f5b298ee02c928eace61dea74c0412ac5d99ee96", func := "lotcaster/castkeep.OddsSums", spec := "oddsSums", unfollowed := true, recurses := true, apart := false }
def OddsSumsSaid : Prop := oddsSumsRow.holds Try.pinned (OpenSpec.ofChange oddsSumsSpec)

/-- ITS FALSE NEIGHBOUR: 'it returns false'. Refute it at one input. -/
def oddsSumsWrong : ChangeSpec := { name := "oddsSums", fn := fun _ => fun
  | [d1, d2] => { results := [.lit (.bool false)], args := [d1, d2] }
  | _ => none }
def OddsSumsWrongFalsely : Prop := oddsSumsRow.holds Try.pinned (OpenSpec.ofChange oddsSumsWrong)

/-- 'castkeep.OddsBernoulli': WHATEVER THE INPUT: true; the input reads as it did. -/
def oddsBernoulliSpec : ChangeSpec := { name := "oddsBernoulli", fn := fun _ => fun
  | [d1, d2] => { results := [.lit (.bool true)], args := [d1, d2] }
  | _ => none }
def oddsBernoulliRow : OpenClaim := { program := "ytliajiilcicppaa", sum := "f1f0a555dba2d374d512a3b2f5b298ee02c928eace61dea74c0412ac5d99ee96", func := "lotcaster/castkeep.OddsBernoulli", spec := "oddsBernoulli", unfollowed := true, recurses := true, apart := false }
def OddsBernoulliSaid : Prop := oddsBernoulliRow.holds Try.pinned (OpenSpec.ofChange oddsBernoulliSpec)

/-- ITS FALSE NEIGHBOUR: 'it returns false'. Refute it at one input. -/
def oddsBernoulliWrong : ChangeSpec := { name := "oddsBernoulli", fn := fun _ => fun
  | [d1, d2] => { results := [.lit (.bool false)], args := [d1, d2] }
  | _ => none }
def OddsBernoulliWrongFalsely : Prop := oddsBernoulliRow.holds Try.pinned (OpenSpec.ofChange oddsBernoulliWrong)

/-- 'castkeep.OddsMarkov': WHATEVER THE INPUT: true; the input reads as it did. -/
def oddsMarkovSpec : ChangeSpec := { name := "oddsMarkov", fn := fun _ => fun
  | [d1, d2] => { results := [.lit (.bool true)], args := [d1, d2] }
  | _ => none }
def oddsMarkovRow : OpenClaim := { program := "ytliajiilcicppaa", sum := "f1f0a555dba2d374d512a3b2f5b298ee02c928eace61dea74c0412ac5d99ee96", func := "lotcaster/castkeep.OddsMarkov", spec := "oddsMarkov", unfollowed := true, recurses := true, apart := false }
def OddsMarkovSaid : Prop := oddsMarkovRow.holds Try.pinned (OpenSpec.ofChange oddsMarkovSpec)

/-- ITS FALSE NEIGHBOUR: 'it returns false'. Refute it at one input. -/
def oddsMarkovWrong : ChangeSpec := { name := "oddsMarkov", fn := fun _ => fun
  | [d1, d2] => { results := [.lit (.bool false)], args := [d1, d2] }
  | _ => none }
def OddsMarkovWrongFalsely : Prop := oddsMarkovRow.holds Try.pinned (OpenSpec.ofChange oddsMarkovWrong)

/-- 'castkeep.OddsTail': WHATEVER THE INPUT: true; the input reads as it did. -/
def oddsTailSpec : ChangeSpec := { name := "oddsTail", fn := fun _ => fun
  | [d1, d2] => { results := [.lit (.bool true)], args := [d1, d2] }
  | _ => none }
def oddsTailRow : OpenClaim := { program := "ytliajiilcicppaa", sum := "f1f0a555dba2d374d512a3b2f5b298ee02c928eace61dea74c0412ac5d99ee96", func := "lotcaster/castkeep.OddsTail", spec := "oddsTail", unfollowed := true, recurses := true, apart := false }
def OddsTailSaid : Prop := oddsTailRow.holds Try.pinned (OpenSpec.ofChange oddsTailSpec)

/-- ITS FALSE NEIGHBOUR: 'it returns false'. Refute it at one input. -/
def oddsTailWrong : ChangeSpec := { name := "oddsTail", fn := fun _ => fun
  | [d1, d2] => { results := [.lit (.bool false)], args := [d1, d2] }
  | _ => none }
def OddsTailWrongFalsely : Prop := oddsTailRow.holds Try.pinned (OpenSpec.ofChange oddsTailWrong)

/- THE SECOND FORM. 'bulk': how many values and letters a reading holds, each counted each time it is reached (what is shared counts as often as it is met; a slice's spare places count too). A statement '..UptoSaid' is the law's where the arguments, and the package variables that the reading takes, are together of bulk at most 1048576: NARROWER than '..Said'. Prove '..Said' where nothing that the law and all that it calls make is longer than what came in: it says more and counts as full. Else prove '..UptoSaid'. A law counts once. -/
mutual
def uptoBulk {H : Type} : DataW H → Nat
  | .lit (.string bytes) => bytes.length + 1
  | .lit _ => 1
  | .nil => 1
  | .ptr d => uptoBulk d + 1
  | .slice elems spare => uptoBulkAll elems + uptoBulkAll spare + 1
  | .agg parts => uptoBulkAll parts + 1
  | .iface _ d => uptoBulk d + 1
  | .map entries => uptoBulkEntries entries + 1
  | .held _ => 1
def uptoBulkAll {H : Type} : List (DataW H) → Nat
  | [] => 0
  | d :: r => uptoBulk d + uptoBulkAll r
def uptoBulkEntries {H : Type} : List (Lit × DataW H) → Nat
  | [] => 0
  | x :: r => uptoBulkEntry x + uptoBulkEntries r
def uptoBulkEntry {H : Type} : Lit × DataW H → Nat
  | (.string bytes, d) => bytes.length + uptoBulk d + 1
  | (_, d) => uptoBulk d + 1
 end
def uptoSmall : (H : Type) → List (DataW H) → Bool := fun _ ds => decide (uptoBulkAll ds ≤ 1048576)
def OpenSpec.upto (s : _root_.Go.ChangeSpec) : _root_.Go.OpenSpec := { _root_.Go.OpenSpec.ofChange s with cond := some uptoSmall }

/-- 'castkeep.RatioOrder', WHERE WHAT IT READS IS OF BULK AT MOST 1048576: true; the input reads as it did. -/
def ratioOrderUptoRow : OpenClaim := { program := "ytliajiilcicppaa", sum := "f1f0a555dba2d374d512a3b2f5b298ee02c928eace61dea74c0412ac5d99ee96", func := "lotcaster/castkeep.RatioOrder", spec := "ratioOrder", unfollowed := true, recurses := true, apart := false, narrowed := true }
def RatioOrderUptoSaid : Prop := ratioOrderUptoRow.holds Try.pinned (OpenSpec.upto ratioOrderSpec)

/-- 'castkeep.RatioField', WHERE WHAT IT READS IS OF BULK AT MOST 1048576: true; the input reads as it did. -/
def ratioFieldUptoRow : OpenClaim := { program := "ytliajiilcicppaa", sum := "f1f0a555dba2d374d512a3b2f5b298ee02c928eace61dea74c0412ac5d99ee96", func := "lotcaster/castkeep.RatioField", spec := "ratioField", unfollowed := true, recurses := true, apart := false, narrowed := true }
def RatioFieldUptoSaid : Prop := ratioFieldUptoRow.holds Try.pinned (OpenSpec.upto ratioFieldSpec)

/-- 'castkeep.RatioBetween', WHERE WHAT IT READS IS OF BULK AT MOST 1048576: true; the input reads as it did. -/
def ratioBetweenUptoRow : OpenClaim := { program := "ytliajiilcicppaa", sum := "f1f0a555dba2d374d512a3b2f5b298ee02c928eace61dea74c0412ac5d99ee96", func := "lotcaster/castkeep.RatioBetween", spec := "ratioBetween", unfollowed := true, recurses := true, apart := false, narrowed := true }
def RatioBetweenUptoSaid : Prop := ratioBetweenUptoRow.holds Try.pinned (OpenSpec.upto ratioBetweenSpec)

/-- 'castkeep.EventApart', WHERE WHAT IT READS IS OF BULK AT MOST 1048576: true; the input reads as it did. -/
def eventApartUptoRow : OpenClaim := { program := "ytliajiilcicppaa", sum := "f1f0a555dba2d374d512a3b2f5b298ee02c928eace61dea74c0412ac5d99ee96", func := "lotcaster/castkeep.EventApart", spec := "eventApart", unfollowed := true, recurses := true, apart := false, narrowed := true }
def EventApartUptoSaid : Prop := eventApartUptoRow.holds Try.pinned (OpenSpec.upto eventApartSpec)

/-- 'castkeep.EventSome', WHERE WHAT IT READS IS OF BULK AT MOST 1048576: true; the input reads as it did. -/
def eventSomeUptoRow : OpenClaim := { program := "ytliajiilcicppaa", sum := "f1f0a555dba2d374d512a3b2f5b298ee02c928eace61dea74c0412ac5d99ee96", func := "lotcaster/castkeep.EventSome", spec := "eventSome", unfollowed := true, recurses := true, apart := false, narrowed := true }
def EventSomeUptoSaid : Prop := eventSomeUptoRow.holds Try.pinned (OpenSpec.upto eventSomeSpec)

/-- 'castkeep.EventWhole', WHERE WHAT IT READS IS OF BULK AT MOST 1048576: true; the input reads as it did. -/
def eventWholeUptoRow : OpenClaim := { program := "ytliajiilcicppaa", sum := "f1f0a555dba2d374d512a3b2f5b298ee02c928eace61dea74c0412ac5d99ee96", func := "lotcaster/castkeep.EventWhole", spec := "eventWhole", unfollowed := true, recurses := true, apart := false, narrowed := true }
def EventWholeUptoSaid : Prop := eventWholeUptoRow.holds Try.pinned (OpenSpec.upto eventWholeSpec)

/-- 'castkeep.EventBayes', WHERE WHAT IT READS IS OF BULK AT MOST 1048576: true; the input reads as it did. -/
def eventBayesUptoRow : OpenClaim := { program := "ytliajiilcicppaa", sum := "f1f0a555dba2d374d512a3b2f5b298ee02c928eace61dea74c0412ac5d99ee96", func := "lotcaster/castkeep.EventBayes", spec := "eventBayes", unfollowed := true, recurses := true, apart := false, narrowed := true }
def EventBayesUptoSaid : Prop := eventBayesUptoRow.holds Try.pinned (OpenSpec.upto eventBayesSpec)

/-- 'castkeep.OddsChebyshev', WHERE WHAT IT READS IS OF BULK AT MOST 1048576: true; the input reads as it did. -/
def oddsChebyshevUptoRow : OpenClaim := { program := "ytliajiilcicppaa", sum := "f1f0a555dba2d374d512a3b2f5b298ee02c928eace61dea74c0412ac5d99ee96", func := "lotcaster/castkeep.OddsChebyshev", spec := "oddsChebyshev", unfollowed := true, recurses := true, apart := false, narrowed := true }
def OddsChebyshevUptoSaid : Prop := oddsChebyshevUptoRow.holds Try.pinned (OpenSpec.upto oddsChebyshevSpec)

/-- 'castkeep.OddsSums', WHERE WHAT IT READS IS OF BULK AT MOST 1048576: true; the input reads as it did. -/
def oddsSumsUptoRow : OpenClaim := { program := "ytliajiilcicppaa", sum := "f1f0a555dba2d374d512a3b2f5b298ee02c928eace61dea74c0412ac5d99ee96", func := "lotcaster/castkeep.OddsSums", spec := "oddsSums", unfollowed := true, recurses := true, apart := false, narrowed := true }
def OddsSumsUptoSaid : Prop := oddsSumsUptoRow.holds Try.pinned (OpenSpec.upto oddsSumsSpec)

/-- 'castkeep.OddsBernoulli', WHERE WHAT IT READS IS OF BULK AT MOST 1048576: true; the input reads as it did. -/
def oddsBernoulliUptoRow : OpenClaim := { program := "ytliajiilcicppaa", sum := "f1f0a555dba2d374d512a3b2f5b298ee02c928eace61dea74c0412ac5d99ee96", func := "lotcaster/castkeep.OddsBernoulli", spec := "oddsBernoulli", unfollowed := true, recurses := true, apart := false, narrowed := true }
def OddsBernoulliUptoSaid : Prop := oddsBernoulliUptoRow.holds Try.pinned (OpenSpec.upto oddsBernoulliSpec)

/-- 'castkeep.OddsMarkov', WHERE WHAT IT READS IS OF BULK AT MOST 1048576: true; the input reads as it did. -/
def oddsMarkovUptoRow : OpenClaim := { program := "ytliajiilcicppaa", sum := "f1f0a555dba2d374d512a3b2f5b298ee02c928eace61dea74c0412ac5d99ee96", func := "lotcaster/castkeep.OddsMarkov", spec := "oddsMarkov", unfollowed := true, recurses := true, apart := false, narrowed := true }
def OddsMarkovUptoSaid : Prop := oddsMarkovUptoRow.holds Try.pinned (OpenSpec.upto oddsMarkovSpec)

/-- 'castkeep.OddsTail', WHERE WHAT IT READS IS OF BULK AT MOST 1048576: true; the input reads as it did. -/
def oddsTailUptoRow : OpenClaim := { program := "ytliajiilcicppaa", sum := "f1f0a555dba2d374d512a3b2f5b298ee02c928eace61dea74c0412ac5d99ee96", func := "lotcaster/castkeep.OddsTail", spec := "oddsTail", unfollowed := true, recurses := true, apart := false, narrowed := true }
def OddsTailUptoSaid : Prop := oddsTailUptoRow.holds Try.pinned (OpenSpec.upto oddsTailSpec)

end Rows
end Go.Proofs.Ytliajiilcicppaa
