/-
  No cell of these rows narrows 'for every input' (looked for: loops, veiled, ifaces, maps, wideKeys, modest, calm, conditions, laid).
  DERIVED. THE GIVEN ROWS OF THIS SEAT. 12 by the template 'for every input the law returns true; each argument reads behind the call as it read before'; 0 by the template 'total and deterministic' (their statements: YtghobphnjfgjeaaTotals.lean).
  GIVEN WITH THE SEED: the statements are not yours to turn. If you find one false, say at which input.
  Laid BY PROGRAM, IN A SANDBOX (cutbox-rows.mjs): the forced cells as the released guide's own fill.sh prints them over the translation e4ef36a7a62652c4… (all of the seat's roots in one cut). By AI agents, Wed Nov 11 2026. No macro, syntax, notation, axiom, sorry.
-/
import Derived.Test.YtghobphnjfgjeaaChecked
import GoSem.Claim
import GoSem.ClaimJoined
import GoSem.ClaimMapViews
import Derived.JoinedTies
import Derived.KernelRfl
namespace Go.Proofs.Ytghobphnjfgjeaa
/- THE CELL 'sum', in the pinned program and in every row, IS THE sha256 OF THE DUMP (.gsa) THAT YtghobphnjfgjeaaProg.lean LOADS. Nothing in Lean hashes anything: it is a label: what it is worth is what the hold of that sum in a sandbox is worth. -/
noncomputable def Try.pinned : Pinned := { name := "ytghobphnjfgjeaa", sum := "e4ef36a7a62652c4d3a4dd83ea0ac4c677db202001f88ad3dd0c6a72453356db", checked := Try.checked }
namespace Rows
def none {H : Type} : Left H := { results := [], args := [] }

/-- 'castkeep.RuinStep': WHATEVER THE INPUT: true; the input reads as it did. -/
def ruinStepSpec : ChangeSpec := { name := "ruinStep", fn := fun _ => fun
  | [d1, d2, d3, d4] => { results := [.lit (.bool true)], args := [d1, d2, d3, d4] }
  | _ => none }
def ruinStepRow : OpenClaim := { program := "ytghobphnjfgjeaa", sum := "e4ef36a7a62652c4d3a4dd83ea0ac4c677db202001f88ad3dd0c6a72453356db", func := "lotcaster/castkeep.RuinStep", spec := "ruinStep", unfollowed := true, recurses := true, apart := false }
def RuinStepSaid : Prop := ruinStepRow.holds Try.pinned (OpenSpec.ofChange ruinStepSpec)

/-- ITS FALSE NEIGHBOUR: 'it returns false'. Refute it at one input. -/
def ruinStepWrong : ChangeSpec := { name := "ruinStep", fn := fun _ => fun
  | [d1, d2, d3, d4] => { results := [.lit (.bool false)], args := [d1, d2, d3, d4] }
  | _ => none }
def RuinStepWrongFalsely : Prop := ruinStepRow.holds Try.pinned (OpenSpec.ofChange ruinStepWrong)

/-- 'castkeep.RuinOther': WHATEVER THE INPUT: true; the input reads as it did. -/
def ruinOtherSpec : ChangeSpec := { name := "ruinOther", fn := fun _ => fun
  | [d1, d2, d3, d4] => { results := [.lit (.bool true)], args := [d1, d2, d3, d4] }
  | _ => none }
def ruinOtherRow : OpenClaim := { program := "ytghobphnjfgjeaa", sum := "e4ef36a7a62652c4d3a4dd83ea0ac4c677db202001f88ad3dd0c6a72453356db", func := "lotcaster/castkeep.RuinOther", spec := "ruinOther", unfollowed := true, recurses := true, apart := false }
def RuinOtherSaid : Prop := ruinOtherRow.holds Try.pinned (OpenSpec.ofChange ruinOtherSpec)

/-- ITS FALSE NEIGHBOUR: 'it returns false'. Refute it at one input. -/
def ruinOtherWrong : ChangeSpec := { name := "ruinOther", fn := fun _ => fun
  | [d1, d2, d3, d4] => { results := [.lit (.bool false)], args := [d1, d2, d3, d4] }
  | _ => none }
def RuinOtherWrongFalsely : Prop := ruinOtherRow.holds Try.pinned (OpenSpec.ofChange ruinOtherWrong)

/-- 'castkeep.RuinTime': WHATEVER THE INPUT: true; the input reads as it did. -/
def ruinTimeSpec : ChangeSpec := { name := "ruinTime", fn := fun _ => fun
  | [d1, d2, d3, d4] => { results := [.lit (.bool true)], args := [d1, d2, d3, d4] }
  | _ => none }
def ruinTimeRow : OpenClaim := { program := "ytghobphnjfgjeaa", sum := "e4ef36a7a62652c4d3a4dd83ea0ac4c677db202001f88ad3dd0c6a72453356db", func := "lotcaster/castkeep.RuinTime", spec := "ruinTime", unfollowed := true, recurses := true, apart := false }
def RuinTimeSaid : Prop := ruinTimeRow.holds Try.pinned (OpenSpec.ofChange ruinTimeSpec)

/-- ITS FALSE NEIGHBOUR: 'it returns false'. Refute it at one input. -/
def ruinTimeWrong : ChangeSpec := { name := "ruinTime", fn := fun _ => fun
  | [d1, d2, d3, d4] => { results := [.lit (.bool false)], args := [d1, d2, d3, d4] }
  | _ => none }
def RuinTimeWrongFalsely : Prop := ruinTimeRow.holds Try.pinned (OpenSpec.ofChange ruinTimeWrong)

/-- 'castkeep.UrnAll': WHATEVER THE INPUT: true; the input reads as it did. -/
def urnAllSpec : ChangeSpec := { name := "urnAll", fn := fun _ => fun
  | [d1, d2, d3] => { results := [.lit (.bool true)], args := [d1, d2, d3] }
  | _ => none }
def urnAllRow : OpenClaim := { program := "ytghobphnjfgjeaa", sum := "e4ef36a7a62652c4d3a4dd83ea0ac4c677db202001f88ad3dd0c6a72453356db", func := "lotcaster/castkeep.UrnAll", spec := "urnAll", apart := false }
def UrnAllSaid : Prop := urnAllRow.holds Try.pinned (OpenSpec.ofChange urnAllSpec)

/-- ITS FALSE NEIGHBOUR: 'it returns false'. Refute it at one input. -/
def urnAllWrong : ChangeSpec := { name := "urnAll", fn := fun _ => fun
  | [d1, d2, d3] => { results := [.lit (.bool false)], args := [d1, d2, d3] }
  | _ => none }
def UrnAllWrongFalsely : Prop := urnAllRow.holds Try.pinned (OpenSpec.ofChange urnAllWrong)

/-- 'castkeep.UrnSame': WHATEVER THE INPUT: true; the input reads as it did. -/
def urnSameSpec : ChangeSpec := { name := "urnSame", fn := fun _ => fun
  | [d1, d2, d3] => { results := [.lit (.bool true)], args := [d1, d2, d3] }
  | _ => none }
def urnSameRow : OpenClaim := { program := "ytghobphnjfgjeaa", sum := "e4ef36a7a62652c4d3a4dd83ea0ac4c677db202001f88ad3dd0c6a72453356db", func := "lotcaster/castkeep.UrnSame", spec := "urnSame", unfollowed := true, recurses := true, apart := false }
def UrnSameSaid : Prop := urnSameRow.holds Try.pinned (OpenSpec.ofChange urnSameSpec)

/-- ITS FALSE NEIGHBOUR: 'it returns false'. Refute it at one input. -/
def urnSameWrong : ChangeSpec := { name := "urnSame", fn := fun _ => fun
  | [d1, d2, d3] => { results := [.lit (.bool false)], args := [d1, d2, d3] }
  | _ => none }
def UrnSameWrongFalsely : Prop := urnSameRow.holds Try.pinned (OpenSpec.ofChange urnSameWrong)

/-- 'castkeep.UrnLaplace': WHATEVER THE INPUT: true; the input reads as it did. -/
def urnLaplaceSpec : ChangeSpec := { name := "urnLaplace", fn := fun _ => fun
  | [d] => { results := [.lit (.bool true)], args := [d] }
  | _ => none }
def urnLaplaceRow : OpenClaim := { program := "ytghobphnjfgjeaa", sum := "e4ef36a7a62652c4d3a4dd83ea0ac4c677db202001f88ad3dd0c6a72453356db", func := "lotcaster/castkeep.UrnLaplace", spec := "urnLaplace", unfollowed := true, recurses := true, apart := false }
def UrnLaplaceSaid : Prop := urnLaplaceRow.holds Try.pinned (OpenSpec.ofChange urnLaplaceSpec)

/-- ITS FALSE NEIGHBOUR: 'it returns false'. Refute it at one input. -/
def urnLaplaceWrong : ChangeSpec := { name := "urnLaplace", fn := fun _ => fun
  | [d] => { results := [.lit (.bool false)], args := [d] }
  | _ => none }
def UrnLaplaceWrongFalsely : Prop := urnLaplaceRow.holds Try.pinned (OpenSpec.ofChange urnLaplaceWrong)

/-- 'castkeep.UrnOrder': WHATEVER THE INPUT: true; the input reads as it did. -/
def urnOrderSpec : ChangeSpec := { name := "urnOrder", fn := fun _ => fun
  | [d1, d2, d3, d4, d5] => { results := [.lit (.bool true)], args := [d1, d2, d3, d4, d5] }
  | _ => none }
def urnOrderRow : OpenClaim := { program := "ytghobphnjfgjeaa", sum := "e4ef36a7a62652c4d3a4dd83ea0ac4c677db202001f88ad3dd0c6a72453356db", func := "lotcaster/castkeep.UrnOrder", spec := "urnOrder", apart := false }
def UrnOrderSaid : Prop := urnOrderRow.holds Try.pinned (OpenSpec.ofChange urnOrderSpec)

/-- ITS FALSE NEIGHBOUR: 'it returns false'. Refute it at one input. -/
def urnOrderWrong : ChangeSpec := { name := "urnOrder", fn := fun _ => fun
  | [d1, d2, d3, d4, d5] => { results := [.lit (.bool false)], args := [d1, d2, d3, d4, d5] }
  | _ => none }
def UrnOrderWrongFalsely : Prop := urnOrderRow.holds Try.pinned (OpenSpec.ofChange urnOrderWrong)

/-- 'castkeep.ChainStep': WHATEVER THE INPUT: true; the input reads as it did. -/
def chainStepSpec : ChangeSpec := { name := "chainStep", fn := fun _ => fun
  | [d1, d2] => { results := [.lit (.bool true)], args := [d1, d2] }
  | _ => none }
def chainStepRow : OpenClaim := { program := "ytghobphnjfgjeaa", sum := "e4ef36a7a62652c4d3a4dd83ea0ac4c677db202001f88ad3dd0c6a72453356db", func := "lotcaster/castkeep.ChainStep", spec := "chainStep", apart := false }
def ChainStepSaid : Prop := chainStepRow.holds Try.pinned (OpenSpec.ofChange chainStepSpec)

/-- ITS FALSE NEIGHBOUR: 'it returns false'. Refute it at one input. -/
def chainStepWrong : ChangeSpec := { name := "chainStep", fn := fun _ => fun
  | [d1, d2] => { results := [.lit (.bool false)], args := [d1, d2] }
  | _ => none }
def ChainStepWrongFalsely : Prop := chainStepRow.holds Try.pinned (OpenSpec.ofChange chainStepWrong)

/-- 'castkeep.ChainEven': WHATEVER THE INPUT: true; the input reads as it did. -/
def chainEvenSpec : ChangeSpec := { name := "chainEven", fn := fun _ => fun
  | [d1, d2] => { results := [.lit (.bool true)], args := [d1, d2] }
  | _ => none }
def chainEvenRow : OpenClaim := { program := "ytghobphnjfgjeaa", sum := "e4ef36a7a62652c4d3a4dd83ea0ac4c677db202001f88ad3dd0c6a72453356db", func := "lotcaster/castkeep.ChainEven", spec := "chainEven", unfollowed := true, recurses := true, apart := false }
def ChainEvenSaid : Prop := chainEvenRow.holds Try.pinned (OpenSpec.ofChange chainEvenSpec)

/-- ITS FALSE NEIGHBOUR: 'it returns false'. Refute it at one input. -/
def chainEvenWrong : ChangeSpec := { name := "chainEven", fn := fun _ => fun
  | [d1, d2] => { results := [.lit (.bool false)], args := [d1, d2] }
  | _ => none }
def ChainEvenWrongFalsely : Prop := chainEvenRow.holds Try.pinned (OpenSpec.ofChange chainEvenWrong)

/-- 'castkeep.ChainStays': WHATEVER THE INPUT: true; the input reads as it did. -/
def chainStaysSpec : ChangeSpec := { name := "chainStays", fn := fun _ => fun
  | [d] => { results := [.lit (.bool true)], args := [d] }
  | _ => none }
def chainStaysRow : OpenClaim := { program := "ytghobphnjfgjeaa", sum := "e4ef36a7a62652c4d3a4dd83ea0ac4c677db202001f88ad3dd0c6a72453356db", func := "lotcaster/castkeep.ChainStays", spec := "chainStays", unfollowed := true, recurses := true, apart := false }
def ChainStaysSaid : Prop := chainStaysRow.holds Try.pinned (OpenSpec.ofChange chainStaysSpec)

/-- ITS FALSE NEIGHBOUR: 'it returns false'. Refute it at one input. -/
def chainStaysWrong : ChangeSpec := { name := "chainStays", fn := fun _ => fun
  | [d] => { results := [.lit (.bool false)], args := [d] }
  | _ => none }
def ChainStaysWrongFalsely : Prop := chainStaysRow.holds Try.pinned (OpenSpec.ofChange chainStaysWrong)

/-- 'castkeep.ChainRest': WHATEVER THE INPUT: true; the input reads as it did. -/
def chainRestSpec : ChangeSpec := { name := "chainRest", fn := fun _ => fun
  | [d] => { results := [.lit (.bool true)], args := [d] }
  | _ => none }
def chainRestRow : OpenClaim := { program := "ytghobphnjfgjeaa", sum := "e4ef36a7a62652c4d3a4dd83ea0ac4c677db202001f88ad3dd0c6a72453356db", func := "lotcaster/castkeep.ChainRest", spec := "chainRest", unfollowed := true, recurses := true, apart := false }
def ChainRestSaid : Prop := chainRestRow.holds Try.pinned (OpenSpec.ofChange chainRestSpec)

/-- ITS FALSE NEIGHBOUR: 'it returns false'. Refute it at one input. -/
def chainRestWrong : ChangeSpec := { name := "chainRest", fn := fun _ => fun
  | [d] => { results := [.lit (.bool false)], args := [d] }
  | _ => none }
def ChainRestWrongFalsely : Prop := chainRestRow.holds Try.pinned (OpenSpec.ofChange chainRestWrong)

/-- 'casttop.TopUrn': WHATEVER THE INPUT: true; the input reads as it did. -/
def topUrnSpec : ChangeSpec := { name := "topUrn", fn := fun _ => fun
  | [d1, d2] => { results := [.lit (.bool true)], args := [d1, d2] }
  | _ => none }
def topUrnRow : OpenClaim := { program := "ytghobphnjfgjeaa", sum := "e4ef36a7a62652c4d3a4dd83ea0ac4c677db202001f88ad3dd0c6a72453356db", func := "lotcaster/casttop.TopUrn", spec := "topUrn", unfollowed := true, recurses := true, apart := false }
def TopUrnSaid : Prop := topUrnRow.holds Try.pinned (OpenSpec.ofChange topUrnSpec)

/-- ITS FALSE NEIGHBOUR: 'it returns false'. Refute it at one input. -/
def topUrnWrong : ChangeSpec := { name := "topUrn", fn := fun _ => fun
  | [d1, d2] => { results := [.lit (.bool false)], args := [d1, d2] }
  | _ => none }
def TopUrnWrongFalsely : Prop := topUrnRow.holds Try.pinned (OpenSpec.ofChange topUrnWrong)

/- THE SECOND FORM. 'bulk': how many values and letters a reading holds, each counted each time it is reached (what is shared counts as often as it is met; a slice's spare places count too). A statement '..UptoSaid' is the law's where the arguments, and the package variables that the reading takes, are together of bulk at most 1048576: NARROWER than '..Said'. Prove '..Said' where nothing that the law and all that it calls make is longer than what came in: it says more and counts as full. Else prove '..UptoSaid'. A law counts once. -/
mutual
def uptoBulk {H : Type} : DataW H → Nat
  | .lit (.string bytes) => bytes.length + 1
  | .lit _ => 1
  | .nil => 1
  | .ptr d => uptoBulk d + 1
  | .slice elems spare => uptoBulkAll elems + uptoBulkAll spare + 1
  | .agg parts => uptoBulkAll parts + 1
  | .iface _ d => uptoBulk d + 1
  | .map entries => uptoBulkEntries entries + 1
  | .held _ => 1
def uptoBulkAll {H : Type} : List (DataW H) → Nat
  | [] => 0
  | d :: r => uptoBulk d + uptoBulkAll r
def uptoBulkEntries {H : Type} : List (Lit × DataW H) → Nat
  | [] => 0
  | x :: r => uptoBulkEntry x + uptoBulkEntries r
def uptoBulkEntry {H : Type} : Lit × DataW H → Nat
  | (.string bytes, d) => bytes.length + uptoBulk d + 1
  | (_, d) => uptoBulk d + 1
 end
def uptoSmall : (H : Type) → List (DataW H) → Bool := fun _ ds => decide (uptoBulkAll ds ≤ 1048576)
def OpenSpec.upto (s : _root_.Go.ChangeSpec) : _root_.Go.OpenSpec := { _root_.Go.OpenSpec.ofChange s with cond := some uptoSmall }

/-- 'castkeep.RuinStep', WHERE WHAT IT READS IS OF BULK AT MOST 1048576: true; the input reads as it did. -/
def ruinStepUptoRow : OpenClaim := { program := "ytghobphnjfgjeaa", sum := "e4ef36a7a62652c4d3a4dd83ea0ac4c677db202001f88ad3dd0c6a72453356db", func := "lotcaster/castkeep.RuinStep", spec := "ruinStep", unfollowed := true, recurses := true, apart := false, narrowed := true }
def RuinStepUptoSaid : Prop := ruinStepUptoRow.holds Try.pinned (OpenSpec.upto ruinStepSpec)

/-- 'castkeep.RuinOther', WHERE WHAT IT READS IS OF BULK AT MOST 1048576: true; the input reads as it did. -/
def ruinOtherUptoRow : OpenClaim := { program := "ytghobphnjfgjeaa", sum := "e4ef36a7a62652c4d3a4dd83ea0ac4c677db202001f88ad3dd0c6a72453356db", func := "lotcaster/castkeep.RuinOther", spec := "ruinOther", unfollowed := true, recurses := true, apart := false, narrowed := true }
def RuinOtherUptoSaid : Prop := ruinOtherUptoRow.holds Try.pinned (OpenSpec.upto ruinOtherSpec)

/-- 'castkeep.RuinTime', WHERE WHAT IT READS IS OF BULK AT MOST 1048576: true; the input reads as it did. -/
def ruinTimeUptoRow : OpenClaim := { program := "ytghobphnjfgjeaa", sum := "e4ef36a7a62652c4d3a4dd83ea0ac4c677db202001f88ad3dd0c6a72453356db", func := "lotcaster/castkeep.RuinTime", spec := "ruinTime", unfollowed := true, recurses := true, apart := false, narrowed := true }
def RuinTimeUptoSaid : Prop := ruinTimeUptoRow.holds Try.pinned (OpenSpec.upto ruinTimeSpec)

/-- 'castkeep.UrnAll', WHERE WHAT IT READS IS OF BULK AT MOST 1048576: true; the input reads as it did. -/
def urnAllUptoRow : OpenClaim := { program := "ytghobphnjfgjeaa", sum := "e4ef36a7a62652c4d3a4dd83ea0ac4c677db202001f88ad3dd0c6a72453356db", func := "lotcaster/castkeep.UrnAll", spec := "urnAll", apart := false, narrowed := true }
def UrnAllUptoSaid : Prop := urnAllUptoRow.holds Try.pinned (OpenSpec.upto urnAllSpec)

/-- 'castkeep.UrnSame', WHERE WHAT IT READS IS OF BULK AT MOST 1048576: true; the input reads as it did. -/
def urnSameUptoRow : OpenClaim := { program := "ytghobphnjfgjeaa", sum := "e4ef36a7a62652c4d3a4dd83ea0ac4c677db202001f88ad3dd0c6a72453356db", func := "lotcaster/castkeep.UrnSame", spec := "urnSame", unfollowed := true, recurses := true, apart := false, narrowed := true }
def UrnSameUptoSaid : Prop := urnSameUptoRow.holds Try.pinned (OpenSpec.upto urnSameSpec)

/-- 'castkeep.UrnLaplace', WHERE WHAT IT READS IS OF BULK AT MOST 1048576: true; the input reads as it did. -/
def urnLaplaceUptoRow : OpenClaim := { program := "ytghobphnjfgjeaa", sum := "e4ef36a7a62652c4d3a4dd83ea0ac4c677db202001f88ad3dd0c6a72453356db", func := "lotcaster/castkeep.UrnLaplace", spec := "urnLaplace", unfollowed := true, recurses := true, apart := false, narrowed := true }
def UrnLaplaceUptoSaid : Prop := urnLaplaceUptoRow.holds Try.pinned (OpenSpec.upto urnLaplaceSpec)

/-- 'castkeep.UrnOrder', WHERE WHAT IT READS IS OF BULK AT MOST 1048576: true; the input reads as it did. -/
def urnOrderUptoRow : OpenClaim := { program := "ytghobphnjfgjeaa", sum := "e4ef36a7a62652c4d3a4dd83ea0ac4c677db202001f88ad3dd0c6a72453356db", func := "lotcaster/castkeep.UrnOrder", spec := "urnOrder", apart := false, narrowed := true }
def UrnOrderUptoSaid : Prop := urnOrderUptoRow.holds Try.pinned (OpenSpec.upto urnOrderSpec)

/-- 'castkeep.ChainStep', WHERE WHAT IT READS IS OF BULK AT MOST 1048576: true; the input reads as it did. -/
def chainStepUptoRow : OpenClaim := { program := "ytghobphnjfgjeaa", sum := "e4ef36a7a62652c4d3a4dd83ea0ac4c677db202001f88ad3dd0c6a72453356db", func := "lotcaster/castkeep.ChainStep", spec := "chainStep", apart := false, narrowed := true }
def ChainStepUptoSaid : Prop := chainStepUptoRow.holds Try.pinned (OpenSpec.upto chainStepSpec)

/-- 'castkeep.ChainEven', WHERE WHAT IT READS IS OF BULK AT MOST 1048576: true; the input reads as it did. -/
def chainEvenUptoRow : OpenClaim := { program := "ytghobphnjfgjeaa", sum := "e4ef36a7a62652c4d3a4dd83ea0ac4c677db202001f88ad3dd0c6a72453356db", func := "lotcaster/castkeep.ChainEven", spec := "chainEven", unfollowed := true, recurses := true, apart := false, narrowed := true }
def ChainEvenUptoSaid : Prop := chainEvenUptoRow.holds Try.pinned (OpenSpec.upto chainEvenSpec)

/-- 'castkeep.ChainStays', WHERE WHAT IT READS IS OF BULK AT MOST 1048576: true; the input reads as it did. -/
def chainStaysUptoRow : OpenClaim := { program := "ytghobphnjfgjeaa", sum := "e4ef36a7a62652c4d3a4dd83ea0ac4c677db202001f88ad3dd0c6a72453356db", func := "lotcaster/castkeep.ChainStays", spec := "chainStays", unfollowed := true, recurses := true, apart := false, narrowed := true }
def ChainStaysUptoSaid : Prop := chainStaysUptoRow.holds Try.pinned (OpenSpec.upto chainStaysSpec)

/-- 'castkeep.ChainRest', WHERE WHAT IT READS IS OF BULK AT MOST 1048576: true; the input reads as it did. -/
def chainRestUptoRow : OpenClaim := { program := "ytghobphnjfgjeaa", sum := "e4ef36a7a62652c4d3a4dd83ea0ac4c677db202001f88ad3dd0c6a72453356db", func := "lotcaster/castkeep.ChainRest", spec := "chainRest", unfollowed := true, recurses := true, apart := false, narrowed := true }
def ChainRestUptoSaid : Prop := chainRestUptoRow.holds Try.pinned (OpenSpec.upto chainRestSpec)

/-- 'casttop.TopUrn', WHERE WHAT IT READS IS OF BULK AT MOST 1048576: true; the input reads as it did. -/
def topUrnUptoRow : OpenClaim := { program := "ytghobphnjfgjeaa", sum := "e4ef36a7a62652c4d3a4dd83ea0ac4c677db202001f88ad3dd0c6a72453356db", func := "lotcaster/casttop.TopUrn", spec := "topUrn", unfollowed := true, recurses := true, apart := false, narrowed := true }
def TopUrnUptoSaid : Prop := topUrnUptoRow.holds Try.pinned (OpenSpec.upto topUrnSpec)

end Rows
end Go.Proofs.Ytghobphnjfgjeaa
