/-
  DERIVED. GIVEN WITH THE SEED: THE CARDS: each row of YtbolgfiafbhicaaDoorRows.lean that lists a variable, with what it lists TIED to the program's text (the seventh form; the later family's looks); each row that meets fmt, with fmt's text TOLD by the authors' own Lean function (tested against real Go, not proved from fmt's source: count such statements apart). THE CARD IS WHAT COUNTS. Prove the row's statement (the work); the ties are given (YtbolgfiafbhicaaDoorTie.lean); close each card by the builder's one call (the guide's Derived/Test/ToyasCard.lean, 'card_holds'). Laid BY PROGRAM, IN A SANDBOX (cutbox-door.mjs). By AI agents, Wed Nov 11 2026. No macro, syntax, notation, axiom, sorry.
-/
import Derived.Test.YtbolgfiafbhicaaDoorRows
import GoSem.ClaimSeven
namespace Go.Proofs.YtbolgfiafbhicaaDoor
namespace Rows

/-- THE TIED CARD OF 'castkeep.DeskFront'. -/
def deskFrontCard : Claim7 := { stood := { row := deskFrontRow, standIns := [], harness := (true, "8cfc9d1312ac80fb42f194a53fcaed5c718ff78a0cab5231f72a2f4898367a7c"), looks := true }, kinds := [], alts := [], laidByText := true, laidKinds := [.data, .data, .data, .data, .pinned], laidTests := true, laidLooks := .later }
def DeskFrontCardSaid : Prop := Claim7.holds Tryd.pinned (.plain (OpenSpec.ofChange deskFrontSpec)) deskFrontCard

/-- THE TIED CARD OF 'castkeep.DeskCounts'. -/
def deskCountsCard : Claim7 := { stood := { row := deskCountsRow, standIns := [], harness := (true, "8cfc9d1312ac80fb42f194a53fcaed5c718ff78a0cab5231f72a2f4898367a7c"), looks := true }, kinds := [], alts := [], laidByText := true, laidKinds := [.data, .data, .data, .data, .pinned], laidTests := true, laidLooks := .later }
def DeskCountsCardSaid : Prop := Claim7.holds Tryd.pinned (.plain (OpenSpec.ofChange deskCountsSpec)) deskCountsCard

/-- THE SECOND FORM's CARD OF 'castkeep.DeskFront'. -/
def deskFrontUptoCard : Claim7 := { stood := { row := deskFrontUptoRow, standIns := [], harness := (true, "8cfc9d1312ac80fb42f194a53fcaed5c718ff78a0cab5231f72a2f4898367a7c"), looks := true }, kinds := [], alts := [], laidByText := true, laidKinds := [.data, .data, .data, .data, .pinned], laidTests := true, laidLooks := .later }
def DeskFrontUptoCardSaid : Prop := Claim7.holds Tryd.pinned (.plain (OpenSpec.upto deskFrontSpec)) deskFrontUptoCard

/-- THE SECOND FORM's CARD OF 'castkeep.DeskCounts'. -/
def deskCountsUptoCard : Claim7 := { stood := { row := deskCountsUptoRow, standIns := [], harness := (true, "8cfc9d1312ac80fb42f194a53fcaed5c718ff78a0cab5231f72a2f4898367a7c"), looks := true }, kinds := [], alts := [], laidByText := true, laidKinds := [.data, .data, .data, .data, .pinned], laidTests := true, laidLooks := .later }
def DeskCountsUptoCardSaid : Prop := Claim7.holds Tryd.pinned (.plain (OpenSpec.upto deskCountsSpec)) deskCountsUptoCard
end Rows
end Go.Proofs.YtbolgfiafbhicaaDoor
