/-
  DERIVED. GIVEN WITH THE SEED: THE CARDS: each row of YtmhpccchgbdiiaaGreatDoorRows.lean that lists a variable, with what it lists TIED to the program's text (the seventh form; the later family's looks); each row that meets fmt, with fmt's text TOLD by the authors' own Lean function (tested against real Go, not proved from fmt's source: count such statements apart). THE CARD IS WHAT COUNTS. Prove the row's statement (the work); the ties are given (YtmhpccchgbdiiaaGreatDoorTie.lean); close each card by the builder's one call (the guide's Derived/Test/ToyasCard.lean, 'card_holds'). Laid BY PROGRAM, IN A SANDBOX (cutbox-door.mjs). By AI agents, Wed Nov 11 2026. No macro, syntax, notation, axiom, sorry.
-/
import Derived.Test.YtmhpccchgbdiiaaGreatDoorRows
import GoSem.ClaimSeven
namespace Go.Proofs.YtmhpccchgbdiiaaGreatDoor
namespace Rows

/-- THE TIED CARD OF 'fluxionlaw18.BuildNil'. -/
def buildNilCard : Claim7 := { stood := { row := buildNilRow, standIns := [], harness := (true, "1e2d5ac39b1ff59b51a483d99674b3c480b72672ef5875281ce9b7fce3c547cd"), looks := true }, kinds := [], alts := [], laidByText := true, laidKinds := [.data, .data, .data, .sentinel, .sentinel], laidTests := true, laidLooks := .later }
def BuildNilCardSaid : Prop := Claim7.holds Tryz.pinned (.plain (OpenSpec.ofChange buildNilSpec)) buildNilCard

/-- THE TIED CARD OF 'fluxionlaw18.BuildMost'. -/
def buildMostCard : Claim7 := { stood := { row := buildMostRow, standIns := [], harness := (true, "1e2d5ac39b1ff59b51a483d99674b3c480b72672ef5875281ce9b7fce3c547cd"), looks := true }, kinds := [], alts := [], laidByText := true, laidKinds := [.data, .data, .data, .sentinel, .sentinel], laidTests := true, laidLooks := .later }
def BuildMostCardSaid : Prop := Claim7.holds Tryz.pinned (.plain (OpenSpec.ofChange buildMostSpec)) buildMostCard

/-- THE SECOND FORM's CARD OF 'fluxionlaw18.BuildNil'. -/
def buildNilUptoCard : Claim7 := { stood := { row := buildNilUptoRow, standIns := [], harness := (true, "1e2d5ac39b1ff59b51a483d99674b3c480b72672ef5875281ce9b7fce3c547cd"), looks := true }, kinds := [], alts := [], laidByText := true, laidKinds := [.data, .data, .data, .sentinel, .sentinel], laidTests := true, laidLooks := .later }
def BuildNilUptoCardSaid : Prop := Claim7.holds Tryz.pinned (.plain (OpenSpec.upto buildNilSpec)) buildNilUptoCard

/-- THE SECOND FORM's CARD OF 'fluxionlaw18.BuildMost'. -/
def buildMostUptoCard : Claim7 := { stood := { row := buildMostUptoRow, standIns := [], harness := (true, "1e2d5ac39b1ff59b51a483d99674b3c480b72672ef5875281ce9b7fce3c547cd"), looks := true }, kinds := [], alts := [], laidByText := true, laidKinds := [.data, .data, .data, .sentinel, .sentinel], laidTests := true, laidLooks := .later }
def BuildMostUptoCardSaid : Prop := Claim7.holds Tryz.pinned (.plain (OpenSpec.upto buildMostSpec)) buildMostUptoCard
end Rows
end Go.Proofs.YtmhpccchgbdiiaaGreatDoor
