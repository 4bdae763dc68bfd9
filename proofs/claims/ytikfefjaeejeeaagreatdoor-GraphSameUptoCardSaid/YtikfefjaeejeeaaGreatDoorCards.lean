/-
  DERIVED. GIVEN WITH THE SEED: THE CARDS: each row of YtikfefjaeejeeaaGreatDoorRows.lean that lists a variable, with what it lists TIED to the program's text (the seventh form; the later family's looks); each row that meets fmt, with fmt's text TOLD by the authors' own Lean function (tested against real Go, not proved from fmt's source: count such statements apart). THE CARD IS WHAT COUNTS. Prove the row's statement (the work); the ties are given (YtikfefjaeejeeaaGreatDoorTie.lean); close each card by the builder's one call (the guide's Derived/Test/ToyasCard.lean, 'card_holds'). Laid BY PROGRAM, IN A SANDBOX (cutbox-door.mjs). By AI agents, Wed Nov 11 2026. No macro, syntax, notation, axiom, sorry.
-/
import Derived.Test.YtikfefjaeejeeaaGreatDoorRows
import GoSem.ClaimSeven
namespace Go.Proofs.YtikfefjaeejeeaaGreatDoor
namespace Rows

/-- THE TIED CARD OF 'fluxionlaw13.GraphChecks'. -/
def graphChecksCard : Claim7 := { stood := { row := graphChecksRow, standIns := [], harness := (true, "dfdd7655bd88e8514b7283e5a81e2dcce955605b3c4e219564361e955d7061dc"), looks := true }, kinds := [], alts := [], laidByText := true, laidKinds := [.data, .data, .data, .sentinel, .sentinel], laidTests := true, laidLooks := .later }
def GraphChecksCardSaid : Prop := Claim7.holds Tryz.pinned (.plain (OpenSpec.ofChange graphChecksSpec)) graphChecksCard

/-- THE TIED CARD OF 'fluxionlaw13.GraphFirst'. -/
def graphFirstCard : Claim7 := { stood := { row := graphFirstRow, standIns := [], harness := (true, "dfdd7655bd88e8514b7283e5a81e2dcce955605b3c4e219564361e955d7061dc"), looks := true }, kinds := [], alts := [], laidByText := true, laidKinds := [.data, .data, .data, .sentinel, .sentinel], laidTests := true, laidLooks := .later }
def GraphFirstCardSaid : Prop := Claim7.holds Tryz.pinned (.plain (OpenSpec.ofChange graphFirstSpec)) graphFirstCard

/-- THE TIED CARD OF 'fluxionlaw13.GraphShapes'. -/
def graphShapesCard : Claim7 := { stood := { row := graphShapesRow, standIns := [], harness := (true, "dfdd7655bd88e8514b7283e5a81e2dcce955605b3c4e219564361e955d7061dc"), looks := true }, kinds := [], alts := [], laidByText := true, laidKinds := [.data, .data, .data, .sentinel, .sentinel], laidTests := true, laidLooks := .later }
def GraphShapesCardSaid : Prop := Claim7.holds Tryz.pinned (.plain (OpenSpec.ofChange graphShapesSpec)) graphShapesCard

/-- THE TIED CARD OF 'fluxionlaw13.GraphCopies'. -/
def graphCopiesCard : Claim7 := { stood := { row := graphCopiesRow, standIns := [], harness := (true, "dfdd7655bd88e8514b7283e5a81e2dcce955605b3c4e219564361e955d7061dc"), looks := true }, kinds := [], alts := [], laidByText := true, laidKinds := [.data, .data, .data, .sentinel, .sentinel], laidTests := true, laidLooks := .later }
def GraphCopiesCardSaid : Prop := Claim7.holds Tryz.pinned (.plain (OpenSpec.ofChange graphCopiesSpec)) graphCopiesCard

/-- THE TIED CARD OF 'fluxionlaw13.GraphFinds'. -/
def graphFindsCard : Claim7 := { stood := { row := graphFindsRow, standIns := [], harness := (true, "dfdd7655bd88e8514b7283e5a81e2dcce955605b3c4e219564361e955d7061dc"), looks := true }, kinds := [], alts := [], laidByText := true, laidKinds := [.data, .data, .data, .sentinel, .sentinel], laidTests := true, laidLooks := .later }
def GraphFindsCardSaid : Prop := Claim7.holds Tryz.pinned (.plain (OpenSpec.ofChange graphFindsSpec)) graphFindsCard

/-- THE TIED CARD OF 'fluxionlaw13.GraphVJP'. -/
def graphVJPCard : Claim7 := { stood := { row := graphVJPRow, standIns := [], harness := (true, "dfdd7655bd88e8514b7283e5a81e2dcce955605b3c4e219564361e955d7061dc"), looks := true }, kinds := [], alts := [], laidByText := true, laidKinds := [.data, .data, .data, .sentinel, .sentinel], laidTests := true, laidLooks := .later }
def GraphVJPCardSaid : Prop := Claim7.holds Tryz.pinned (.plain (OpenSpec.ofChange graphVJPSpec)) graphVJPCard

/-- THE TIED CARD OF 'fluxionlaw13.GraphSame'. -/
def graphSameCard : Claim7 := { stood := { row := graphSameRow, standIns := [], harness := (true, "dfdd7655bd88e8514b7283e5a81e2dcce955605b3c4e219564361e955d7061dc"), looks := true }, kinds := [], alts := [], laidByText := true, laidKinds := [.data, .data, .data, .sentinel, .sentinel], laidTests := true, laidLooks := .later }
def GraphSameCardSaid : Prop := Claim7.holds Tryz.pinned (.plain (OpenSpec.ofChange graphSameSpec)) graphSameCard

/-- THE SECOND FORM's CARD OF 'fluxionlaw13.GraphChecks'. -/
def graphChecksUptoCard : Claim7 := { stood := { row := graphChecksUptoRow, standIns := [], harness := (true, "dfdd7655bd88e8514b7283e5a81e2dcce955605b3c4e219564361e955d7061dc"), looks := true }, kinds := [], alts := [], laidByText := true, laidKinds := [.data, .data, .data, .sentinel, .sentinel], laidTests := true, laidLooks := .later }
def GraphChecksUptoCardSaid : Prop := Claim7.holds Tryz.pinned (.plain (OpenSpec.upto graphChecksSpec)) graphChecksUptoCard

/-- THE SECOND FORM's CARD OF 'fluxionlaw13.GraphFirst'. -/
def graphFirstUptoCard : Claim7 := { stood := { row := graphFirstUptoRow, standIns := [], harness := (true, "dfdd7655bd88e8514b7283e5a81e2dcce955605b3c4e219564361e955d7061dc"), looks := true }, kinds := [], alts := [], laidByText := true, laidKinds := [.data, .data, .data, .sentinel, .sentinel], laidTests := true, laidLooks := .later }
def GraphFirstUptoCardSaid : Prop := Claim7.holds Tryz.pinned (.plain (OpenSpec.upto graphFirstSpec)) graphFirstUptoCard

/-- THE SECOND FORM's CARD OF 'fluxionlaw13.GraphShapes'. -/
def graphShapesUptoCard : Claim7 := { stood := { row := graphShapesUptoRow, standIns := [], harness := (true, "dfdd7655bd88e8514b7283e5a81e2dcce955605b3c4e219564361e955d7061dc"), looks := true }, kinds := [], alts := [], laidByText := true, laidKinds := [.data, .data, .data, .sentinel, .sentinel], laidTests := true, laidLooks := .later }
def GraphShapesUptoCardSaid : Prop := Claim7.holds Tryz.pinned (.plain (OpenSpec.upto graphShapesSpec)) graphShapesUptoCard

/-- THE SECOND FORM's CARD OF 'fluxionlaw13.GraphCopies'. -/
def graphCopiesUptoCard : Claim7 := { stood := { row := graphCopiesUptoRow, standIns := [], harness := (true, "dfdd7655bd88e8514b7283e5a81e2dcce955605b3c4e219564361e955d7061dc"), looks := true }, kinds := [], alts := [], laidByText := true, laidKinds := [.data, .data, .data, .sentinel, .sentinel], laidTests := true, laidLooks := .later }
def GraphCopiesUptoCardSaid : Prop := Claim7.holds Tryz.pinned (.plain (OpenSpec.upto graphCopiesSpec)) graphCopiesUptoCard

/-- THE SECOND FORM's CARD OF 'fluxionlaw13.GraphFinds'. -/
def graphFindsUptoCard : Claim7 := { stood := { row := graphFindsUptoRow, standIns := [], harness := (true, "dfdd7655bd88e8514b7283e5a81e2dcce955605b3c4e219564361e955d7061dc"), looks := true }, kinds := [], alts := [], laidByText := true, laidKinds := [.data, .data, .data, .sentinel, .sentinel], laidTests := true, laidLooks := .later }
def GraphFindsUptoCardSaid : Prop := Claim7.holds Tryz.pinned (.plain (OpenSpec.upto graphFindsSpec)) graphFindsUptoCard

/-- THE SECOND FORM's CARD OF 'fluxionlaw13.GraphVJP'. -/
def graphVJPUptoCard : Claim7 := { stood := { row := graphVJPUptoRow, standIns := [], harness := (true, "dfdd7655bd88e8514b7283e5a81e2dcce955605b3c4e219564361e955d7061dc"), looks := true }, kinds := [], alts := [], laidByText := true, laidKinds := [.data, .data, .data, .sentinel, .sentinel], laidTests := true, laidLooks := .later }
def GraphVJPUptoCardSaid : Prop := Claim7.holds Tryz.pinned (.plain (OpenSpec.upto graphVJPSpec)) graphVJPUptoCard

/-- THE SECOND FORM's CARD OF 'fluxionlaw13.GraphSame'. -/
def graphSameUptoCard : Claim7 := { stood := { row := graphSameUptoRow, standIns := [], harness := (true, "dfdd7655bd88e8514b7283e5a81e2dcce955605b3c4e219564361e955d7061dc"), looks := true }, kinds := [], alts := [], laidByText := true, laidKinds := [.data, .data, .data, .sentinel, .sentinel], laidTests := true, laidLooks := .later }
def GraphSameUptoCardSaid : Prop := Claim7.holds Tryz.pinned (.plain (OpenSpec.upto graphSameSpec)) graphSameUptoCard
end Rows
end Go.Proofs.YtikfefjaeejeeaaGreatDoor
