/-
  DERIVED. GIVEN WITH THE SEED: THE CARDS: each row of YtipfccfjniglbaaGreatDoorRows.lean that lists a variable, with what it lists TIED to the program's text (the seventh form; the later family's looks); each row that meets fmt, with fmt's text TOLD by the authors' own Lean function (tested against real Go, not proved from fmt's source: count such statements apart). THE CARD IS WHAT COUNTS. Prove the row's statement (the work); the ties are given (YtipfccfjniglbaaGreatDoorTie.lean); close each card by the builder's one call (the guide's Derived/Test/ToyasCard.lean, 'card_holds'). Laid BY PROGRAM, IN A SANDBOX (cutbox-door.mjs). By AI agents, Wed Nov 11 2026. No macro, syntax, notation, axiom, sorry.
-/
import Derived.Test.YtipfccfjniglbaaGreatDoorRows
import GoSem.ClaimSeven
namespace Go.Proofs.YtipfccfjniglbaaGreatDoor
namespace Rows

/-- THE TIED CARD OF 'stratalaw10.DeltaDiffs'. -/
def deltaDiffsCard : Claim7 := { stood := { row := deltaDiffsRow, standIns := [], harness := (true, "9c1437ae8604a7547e8ff1b13d044068022df1c3770e71517213b3ff873345cd"), looks := true }, kinds := [], alts := [], laidByText := true, laidKinds := [.handle], laidTests := true, laidLooks := .later }
def DeltaDiffsCardSaid : Prop := Claim7.holds Tryz.pinned (.plain (OpenSpec.ofChange deltaDiffsSpec)) deltaDiffsCard

/-- THE TIED CARD OF 'stratalaw10.DeltaApplies'. -/
def deltaAppliesCard : Claim7 := { stood := { row := deltaAppliesRow, standIns := [], harness := (true, "9c1437ae8604a7547e8ff1b13d044068022df1c3770e71517213b3ff873345cd"), looks := true }, kinds := [], alts := [], laidByText := true, laidKinds := [.handle], laidTests := true, laidLooks := .later }
def DeltaAppliesCardSaid : Prop := Claim7.holds Tryz.pinned (.plain (OpenSpec.ofChange deltaAppliesSpec)) deltaAppliesCard

/-- THE TIED CARD OF 'stratalaw10.DeltaBacks'. -/
def deltaBacksCard : Claim7 := { stood := { row := deltaBacksRow, standIns := [], harness := (true, "9c1437ae8604a7547e8ff1b13d044068022df1c3770e71517213b3ff873345cd"), looks := true }, kinds := [], alts := [], laidByText := true, laidKinds := [.handle], laidTests := true, laidLooks := .later }
def DeltaBacksCardSaid : Prop := Claim7.holds Tryz.pinned (.plain (OpenSpec.ofChange deltaBacksSpec)) deltaBacksCard

/-- THE TIED CARD OF 'stratalaw10.DeltaMakes'. -/
def deltaMakesCard : Claim7 := { stood := { row := deltaMakesRow, standIns := [], harness := (true, "9c1437ae8604a7547e8ff1b13d044068022df1c3770e71517213b3ff873345cd"), looks := true }, kinds := [], alts := [], laidByText := true, laidKinds := [.handle], laidTests := true, laidLooks := .later }
def DeltaMakesCardSaid : Prop := Claim7.holds Tryz.pinned (.plain (OpenSpec.ofChange deltaMakesSpec)) deltaMakesCard

/-- THE TIED CARD OF 'stratalaw10.DeltaForm'. -/
def deltaFormCard : Claim7 := { stood := { row := deltaFormRow, standIns := [], harness := (true, "9c1437ae8604a7547e8ff1b13d044068022df1c3770e71517213b3ff873345cd"), looks := true }, kinds := [], alts := [], laidByText := true, laidKinds := [.handle], laidTests := true, laidLooks := .later }
def DeltaFormCardSaid : Prop := Claim7.holds Tryz.pinned (.plain (OpenSpec.ofChange deltaFormSpec)) deltaFormCard

/-- THE TIED CARD OF 'stratalaw10.DeltaUndone'. -/
def deltaUndoneCard : Claim7 := { stood := { row := deltaUndoneRow, standIns := [], harness := (true, "9c1437ae8604a7547e8ff1b13d044068022df1c3770e71517213b3ff873345cd"), looks := true }, kinds := [], alts := [], laidByText := true, laidKinds := [.handle], laidTests := true, laidLooks := .later }
def DeltaUndoneCardSaid : Prop := Claim7.holds Tryz.pinned (.plain (OpenSpec.ofChange deltaUndoneSpec)) deltaUndoneCard

/-- THE TIED CARD OF 'stratalaw10.DeltaKnown'. -/
def deltaKnownCard : Claim7 := { stood := { row := deltaKnownRow, standIns := [], harness := (true, "9c1437ae8604a7547e8ff1b13d044068022df1c3770e71517213b3ff873345cd"), looks := true }, kinds := [], alts := [], laidByText := true, laidKinds := [.handle], laidTests := true, laidLooks := .later }
def DeltaKnownCardSaid : Prop := Claim7.holds Tryz.pinned (.plain (OpenSpec.ofChange deltaKnownSpec)) deltaKnownCard

/-- THE SECOND FORM's CARD OF 'stratalaw10.DeltaDiffs'. -/
def deltaDiffsUptoCard : Claim7 := { stood := { row := deltaDiffsUptoRow, standIns := [], harness := (true, "9c1437ae8604a7547e8ff1b13d044068022df1c3770e71517213b3ff873345cd"), looks := true }, kinds := [], alts := [], laidByText := true, laidKinds := [.handle], laidTests := true, laidLooks := .later }
def DeltaDiffsUptoCardSaid : Prop := Claim7.holds Tryz.pinned (.plain (OpenSpec.upto deltaDiffsSpec)) deltaDiffsUptoCard

/-- THE SECOND FORM's CARD OF 'stratalaw10.DeltaApplies'. -/
def deltaAppliesUptoCard : Claim7 := { stood := { row := deltaAppliesUptoRow, standIns := [], harness := (true, "9c1437ae8604a7547e8ff1b13d044068022df1c3770e71517213b3ff873345cd"), looks := true }, kinds := [], alts := [], laidByText := true, laidKinds := [.handle], laidTests := true, laidLooks := .later }
def DeltaAppliesUptoCardSaid : Prop := Claim7.holds Tryz.pinned (.plain (OpenSpec.upto deltaAppliesSpec)) deltaAppliesUptoCard

/-- THE SECOND FORM's CARD OF 'stratalaw10.DeltaBacks'. -/
def deltaBacksUptoCard : Claim7 := { stood := { row := deltaBacksUptoRow, standIns := [], harness := (true, "9c1437ae8604a7547e8ff1b13d044068022df1c3770e71517213b3ff873345cd"), looks := true }, kinds := [], alts := [], laidByText := true, laidKinds := [.handle], laidTests := true, laidLooks := .later }
def DeltaBacksUptoCardSaid : Prop := Claim7.holds Tryz.pinned (.plain (OpenSpec.upto deltaBacksSpec)) deltaBacksUptoCard

/-- THE SECOND FORM's CARD OF 'stratalaw10.DeltaMakes'. -/
def deltaMakesUptoCard : Claim7 := { stood := { row := deltaMakesUptoRow, standIns := [], harness := (true, "9c1437ae8604a7547e8ff1b13d044068022df1c3770e71517213b3ff873345cd"), looks := true }, kinds := [], alts := [], laidByText := true, laidKinds := [.handle], laidTests := true, laidLooks := .later }
def DeltaMakesUptoCardSaid : Prop := Claim7.holds Tryz.pinned (.plain (OpenSpec.upto deltaMakesSpec)) deltaMakesUptoCard

/-- THE SECOND FORM's CARD OF 'stratalaw10.DeltaForm'. -/
def deltaFormUptoCard : Claim7 := { stood := { row := deltaFormUptoRow, standIns := [], harness := (true, "9c1437ae8604a7547e8ff1b13d044068022df1c3770e71517213b3ff873345cd"), looks := true }, kinds := [], alts := [], laidByText := true, laidKinds := [.handle], laidTests := true, laidLooks := .later }
def DeltaFormUptoCardSaid : Prop := Claim7.holds Tryz.pinned (.plain (OpenSpec.upto deltaFormSpec)) deltaFormUptoCard

/-- THE SECOND FORM's CARD OF 'stratalaw10.DeltaUndone'. -/
def deltaUndoneUptoCard : Claim7 := { stood := { row := deltaUndoneUptoRow, standIns := [], harness := (true, "9c1437ae8604a7547e8ff1b13d044068022df1c3770e71517213b3ff873345cd"), looks := true }, kinds := [], alts := [], laidByText := true, laidKinds := [.handle], laidTests := true, laidLooks := .later }
def DeltaUndoneUptoCardSaid : Prop := Claim7.holds Tryz.pinned (.plain (OpenSpec.upto deltaUndoneSpec)) deltaUndoneUptoCard

/-- THE SECOND FORM's CARD OF 'stratalaw10.DeltaKnown'. -/
def deltaKnownUptoCard : Claim7 := { stood := { row := deltaKnownUptoRow, standIns := [], harness := (true, "9c1437ae8604a7547e8ff1b13d044068022df1c3770e71517213b3ff873345cd"), looks := true }, kinds := [], alts := [], laidByText := true, laidKinds := [.handle], laidTests := true, laidLooks := .later }
def DeltaKnownUptoCardSaid : Prop := Claim7.holds Tryz.pinned (.plain (OpenSpec.upto deltaKnownSpec)) deltaKnownUptoCard
end Rows
end Go.Proofs.YtipfccfjniglbaaGreatDoor
