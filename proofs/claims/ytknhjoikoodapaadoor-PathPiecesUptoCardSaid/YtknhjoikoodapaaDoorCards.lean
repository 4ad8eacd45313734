/-
  DERIVED. GIVEN WITH THE SEED: THE CARDS: each row of YtknhjoikoodapaaDoorRows.lean that lists a variable, with what it lists TIED to the program's text (the seventh form; the later family's looks); each row that meets fmt, with fmt's text TOLD by the authors' own Lean function (tested against real Go, not proved from fmt's source: count such statements apart). THE CARD IS WHAT COUNTS. Prove the row's statement (the work); the ties are given (YtknhjoikoodapaaDoorTie.lean); close each card by the builder's one call (the guide's Derived/Test/ToyasCard.lean, 'card_holds'). Laid BY PROGRAM, IN A SANDBOX (cutbox-door.mjs). By AI agents, Wed Nov 11 2026. No macro, syntax, notation, axiom, sorry.
-/
import Derived.Test.YtknhjoikoodapaaDoorRows
import GoSem.ClaimSeven
namespace Go.Proofs.YtknhjoikoodapaaDoor
namespace Rows

/-- THE TIED CARD OF 'stratalaw01.PathNames'. -/
def pathNamesCard : Claim7 := { stood := { row := pathNamesRow, standIns := [], harness := (true, "7efd776cf644e9d5cc08264bae143e8226e2ce4d8dacab60686ba97fef9c3da5"), looks := true }, kinds := [], alts := [], laidByText := true, laidKinds := [.handle], laidTests := true, laidLooks := .later }
def PathNamesCardSaid : Prop := Claim7.holds Tryd.pinned (.plain (OpenSpec.ofChange pathNamesSpec)) pathNamesCard

/-- THE TIED CARD OF 'stratalaw01.PathChecks'. -/
def pathChecksCard : Claim7 := { stood := { row := pathChecksRow, standIns := [], harness := (true, "7efd776cf644e9d5cc08264bae143e8226e2ce4d8dacab60686ba97fef9c3da5"), looks := true }, kinds := [], alts := [], laidByText := true, laidKinds := [.handle], laidTests := true, laidLooks := .later }
def PathChecksCardSaid : Prop := Claim7.holds Tryd.pinned (.plain (OpenSpec.ofChange pathChecksSpec)) pathChecksCard

/-- THE TIED CARD OF 'stratalaw01.PathSplits'. -/
def pathSplitsCard : Claim7 := { stood := { row := pathSplitsRow, standIns := [], harness := (true, "7efd776cf644e9d5cc08264bae143e8226e2ce4d8dacab60686ba97fef9c3da5"), looks := true }, kinds := [], alts := [], laidByText := true, laidKinds := [.handle], laidTests := true, laidLooks := .later }
def PathSplitsCardSaid : Prop := Claim7.holds Tryd.pinned (.plain (OpenSpec.ofChange pathSplitsSpec)) pathSplitsCard

/-- THE TIED CARD OF 'stratalaw01.PathParts'. -/
def pathPartsCard : Claim7 := { stood := { row := pathPartsRow, standIns := [], harness := (true, "7efd776cf644e9d5cc08264bae143e8226e2ce4d8dacab60686ba97fef9c3da5"), looks := true }, kinds := [], alts := [], laidByText := true, laidKinds := [.handle], laidTests := true, laidLooks := .later }
def PathPartsCardSaid : Prop := Claim7.holds Tryd.pinned (.plain (OpenSpec.ofChange pathPartsSpec)) pathPartsCard

/-- THE TIED CARD OF 'stratalaw01.PathCleans'. -/
def pathCleansCard : Claim7 := { stood := { row := pathCleansRow, standIns := [], harness := (true, "7efd776cf644e9d5cc08264bae143e8226e2ce4d8dacab60686ba97fef9c3da5"), looks := true }, kinds := [], alts := [], laidByText := true, laidKinds := [.handle], laidTests := true, laidLooks := .later }
def PathCleansCardSaid : Prop := Claim7.holds Tryd.pinned (.plain (OpenSpec.ofChange pathCleansSpec)) pathCleansCard

/-- THE TIED CARD OF 'stratalaw01.PathHolds'. -/
def pathHoldsCard : Claim7 := { stood := { row := pathHoldsRow, standIns := [], harness := (true, "7efd776cf644e9d5cc08264bae143e8226e2ce4d8dacab60686ba97fef9c3da5"), looks := true }, kinds := [], alts := [], laidByText := true, laidKinds := [.handle], laidTests := true, laidLooks := .later }
def PathHoldsCardSaid : Prop := Claim7.holds Tryd.pinned (.plain (OpenSpec.ofChange pathHoldsSpec)) pathHoldsCard

/-- THE TIED CARD OF 'stratalaw01.PathPieces'. -/
def pathPiecesCard : Claim7 := { stood := { row := pathPiecesRow, standIns := [], harness := (true, "7efd776cf644e9d5cc08264bae143e8226e2ce4d8dacab60686ba97fef9c3da5"), looks := true }, kinds := [], alts := [], laidByText := true, laidKinds := [.handle], laidTests := true, laidLooks := .later }
def PathPiecesCardSaid : Prop := Claim7.holds Tryd.pinned (.plain (OpenSpec.ofChange pathPiecesSpec)) pathPiecesCard

/-- THE TIED CARD OF 'stratalaw01.PathClean'. -/
def pathCleanCard : Claim7 := { stood := { row := pathCleanRow, standIns := [], harness := (true, "7efd776cf644e9d5cc08264bae143e8226e2ce4d8dacab60686ba97fef9c3da5"), looks := true }, kinds := [], alts := [], laidByText := true, laidKinds := [.handle], laidTests := true, laidLooks := .later }
def PathCleanCardSaid : Prop := Claim7.holds Tryd.pinned (.plain (OpenSpec.ofChange pathCleanSpec)) pathCleanCard

/-- THE TIED CARD OF 'stratalaw01.PathKnown'. -/
def pathKnownCard : Claim7 := { stood := { row := pathKnownRow, standIns := [], harness := (true, "7efd776cf644e9d5cc08264bae143e8226e2ce4d8dacab60686ba97fef9c3da5"), looks := true }, kinds := [], alts := [], laidByText := true, laidKinds := [.handle], laidTests := true, laidLooks := .later }
def PathKnownCardSaid : Prop := Claim7.holds Tryd.pinned (.plain (OpenSpec.ofChange pathKnownSpec)) pathKnownCard

/-- THE SECOND FORM's CARD OF 'stratalaw01.PathNames'. -/
def pathNamesUptoCard : Claim7 := { stood := { row := pathNamesUptoRow, standIns := [], harness := (true, "7efd776cf644e9d5cc08264bae143e8226e2ce4d8dacab60686ba97fef9c3da5"), looks := true }, kinds := [], alts := [], laidByText := true, laidKinds := [.handle], laidTests := true, laidLooks := .later }
def PathNamesUptoCardSaid : Prop := Claim7.holds Tryd.pinned (.plain (OpenSpec.upto pathNamesSpec)) pathNamesUptoCard

/-- THE SECOND FORM's CARD OF 'stratalaw01.PathChecks'. -/
def pathChecksUptoCard : Claim7 := { stood := { row := pathChecksUptoRow, standIns := [], harness := (true, "7efd776cf644e9d5cc08264bae143e8226e2ce4d8dacab60686ba97fef9c3da5"), looks := true }, kinds := [], alts := [], laidByText := true, laidKinds := [.handle], laidTests := true, laidLooks := .later }
def PathChecksUptoCardSaid : Prop := Claim7.holds Tryd.pinned (.plain (OpenSpec.upto pathChecksSpec)) pathChecksUptoCard

/-- THE SECOND FORM's CARD OF 'stratalaw01.PathSplits'. -/
def pathSplitsUptoCard : Claim7 := { stood := { row := pathSplitsUptoRow, standIns := [], harness := (true, "7efd776cf644e9d5cc08264bae143e8226e2ce4d8dacab60686ba97fef9c3da5"), looks := true }, kinds := [], alts := [], laidByText := true, laidKinds := [.handle], laidTests := true, laidLooks := .later }
def PathSplitsUptoCardSaid : Prop := Claim7.holds Tryd.pinned (.plain (OpenSpec.upto pathSplitsSpec)) pathSplitsUptoCard

/-- THE SECOND FORM's CARD OF 'stratalaw01.PathParts'. -/
def pathPartsUptoCard : Claim7 := { stood := { row := pathPartsUptoRow, standIns := [], harness := (true, "7efd776cf644e9d5cc08264bae143e8226e2ce4d8dacab60686ba97fef9c3da5"), looks := true }, kinds := [], alts := [], laidByText := true, laidKinds := [.handle], laidTests := true, laidLooks := .later }
def PathPartsUptoCardSaid : Prop := Claim7.holds Tryd.pinned (.plain (OpenSpec.upto pathPartsSpec)) pathPartsUptoCard

/-- THE SECOND FORM's CARD OF 'stratalaw01.PathCleans'. -/
def pathCleansUptoCard : Claim7 := { stood := { row := pathCleansUptoRow, standIns := [], harness := (true, "7efd776cf644e9d5cc08264bae143e8226e2ce4d8dacab60686ba97fef9c3da5"), looks := true }, kinds := [], alts := [], laidByText := true, laidKinds := [.handle], laidTests := true, laidLooks := .later }
def PathCleansUptoCardSaid : Prop := Claim7.holds Tryd.pinned (.plain (OpenSpec.upto pathCleansSpec)) pathCleansUptoCard

/-- THE SECOND FORM's CARD OF 'stratalaw01.PathHolds'. -/
def pathHoldsUptoCard : Claim7 := { stood := { row := pathHoldsUptoRow, standIns := [], harness := (true, "7efd776cf644e9d5cc08264bae143e8226e2ce4d8dacab60686ba97fef9c3da5"), looks := true }, kinds := [], alts := [], laidByText := true, laidKinds := [.handle], laidTests := true, laidLooks := .later }
def PathHoldsUptoCardSaid : Prop := Claim7.holds Tryd.pinned (.plain (OpenSpec.upto pathHoldsSpec)) pathHoldsUptoCard

/-- THE SECOND FORM's CARD OF 'stratalaw01.PathPieces'. -/
def pathPiecesUptoCard : Claim7 := { stood := { row := pathPiecesUptoRow, standIns := [], harness := (true, "7efd776cf644e9d5cc08264bae143e8226e2ce4d8dacab60686ba97fef9c3da5"), looks := true }, kinds := [], alts := [], laidByText := true, laidKinds := [.handle], laidTests := true, laidLooks := .later }
def PathPiecesUptoCardSaid : Prop := Claim7.holds Tryd.pinned (.plain (OpenSpec.upto pathPiecesSpec)) pathPiecesUptoCard

/-- THE SECOND FORM's CARD OF 'stratalaw01.PathClean'. -/
def pathCleanUptoCard : Claim7 := { stood := { row := pathCleanUptoRow, standIns := [], harness := (true, "7efd776cf644e9d5cc08264bae143e8226e2ce4d8dacab60686ba97fef9c3da5"), looks := true }, kinds := [], alts := [], laidByText := true, laidKinds := [.handle], laidTests := true, laidLooks := .later }
def PathCleanUptoCardSaid : Prop := Claim7.holds Tryd.pinned (.plain (OpenSpec.upto pathCleanSpec)) pathCleanUptoCard

/-- THE SECOND FORM's CARD OF 'stratalaw01.PathKnown'. -/
def pathKnownUptoCard : Claim7 := { stood := { row := pathKnownUptoRow, standIns := [], harness := (true, "7efd776cf644e9d5cc08264bae143e8226e2ce4d8dacab60686ba97fef9c3da5"), looks := true }, kinds := [], alts := [], laidByText := true, laidKinds := [.handle], laidTests := true, laidLooks := .later }
def PathKnownUptoCardSaid : Prop := Claim7.holds Tryd.pinned (.plain (OpenSpec.upto pathKnownSpec)) pathKnownUptoCard
end Rows
end Go.Proofs.YtknhjoikoodapaaDoor
