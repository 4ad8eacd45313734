/-
  DERIVED. GIVEN WITH THE SEED: THE CARDS: each row of YtjielagabnkimaaDoorRows.lean that lists a variable, with what it lists TIED to the program's text (the seventh form; the later family's looks); each row that meets fmt, with fmt's text TOLD by the authors' own Lean function (tested against real Go, not proved from fmt's source: count such statements apart). THE CARD IS WHAT COUNTS. Prove the row's statement (the work); the ties are given (YtjielagabnkimaaDoorTie.lean); close each card by the builder's one call (the guide's Derived/Test/ToyasCard.lean, 'card_holds'). Laid BY PROGRAM, IN A SANDBOX (cutbox-door.mjs). By AI agents, Wed Nov 11 2026. No macro, syntax, notation, axiom, sorry.
-/
import Derived.Test.YtjielagabnkimaaDoorRows
import GoSem.ClaimSeven
namespace Go.Proofs.YtjielagabnkimaaDoor
namespace Rows

/-- THE TIED CARD OF 'stratalaw06.FlateDeflates'. -/
def flateDeflatesCard : Claim7 := { stood := { row := flateDeflatesRow, standIns := [], harness := (true, "a04e68f211ca34357319c6ed02cabdb0c5a47a3caf140f4ba8b3837192ea5c18"), looks := true }, kinds := [], alts := [], laidByText := true, laidKinds := [.widerDeep, .widerDeep, .data], laidTests := true, laidLooks := .later }
def FlateDeflatesCardSaid : Prop := Claim7.holds Tryd.pinned (.plain (OpenSpec.ofChange flateDeflatesSpec)) flateDeflatesCard

/-- THE TIED CARD OF 'stratalaw06.FlateCrcs'. -/
def flateCrcsCard : Claim7 := { stood := { row := flateCrcsRow, standIns := [], harness := (true, "a04e68f211ca34357319c6ed02cabdb0c5a47a3caf140f4ba8b3837192ea5c18"), looks := true }, kinds := [], alts := [], laidByText := true, laidKinds := [.widerDeep, .widerDeep, .data], laidTests := true, laidLooks := .later }
def FlateCrcsCardSaid : Prop := Claim7.holds Tryd.pinned (.plain (OpenSpec.ofChange flateCrcsSpec)) flateCrcsCard

/-- THE TIED CARD OF 'stratalaw06.FlateGzips'. -/
def flateGzipsCard : Claim7 := { stood := { row := flateGzipsRow, standIns := [], harness := (true, "a04e68f211ca34357319c6ed02cabdb0c5a47a3caf140f4ba8b3837192ea5c18"), looks := true }, kinds := [], alts := [], laidByText := true, laidKinds := [.widerDeep, .widerDeep, .data], laidTests := true, laidLooks := .later }
def FlateGzipsCardSaid : Prop := Claim7.holds Tryd.pinned (.plain (OpenSpec.ofChange flateGzipsSpec)) flateGzipsCard

/-- THE TIED CARD OF 'stratalaw06.FlateInflates'. -/
def flateInflatesCard : Claim7 := { stood := { row := flateInflatesRow, standIns := [], harness := (true, "a04e68f211ca34357319c6ed02cabdb0c5a47a3caf140f4ba8b3837192ea5c18"), looks := true }, kinds := [], alts := [], laidByText := true, laidKinds := [.data, .handle, .widerDeep, .widerDeep, .data], laidTests := true, laidLooks := .later }
def FlateInflatesCardSaid : Prop := Claim7.holds Tryd.pinned (.plain (OpenSpec.ofChange flateInflatesSpec)) flateInflatesCard

/-- THE TIED CARD OF 'stratalaw06.FlateBack'. -/
def flateBackCard : Claim7 := { stood := { row := flateBackRow, standIns := [], harness := (true, "a04e68f211ca34357319c6ed02cabdb0c5a47a3caf140f4ba8b3837192ea5c18"), looks := true }, kinds := [], alts := [], laidByText := true, laidKinds := [.handle, .widerDeep, .widerDeep, .data], laidTests := true, laidLooks := .later }
def FlateBackCardSaid : Prop := Claim7.holds Tryd.pinned (.plain (OpenSpec.ofChange flateBackSpec)) flateBackCard

/-- THE SECOND FORM's CARD OF 'stratalaw06.FlateDeflates'. -/
def flateDeflatesUptoCard : Claim7 := { stood := { row := flateDeflatesUptoRow, standIns := [], harness := (true, "a04e68f211ca34357319c6ed02cabdb0c5a47a3caf140f4ba8b3837192ea5c18"), looks := true }, kinds := [], alts := [], laidByText := true, laidKinds := [.widerDeep, .widerDeep, .data], laidTests := true, laidLooks := .later }
def FlateDeflatesUptoCardSaid : Prop := Claim7.holds Tryd.pinned (.plain (OpenSpec.upto flateDeflatesSpec)) flateDeflatesUptoCard

/-- THE SECOND FORM's CARD OF 'stratalaw06.FlateCrcs'. -/
def flateCrcsUptoCard : Claim7 := { stood := { row := flateCrcsUptoRow, standIns := [], harness := (true, "a04e68f211ca34357319c6ed02cabdb0c5a47a3caf140f4ba8b3837192ea5c18"), looks := true }, kinds := [], alts := [], laidByText := true, laidKinds := [.widerDeep, .widerDeep, .data], laidTests := true, laidLooks := .later }
def FlateCrcsUptoCardSaid : Prop := Claim7.holds Tryd.pinned (.plain (OpenSpec.upto flateCrcsSpec)) flateCrcsUptoCard

/-- THE SECOND FORM's CARD OF 'stratalaw06.FlateGzips'. -/
def flateGzipsUptoCard : Claim7 := { stood := { row := flateGzipsUptoRow, standIns := [], harness := (true, "a04e68f211ca34357319c6ed02cabdb0c5a47a3caf140f4ba8b3837192ea5c18"), looks := true }, kinds := [], alts := [], laidByText := true, laidKinds := [.widerDeep, .widerDeep, .data], laidTests := true, laidLooks := .later }
def FlateGzipsUptoCardSaid : Prop := Claim7.holds Tryd.pinned (.plain (OpenSpec.upto flateGzipsSpec)) flateGzipsUptoCard

/-- THE SECOND FORM's CARD OF 'stratalaw06.FlateInflates'. -/
def flateInflatesUptoCard : Claim7 := { stood := { row := flateInflatesUptoRow, standIns := [], harness := (true, "a04e68f211ca34357319c6ed02cabdb0c5a47a3caf140f4ba8b3837192ea5c18"), looks := true }, kinds := [], alts := [], laidByText := true, laidKinds := [.data, .handle, .widerDeep, .widerDeep, .data], laidTests := true, laidLooks := .later }
def FlateInflatesUptoCardSaid : Prop := Claim7.holds Tryd.pinned (.plain (OpenSpec.upto flateInflatesSpec)) flateInflatesUptoCard

/-- THE SECOND FORM's CARD OF 'stratalaw06.FlateBack'. -/
def flateBackUptoCard : Claim7 := { stood := { row := flateBackUptoRow, standIns := [], harness := (true, "a04e68f211ca34357319c6ed02cabdb0c5a47a3caf140f4ba8b3837192ea5c18"), looks := true }, kinds := [], alts := [], laidByText := true, laidKinds := [.handle, .widerDeep, .widerDeep, .data], laidTests := true, laidLooks := .later }
def FlateBackUptoCardSaid : Prop := Claim7.holds Tryd.pinned (.plain (OpenSpec.upto flateBackSpec)) flateBackUptoCard
end Rows
end Go.Proofs.YtjielagabnkimaaDoor
