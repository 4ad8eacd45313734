/-
  DERIVED. GIVEN WITH THE SEED: THE CARDS: each row of YtfanfkogogijpaaGreatDoorRows.lean that lists a variable, with what it lists TIED to the program's text (the seventh form; the later family's looks); each row that meets fmt, with fmt's text TOLD by the authors' own Lean function (tested against real Go, not proved from fmt's source: count such statements apart). THE CARD IS WHAT COUNTS. Prove the row's statement (the work); the ties are given (YtfanfkogogijpaaGreatDoorTie.lean); close each card by the builder's one call (the guide's Derived/Test/ToyasCard.lean, 'card_holds'). Laid BY PROGRAM, IN A SANDBOX (cutbox-door.mjs). By AI agents, Wed Nov 11 2026. No macro, syntax, notation, axiom, sorry.
-/
import Derived.Test.YtfanfkogogijpaaGreatDoorRows
import GoSem.ClaimSeven
namespace Go.Proofs.YtfanfkogogijpaaGreatDoor
namespace Rows

/-- THE TIED CARD OF 'stratalaw28.WasteTrees'. -/
def wasteTreesCard : Claim7 := { stood := { row := wasteTreesRow, standIns := [], harness := (true, "5bef6e54d62cb6f53dec25dcee838f673914108483b8b55007d896eb6dd61b3d"), looks := true }, kinds := [], alts := [], laidByText := true, laidKinds := [.handle], laidTests := true, laidLooks := .later }
def WasteTreesCardSaid : Prop := Claim7.holds Tryz.pinned (.plain (OpenSpec.ofChange wasteTreesSpec)) wasteTreesCard

/-- THE SECOND FORM's CARD OF 'stratalaw28.WasteTrees'. -/
def wasteTreesUptoCard : Claim7 := { stood := { row := wasteTreesUptoRow, standIns := [], harness := (true, "5bef6e54d62cb6f53dec25dcee838f673914108483b8b55007d896eb6dd61b3d"), looks := true }, kinds := [], alts := [], laidByText := true, laidKinds := [.handle], laidTests := true, laidLooks := .later }
def WasteTreesUptoCardSaid : Prop := Claim7.holds Tryz.pinned (.plain (OpenSpec.upto wasteTreesSpec)) wasteTreesUptoCard
end Rows
end Go.Proofs.YtfanfkogogijpaaGreatDoor
