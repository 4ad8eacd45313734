/-
  DERIVED. GIVEN WITH THE SEED: THE CARDS: each row of YtdkodedocklmdaaDoorRows.lean that lists a variable, with what it lists TIED to the program's text (the seventh form; the later family's looks); each row that meets fmt, with fmt's text TOLD by the authors' own Lean function (tested against real Go, not proved from fmt's source: count such statements apart). THE CARD IS WHAT COUNTS. Prove the row's statement (the work); the ties are given (YtdkodedocklmdaaDoorTie.lean); close each card by the builder's one call (the guide's Derived/Test/ToyasCard.lean, 'card_holds'). Laid BY PROGRAM, IN A SANDBOX (cutbox-door.mjs). By AI agents, Wed Nov 11 2026. No macro, syntax, notation, axiom, sorry.
-/
import Derived.Test.YtdkodedocklmdaaDoorRows
import GoSem.ClaimSeven
namespace Go.Proofs.YtdkodedocklmdaaDoor
namespace Rows

/-- THE TIED CARD OF 'stratalaw08.ResolveInside'. -/
def resolveInsideCard : Claim7 := { stood := { row := resolveInsideRow, standIns := [], harness := (true, "8cf0f420276681b93e017a548a31e34e44900306ccabbdcde095dbeef4083dea"), looks := true }, kinds := [], alts := [], laidByText := true, laidKinds := [.handle], laidTests := true, laidLooks := .later }
def ResolveInsideCardSaid : Prop := Claim7.holds Tryd.pinned (.plain (OpenSpec.ofChange resolveInsideSpec)) resolveInsideCard

/-- THE TIED CARD OF 'stratalaw08.ResolveOn'. -/
def resolveOnCard : Claim7 := { stood := { row := resolveOnRow, standIns := [], harness := (true, "8cf0f420276681b93e017a548a31e34e44900306ccabbdcde095dbeef4083dea"), looks := true }, kinds := [], alts := [], laidByText := true, laidKinds := [.handle], laidTests := true, laidLooks := .later }
def ResolveOnCardSaid : Prop := Claim7.holds Tryd.pinned (.plain (OpenSpec.ofChange resolveOnSpec)) resolveOnCard

/-- THE TIED CARD OF 'stratalaw08.ResolveEnds'. -/
def resolveEndsCard : Claim7 := { stood := { row := resolveEndsRow, standIns := [], harness := (true, "8cf0f420276681b93e017a548a31e34e44900306ccabbdcde095dbeef4083dea"), looks := true }, kinds := [], alts := [], laidByText := true, laidKinds := [.handle], laidTests := true, laidLooks := .later }
def ResolveEndsCardSaid : Prop := Claim7.holds Tryd.pinned (.plain (OpenSpec.ofChange resolveEndsSpec)) resolveEndsCard

/-- THE SECOND FORM's CARD OF 'stratalaw08.ResolveInside'. -/
def resolveInsideUptoCard : Claim7 := { stood := { row := resolveInsideUptoRow, standIns := [], harness := (true, "8cf0f420276681b93e017a548a31e34e44900306ccabbdcde095dbeef4083dea"), looks := true }, kinds := [], alts := [], laidByText := true, laidKinds := [.handle], laidTests := true, laidLooks := .later }
def ResolveInsideUptoCardSaid : Prop := Claim7.holds Tryd.pinned (.plain (OpenSpec.upto resolveInsideSpec)) resolveInsideUptoCard

/-- THE SECOND FORM's CARD OF 'stratalaw08.ResolveOn'. -/
def resolveOnUptoCard : Claim7 := { stood := { row := resolveOnUptoRow, standIns := [], harness := (true, "8cf0f420276681b93e017a548a31e34e44900306ccabbdcde095dbeef4083dea"), looks := true }, kinds := [], alts := [], laidByText := true, laidKinds := [.handle], laidTests := true, laidLooks := .later }
def ResolveOnUptoCardSaid : Prop := Claim7.holds Tryd.pinned (.plain (OpenSpec.upto resolveOnSpec)) resolveOnUptoCard

/-- THE SECOND FORM's CARD OF 'stratalaw08.ResolveEnds'. -/
def resolveEndsUptoCard : Claim7 := { stood := { row := resolveEndsUptoRow, standIns := [], harness := (true, "8cf0f420276681b93e017a548a31e34e44900306ccabbdcde095dbeef4083dea"), looks := true }, kinds := [], alts := [], laidByText := true, laidKinds := [.handle], laidTests := true, laidLooks := .later }
def ResolveEndsUptoCardSaid : Prop := Claim7.holds Tryd.pinned (.plain (OpenSpec.upto resolveEndsSpec)) resolveEndsUptoCard
end Rows
end Go.Proofs.YtdkodedocklmdaaDoor
