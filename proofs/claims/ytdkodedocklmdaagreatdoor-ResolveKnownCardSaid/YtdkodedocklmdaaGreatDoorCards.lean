/-
  DERIVED. GIVEN WITH THE SEED: THE CARDS: each row of YtdkodedocklmdaaGreatDoorRows.lean that lists a variable, with what it lists TIED to the program's text (the seventh form; the later family's looks); each row that meets fmt, with fmt's text TOLD by the authors' own Lean function (tested against real Go, not proved from fmt's source: count such statements apart). THE CARD IS WHAT COUNTS. Prove the row's statement (the work); the ties are given (YtdkodedocklmdaaGreatDoorTie.lean); close each card by the builder's one call (the guide's Derived/Test/ToyasCard.lean, 'card_holds'). Laid BY PROGRAM, IN A SANDBOX (cutbox-door.mjs). By AI agents, Wed Nov 11 2026. No macro, syntax, notation, axiom, sorry.
-/
import Derived.Test.YtdkodedocklmdaaGreatDoorRows
import GoSem.ClaimSeven
namespace Go.Proofs.YtdkodedocklmdaaGreatDoor
namespace Rows

/-- THE TIED CARD OF 'stratalaw07.TreeChecks'. -/
def treeChecksCard : Claim7 := { stood := { row := treeChecksRow, standIns := [], harness := (true, "55a999658e25b8c303806e566da3953c3a1f59da582d8110f2c37e4ea3e4458a"), looks := true }, kinds := [], alts := [], laidByText := true, laidKinds := [.handle], laidTests := true, laidLooks := .later }
def TreeChecksCardSaid : Prop := Claim7.holds Tryz.pinned (.plain (OpenSpec.ofChange treeChecksSpec)) treeChecksCard

/-- THE TIED CARD OF 'stratalaw07.TreeStays'. -/
def treeStaysCard : Claim7 := { stood := { row := treeStaysRow, standIns := [], harness := (true, "55a999658e25b8c303806e566da3953c3a1f59da582d8110f2c37e4ea3e4458a"), looks := true }, kinds := [], alts := [], laidByText := true, laidKinds := [.handle], laidTests := true, laidLooks := .later }
def TreeStaysCardSaid : Prop := Claim7.holds Tryz.pinned (.plain (OpenSpec.ofChange treeStaysSpec)) treeStaysCard

/-- THE TIED CARD OF 'stratalaw07.TreeSubs'. -/
def treeSubsCard : Claim7 := { stood := { row := treeSubsRow, standIns := [], harness := (true, "55a999658e25b8c303806e566da3953c3a1f59da582d8110f2c37e4ea3e4458a"), looks := true }, kinds := [], alts := [], laidByText := true, laidKinds := [.handle], laidTests := true, laidLooks := .later }
def TreeSubsCardSaid : Prop := Claim7.holds Tryz.pinned (.plain (OpenSpec.ofChange treeSubsSpec)) treeSubsCard

/-- THE TIED CARD OF 'stratalaw08.ResolveFind'. -/
def resolveFindCard : Claim7 := { stood := { row := resolveFindRow, standIns := [], harness := (true, "55a999658e25b8c303806e566da3953c3a1f59da582d8110f2c37e4ea3e4458a"), looks := true }, kinds := [], alts := [], laidByText := true, laidKinds := [.handle], laidTests := true, laidLooks := .later }
def ResolveFindCardSaid : Prop := Claim7.holds Tryz.pinned (.plain (OpenSpec.ofChange resolveFindSpec)) resolveFindCard

/-- THE TIED CARD OF 'stratalaw08.ResolveTrail'. -/
def resolveTrailCard : Claim7 := { stood := { row := resolveTrailRow, standIns := [], harness := (true, "55a999658e25b8c303806e566da3953c3a1f59da582d8110f2c37e4ea3e4458a"), looks := true }, kinds := [], alts := [], laidByText := true, laidKinds := [.handle], laidTests := true, laidLooks := .later }
def ResolveTrailCardSaid : Prop := Claim7.holds Tryz.pinned (.plain (OpenSpec.ofChange resolveTrailSpec)) resolveTrailCard

/-- THE TIED CARD OF 'stratalaw08.ResolvePlays'. -/
def resolvePlaysCard : Claim7 := { stood := { row := resolvePlaysRow, standIns := [], harness := (true, "55a999658e25b8c303806e566da3953c3a1f59da582d8110f2c37e4ea3e4458a"), looks := true }, kinds := [], alts := [], laidByText := true, laidKinds := [.handle], laidTests := true, laidLooks := .later }
def ResolvePlaysCardSaid : Prop := Claim7.holds Tryz.pinned (.plain (OpenSpec.ofChange resolvePlaysSpec)) resolvePlaysCard

/-- THE TIED CARD OF 'stratalaw08.ResolveMakes'. -/
def resolveMakesCard : Claim7 := { stood := { row := resolveMakesRow, standIns := [], harness := (true, "55a999658e25b8c303806e566da3953c3a1f59da582d8110f2c37e4ea3e4458a"), looks := true }, kinds := [], alts := [], laidByText := true, laidKinds := [.handle], laidTests := true, laidLooks := .later }
def ResolveMakesCardSaid : Prop := Claim7.holds Tryz.pinned (.plain (OpenSpec.ofChange resolveMakesSpec)) resolveMakesCard

/-- THE TIED CARD OF 'stratalaw08.ResolveKnown'. -/
def resolveKnownCard : Claim7 := { stood := { row := resolveKnownRow, standIns := [], harness := (true, "55a999658e25b8c303806e566da3953c3a1f59da582d8110f2c37e4ea3e4458a"), looks := true }, kinds := [], alts := [], laidByText := true, laidKinds := [.handle], laidTests := true, laidLooks := .later }
def ResolveKnownCardSaid : Prop := Claim7.holds Tryz.pinned (.plain (OpenSpec.ofChange resolveKnownSpec)) resolveKnownCard

/-- THE SECOND FORM's CARD OF 'stratalaw07.TreeChecks'. -/
def treeChecksUptoCard : Claim7 := { stood := { row := treeChecksUptoRow, standIns := [], harness := (true, "55a999658e25b8c303806e566da3953c3a1f59da582d8110f2c37e4ea3e4458a"), looks := true }, kinds := [], alts := [], laidByText := true, laidKinds := [.handle], laidTests := true, laidLooks := .later }
def TreeChecksUptoCardSaid : Prop := Claim7.holds Tryz.pinned (.plain (OpenSpec.upto treeChecksSpec)) treeChecksUptoCard

/-- THE SECOND FORM's CARD OF 'stratalaw07.TreeStays'. -/
def treeStaysUptoCard : Claim7 := { stood := { row := treeStaysUptoRow, standIns := [], harness := (true, "55a999658e25b8c303806e566da3953c3a1f59da582d8110f2c37e4ea3e4458a"), looks := true }, kinds := [], alts := [], laidByText := true, laidKinds := [.handle], laidTests := true, laidLooks := .later }
def TreeStaysUptoCardSaid : Prop := Claim7.holds Tryz.pinned (.plain (OpenSpec.upto treeStaysSpec)) treeStaysUptoCard

/-- THE SECOND FORM's CARD OF 'stratalaw07.TreeSubs'. -/
def treeSubsUptoCard : Claim7 := { stood := { row := treeSubsUptoRow, standIns := [], harness := (true, "55a999658e25b8c303806e566da3953c3a1f59da582d8110f2c37e4ea3e4458a"), looks := true }, kinds := [], alts := [], laidByText := true, laidKinds := [.handle], laidTests := true, laidLooks := .later }
def TreeSubsUptoCardSaid : Prop := Claim7.holds Tryz.pinned (.plain (OpenSpec.upto treeSubsSpec)) treeSubsUptoCard

/-- THE SECOND FORM's CARD OF 'stratalaw08.ResolveFind'. -/
def resolveFindUptoCard : Claim7 := { stood := { row := resolveFindUptoRow, standIns := [], harness := (true, "55a999658e25b8c303806e566da3953c3a1f59da582d8110f2c37e4ea3e4458a"), looks := true }, kinds := [], alts := [], laidByText := true, laidKinds := [.handle], laidTests := true, laidLooks := .later }
def ResolveFindUptoCardSaid : Prop := Claim7.holds Tryz.pinned (.plain (OpenSpec.upto resolveFindSpec)) resolveFindUptoCard

/-- THE SECOND FORM's CARD OF 'stratalaw08.ResolveTrail'. -/
def resolveTrailUptoCard : Claim7 := { stood := { row := resolveTrailUptoRow, standIns := [], harness := (true, "55a999658e25b8c303806e566da3953c3a1f59da582d8110f2c37e4ea3e4458a"), looks := true }, kinds := [], alts := [], laidByText := true, laidKinds := [.handle], laidTests := true, laidLooks := .later }
def ResolveTrailUptoCardSaid : Prop := Claim7.holds Tryz.pinned (.plain (OpenSpec.upto resolveTrailSpec)) resolveTrailUptoCard

/-- THE SECOND FORM's CARD OF 'stratalaw08.ResolvePlays'. -/
def resolvePlaysUptoCard : Claim7 := { stood := { row := resolvePlaysUptoRow, standIns := [], harness := (true, "55a999658e25b8c303806e566da3953c3a1f59da582d8110f2c37e4ea3e4458a"), looks := true }, kinds := [], alts := [], laidByText := true, laidKinds := [.handle], laidTests := true, laidLooks := .later }
def ResolvePlaysUptoCardSaid : Prop := Claim7.holds Tryz.pinned (.plain (OpenSpec.upto resolvePlaysSpec)) resolvePlaysUptoCard

/-- THE SECOND FORM's CARD OF 'stratalaw08.ResolveMakes'. -/
def resolveMakesUptoCard : Claim7 := { stood := { row := resolveMakesUptoRow, standIns := [], harness := (true, "55a999658e25b8c303806e566da3953c3a1f59da582d8110f2c37e4ea3e4458a"), looks := true }, kinds := [], alts := [], laidByText := true, laidKinds := [.handle], laidTests := true, laidLooks := .later }
def ResolveMakesUptoCardSaid : Prop := Claim7.holds Tryz.pinned (.plain (OpenSpec.upto resolveMakesSpec)) resolveMakesUptoCard

/-- THE SECOND FORM's CARD OF 'stratalaw08.ResolveKnown'. -/
def resolveKnownUptoCard : Claim7 := { stood := { row := resolveKnownUptoRow, standIns := [], harness := (true, "55a999658e25b8c303806e566da3953c3a1f59da582d8110f2c37e4ea3e4458a"), looks := true }, kinds := [], alts := [], laidByText := true, laidKinds := [.handle], laidTests := true, laidLooks := .later }
def ResolveKnownUptoCardSaid : Prop := Claim7.holds Tryz.pinned (.plain (OpenSpec.upto resolveKnownSpec)) resolveKnownUptoCard
end Rows
end Go.Proofs.YtdkodedocklmdaaGreatDoor
