/-
  NARROWER THAN 'FOR EVERY INPUT', by the rows' own cells (each row's printed sentence says how): TreeChecks: laid · TreeStays: laid · TreeSubs: laid · ResolveFind: laid · ResolveTrail: laid · ResolvePlays: laid · ResolveMakes: laid · ResolveKnown: laid.
  DERIVED. THE GIVEN ROWS OF THIS SEAT. 8 by the template 'for every input the law returns true; each argument reads behind the call as it read before'; 0 by the template 'total and deterministic' (their statements: YtdkodedocklmdaaGreatDoorTotals.lean).
  GIVEN WITH THE SEED: the statements are not yours to turn. If you find one false, say at which input.
  Laid BY PROGRAM, IN A SANDBOX (cutbox-rows.mjs): the forced cells as the released guide's own fill.sh prints them over the translation 882116d0ed88b3f4… (all of the seat's roots in one cut). By AI agents, Wed Nov 11 2026. No macro, syntax, notation, axiom, sorry.
-/
import Derived.Test.YtdkodedocklmdaaGreatDoorChecked
import GoSem.Claim
import GoSem.ClaimJoined
import GoSem.ClaimMapViews
import Derived.JoinedTies
import Derived.KernelRfl
namespace Go.Proofs.YtdkodedocklmdaaGreatDoor
/- THE CELL 'sum', in the pinned program and in every row, IS THE sha256 OF THE DUMP (.gsa) THAT YtdkodedocklmdaaGreatDoorProg.lean LOADS. Nothing in Lean hashes anything: it is a label: what it is worth is what the hold of that sum in a sandbox is worth. -/
noncomputable def Tryz.pinned : Pinned := { name := "ytdkodedocklmdaagreatdoor", sum := "882116d0ed88b3f4e0af5fb4a0db36d34682e7cd13cb32102d5f4c124b83ed68", checked := Tryz.checked }
namespace Rows
def none {H : Type} : Left H := { results := [], args := [] }

/- WHAT THE LISTED PACKAGE-LEVEL VARIABLES READ AS WHEN THE CALL BEGINS. Each datum BY PROGRAM (the guide's laid-datum.mjs) off the statement by which the dump's own 'gosem.cut.vars' lays the variable. In a bare row this is a premise. The card (YtdkodedocklmdaaGreatDoorCards.lean) ties it to the program's text. -/
def laid_errors_errorType {H : Type} : DataW H := .iface "internal/reflectlite.rtype" (.agg [.ptr (.lit (.string [101, 114, 114, 111, 114]))])

/-- 'stratalaw07.TreeChecks': WHATEVER THE INPUT: true; the input reads as it did. -/
def treeChecksSpec : ChangeSpec := { name := "treeChecks", fn := fun _ => fun
  | [d] => { results := [.lit (.bool true)], args := [d] }
  | _ => none }
def treeChecksRow : OpenClaim := { program := "ytdkodedocklmdaagreatdoor", sum := "882116d0ed88b3f4e0af5fb4a0db36d34682e7cd13cb32102d5f4c124b83ed68", func := "strata/stratalaw07.TreeChecks", spec := "treeChecks", inPlace := ["internal/bytealg.IndexByteString", "internal/bytealg.IndexString", "internal/reflectlite.ValueOf", "(internal/reflectlite.Value).Type", "(internal/reflectlite.Value).IsNil", "internal/reflectlite.TypeOf", "(internal/reflectlite.Value).Elem", "(internal/reflectlite.Value).Set"], unfollowed := true, recurses := true, named := ["internal/bytealg.MaxLen", "errors.errorType"], apart := false, laid := [("errors.errorType", laid_errors_errorType)] }
def TreeChecksSaid : Prop := treeChecksRow.holds Tryz.pinned (OpenSpec.ofChange treeChecksSpec)

/-- ITS FALSE NEIGHBOUR: 'it returns false'. Refute it at one input. -/
def treeChecksWrong : ChangeSpec := { name := "treeChecks", fn := fun _ => fun
  | [d] => { results := [.lit (.bool false)], args := [d] }
  | _ => none }
def TreeChecksWrongFalsely : Prop := treeChecksRow.holds Tryz.pinned (OpenSpec.ofChange treeChecksWrong)

/-- 'stratalaw07.TreeStays': WHATEVER THE INPUT: true; the input reads as it did. -/
def treeStaysSpec : ChangeSpec := { name := "treeStays", fn := fun _ => fun
  | [d] => { results := [.lit (.bool true)], args := [d] }
  | _ => none }
def treeStaysRow : OpenClaim := { program := "ytdkodedocklmdaagreatdoor", sum := "882116d0ed88b3f4e0af5fb4a0db36d34682e7cd13cb32102d5f4c124b83ed68", func := "strata/stratalaw07.TreeStays", spec := "treeStays", inPlace := ["internal/bytealg.IndexByteString", "internal/bytealg.IndexString", "internal/reflectlite.ValueOf", "(internal/reflectlite.Value).Type", "(internal/reflectlite.Value).IsNil", "internal/reflectlite.TypeOf", "(internal/reflectlite.Value).Elem", "(internal/reflectlite.Value).Set"], unfollowed := true, recurses := true, named := ["internal/bytealg.MaxLen", "errors.errorType"], apart := false, laid := [("errors.errorType", laid_errors_errorType)] }
def TreeStaysSaid : Prop := treeStaysRow.holds Tryz.pinned (OpenSpec.ofChange treeStaysSpec)

/-- ITS FALSE NEIGHBOUR: 'it returns false'. Refute it at one input. -/
def treeStaysWrong : ChangeSpec := { name := "treeStays", fn := fun _ => fun
  | [d] => { results := [.lit (.bool false)], args := [d] }
  | _ => none }
def TreeStaysWrongFalsely : Prop := treeStaysRow.holds Tryz.pinned (OpenSpec.ofChange treeStaysWrong)

/-- 'stratalaw07.TreeSubs': WHATEVER THE INPUT: true; the input reads as it did. -/
def treeSubsSpec : ChangeSpec := { name := "treeSubs", fn := fun _ => fun
  | [d1, d2, d3] => { results := [.lit (.bool true)], args := [d1, d2, d3] }
  | _ => none }
def treeSubsRow : OpenClaim := { program := "ytdkodedocklmdaagreatdoor", sum := "882116d0ed88b3f4e0af5fb4a0db36d34682e7cd13cb32102d5f4c124b83ed68", func := "strata/stratalaw07.TreeSubs", spec := "treeSubs", inPlace := ["internal/bytealg.IndexByteString", "internal/bytealg.IndexString", "internal/reflectlite.TypeOf", "internal/reflectlite.ValueOf", "(internal/reflectlite.Value).Type", "(internal/reflectlite.Value).IsNil", "(internal/reflectlite.Value).Elem", "(internal/reflectlite.Value).Set"], unfollowed := true, recurses := true, named := ["internal/bytealg.MaxLen", "errors.errorType"], apart := false, laid := [("errors.errorType", laid_errors_errorType)] }
def TreeSubsSaid : Prop := treeSubsRow.holds Tryz.pinned (OpenSpec.ofChange treeSubsSpec)

/-- ITS FALSE NEIGHBOUR: 'it returns false'. Refute it at one input. -/
def treeSubsWrong : ChangeSpec := { name := "treeSubs", fn := fun _ => fun
  | [d1, d2, d3] => { results := [.lit (.bool false)], args := [d1, d2, d3] }
  | _ => none }
def TreeSubsWrongFalsely : Prop := treeSubsRow.holds Tryz.pinned (OpenSpec.ofChange treeSubsWrong)

/-- 'stratalaw08.ResolveFind': WHATEVER THE INPUT: true; the input reads as it did. -/
def resolveFindSpec : ChangeSpec := { name := "resolveFind", fn := fun _ => fun
  | [d1, d2] => { results := [.lit (.bool true)], args := [d1, d2] }
  | _ => none }
def resolveFindRow : OpenClaim := { program := "ytdkodedocklmdaagreatdoor", sum := "882116d0ed88b3f4e0af5fb4a0db36d34682e7cd13cb32102d5f4c124b83ed68", func := "strata/stratalaw08.ResolveFind", spec := "resolveFind", inPlace := ["internal/bytealg.IndexByteString", "internal/bytealg.IndexString", "internal/reflectlite.TypeOf", "internal/reflectlite.ValueOf", "(internal/reflectlite.Value).Type", "(internal/reflectlite.Value).IsNil", "(internal/reflectlite.Value).Elem", "(internal/reflectlite.Value).Set"], unfollowed := true, recurses := true, named := ["internal/bytealg.MaxLen", "errors.errorType"], apart := false, laid := [("errors.errorType", laid_errors_errorType)] }
def ResolveFindSaid : Prop := resolveFindRow.holds Tryz.pinned (OpenSpec.ofChange resolveFindSpec)

/-- ITS FALSE NEIGHBOUR: 'it returns false'. Refute it at one input. -/
def resolveFindWrong : ChangeSpec := { name := "resolveFind", fn := fun _ => fun
  | [d1, d2] => { results := [.lit (.bool false)], args := [d1, d2] }
  | _ => none }
def ResolveFindWrongFalsely : Prop := resolveFindRow.holds Tryz.pinned (OpenSpec.ofChange resolveFindWrong)

/-- 'stratalaw08.ResolveTrail': WHATEVER THE INPUT: true; the input reads as it did. -/
def resolveTrailSpec : ChangeSpec := { name := "resolveTrail", fn := fun _ => fun
  | [d1, d2, d3] => { results := [.lit (.bool true)], args := [d1, d2, d3] }
  | _ => none }
def resolveTrailRow : OpenClaim := { program := "ytdkodedocklmdaagreatdoor", sum := "882116d0ed88b3f4e0af5fb4a0db36d34682e7cd13cb32102d5f4c124b83ed68", func := "strata/stratalaw08.ResolveTrail", spec := "resolveTrail", inPlace := ["internal/bytealg.IndexByteString", "internal/bytealg.IndexString", "internal/reflectlite.TypeOf", "internal/reflectlite.ValueOf", "(internal/reflectlite.Value).Type", "(internal/reflectlite.Value).IsNil", "(internal/reflectlite.Value).Elem", "(internal/reflectlite.Value).Set"], unfollowed := true, recurses := true, named := ["internal/bytealg.MaxLen", "errors.errorType"], apart := false, laid := [("errors.errorType", laid_errors_errorType)] }
def ResolveTrailSaid : Prop := resolveTrailRow.holds Tryz.pinned (OpenSpec.ofChange resolveTrailSpec)

/-- ITS FALSE NEIGHBOUR: 'it returns false'. Refute it at one input. -/
def resolveTrailWrong : ChangeSpec := { name := "resolveTrail", fn := fun _ => fun
  | [d1, d2, d3] => { results := [.lit (.bool false)], args := [d1, d2, d3] }
  | _ => none }
def ResolveTrailWrongFalsely : Prop := resolveTrailRow.holds Tryz.pinned (OpenSpec.ofChange resolveTrailWrong)

/-- 'stratalaw08.ResolvePlays': WHATEVER THE INPUT: true; the input reads as it did. -/
def resolvePlaysSpec : ChangeSpec := { name := "resolvePlays", fn := fun _ => fun
  | [d1, d2] => { results := [.lit (.bool true)], args := [d1, d2] }
  | _ => none }
def resolvePlaysRow : OpenClaim := { program := "ytdkodedocklmdaagreatdoor", sum := "882116d0ed88b3f4e0af5fb4a0db36d34682e7cd13cb32102d5f4c124b83ed68", func := "strata/stratalaw08.ResolvePlays", spec := "resolvePlays", inPlace := ["internal/bytealg.IndexByteString", "internal/bytealg.IndexString", "internal/reflectlite.TypeOf", "internal/reflectlite.ValueOf", "(internal/reflectlite.Value).Type", "(internal/reflectlite.Value).IsNil", "(internal/reflectlite.Value).Elem", "(internal/reflectlite.Value).Set"], unfollowed := true, recurses := true, named := ["internal/bytealg.MaxLen", "errors.errorType"], apart := false, laid := [("errors.errorType", laid_errors_errorType)] }
def ResolvePlaysSaid : Prop := resolvePlaysRow.holds Tryz.pinned (OpenSpec.ofChange resolvePlaysSpec)

/-- ITS FALSE NEIGHBOUR: 'it returns false'. Refute it at one input. -/
def resolvePlaysWrong : ChangeSpec := { name := "resolvePlays", fn := fun _ => fun
  | [d1, d2] => { results := [.lit (.bool false)], args := [d1, d2] }
  | _ => none }
def ResolvePlaysWrongFalsely : Prop := resolvePlaysRow.holds Tryz.pinned (OpenSpec.ofChange resolvePlaysWrong)

/-- 'stratalaw08.ResolveMakes': WHATEVER THE INPUT: true; the input reads as it did. -/
def resolveMakesSpec : ChangeSpec := { name := "resolveMakes", fn := fun _ => fun
  | [d1, d2] => { results := [.lit (.bool true)], args := [d1, d2] }
  | _ => none }
def resolveMakesRow : OpenClaim := { program := "ytdkodedocklmdaagreatdoor", sum := "882116d0ed88b3f4e0af5fb4a0db36d34682e7cd13cb32102d5f4c124b83ed68", func := "strata/stratalaw08.ResolveMakes", spec := "resolveMakes", inPlace := ["internal/bytealg.IndexByteString", "internal/bytealg.IndexString", "internal/reflectlite.TypeOf", "internal/reflectlite.ValueOf", "(internal/reflectlite.Value).Type", "(internal/reflectlite.Value).IsNil", "(internal/reflectlite.Value).Elem", "(internal/reflectlite.Value).Set"], unfollowed := true, recurses := true, named := ["internal/bytealg.MaxLen", "errors.errorType"], apart := false, laid := [("errors.errorType", laid_errors_errorType)] }
def ResolveMakesSaid : Prop := resolveMakesRow.holds Tryz.pinned (OpenSpec.ofChange resolveMakesSpec)

/-- ITS FALSE NEIGHBOUR: 'it returns false'. Refute it at one input. -/
def resolveMakesWrong : ChangeSpec := { name := "resolveMakes", fn := fun _ => fun
  | [d1, d2] => { results := [.lit (.bool false)], args := [d1, d2] }
  | _ => none }
def ResolveMakesWrongFalsely : Prop := resolveMakesRow.holds Tryz.pinned (OpenSpec.ofChange resolveMakesWrong)

/-- 'stratalaw08.ResolveKnown': WHATEVER THE INPUT: true; the input reads as it did. -/
def resolveKnownSpec : ChangeSpec := { name := "resolveKnown", fn := fun _ => fun
  | [] => { results := [.lit (.bool true)], args := [] }
  | _ => none }
def resolveKnownRow : OpenClaim := { program := "ytdkodedocklmdaagreatdoor", sum := "882116d0ed88b3f4e0af5fb4a0db36d34682e7cd13cb32102d5f4c124b83ed68", func := "strata/stratalaw08.ResolveKnown", spec := "resolveKnown", inPlace := ["internal/bytealg.IndexByteString", "internal/bytealg.IndexString", "internal/reflectlite.TypeOf", "internal/reflectlite.ValueOf", "(internal/reflectlite.Value).Type", "(internal/reflectlite.Value).IsNil", "(internal/reflectlite.Value).Elem", "(internal/reflectlite.Value).Set"], unfollowed := true, recurses := true, named := ["internal/bytealg.MaxLen", "errors.errorType"], apart := false, laid := [("errors.errorType", laid_errors_errorType)] }
def ResolveKnownSaid : Prop := resolveKnownRow.holds Tryz.pinned (OpenSpec.ofChange resolveKnownSpec)

/-- ITS FALSE NEIGHBOUR: 'it returns false'. Refute it at one input. -/
def resolveKnownWrong : ChangeSpec := { name := "resolveKnown", fn := fun _ => fun
  | [] => { results := [.lit (.bool false)], args := [] }
  | _ => none }
def ResolveKnownWrongFalsely : Prop := resolveKnownRow.holds Tryz.pinned (OpenSpec.ofChange resolveKnownWrong)

/- THE SECOND FORM. 'bulk': how many values and letters a reading holds, each counted each time it is reached (what is shared counts as often as it is met; a slice's spare places count too). A statement '..UptoSaid' is the law's where the arguments, and the package variables that the reading takes, are together of bulk at most 1048576: NARROWER than '..Said'. Prove '..Said' where nothing that the law and all that it calls make is longer than what came in: it says more and counts as full. Else prove '..UptoSaid'. A law counts once. -/
mutual
def uptoBulk {H : Type} : DataW H → Nat
  | .lit (.string bytes) => bytes.length + 1
  | .lit _ => 1
  | .nil => 1
  | .ptr d => uptoBulk d + 1
  | .slice elems spare => uptoBulkAll elems + uptoBulkAll spare + 1
  | .agg parts => uptoBulkAll parts + 1
  | .iface _ d => uptoBulk d + 1
  | .map entries => uptoBulkEntries entries + 1
  | .held _ => 1
def uptoBulkAll {H : Type} : List (DataW H) → Nat
  | [] => 0
  | d :: r => uptoBulk d + uptoBulkAll r
def uptoBulkEntries {H : Type} : List (Lit × DataW H) → Nat
  | [] => 0
  | x :: r => uptoBulkEntry x + uptoBulkEntries r
def uptoBulkEntry {H : Type} : Lit × DataW H → Nat
  | (.string bytes, d) => bytes.length + uptoBulk d + 1
  | (_, d) => uptoBulk d + 1
 end
def uptoSmall : (H : Type) → List (DataW H) → Bool := fun _ ds => decide (uptoBulkAll ds ≤ 1048576)
def OpenSpec.upto (s : _root_.Go.ChangeSpec) : _root_.Go.OpenSpec := { _root_.Go.OpenSpec.ofChange s with cond := some uptoSmall }

/-- 'stratalaw07.TreeChecks', WHERE WHAT IT READS IS OF BULK AT MOST 1048576: true; the input reads as it did. -/
def treeChecksUptoRow : OpenClaim := { program := "ytdkodedocklmdaagreatdoor", sum := "882116d0ed88b3f4e0af5fb4a0db36d34682e7cd13cb32102d5f4c124b83ed68", func := "strata/stratalaw07.TreeChecks", spec := "treeChecks", inPlace := ["internal/bytealg.IndexByteString", "internal/bytealg.IndexString", "internal/reflectlite.ValueOf", "(internal/reflectlite.Value).Type", "(internal/reflectlite.Value).IsNil", "internal/reflectlite.TypeOf", "(internal/reflectlite.Value).Elem", "(internal/reflectlite.Value).Set"], unfollowed := true, recurses := true, named := ["internal/bytealg.MaxLen", "errors.errorType"], apart := false, laid := [("errors.errorType", laid_errors_errorType)], narrowed := true }
def TreeChecksUptoSaid : Prop := treeChecksUptoRow.holds Tryz.pinned (OpenSpec.upto treeChecksSpec)

/-- 'stratalaw07.TreeStays', WHERE WHAT IT READS IS OF BULK AT MOST 1048576: true; the input reads as it did. -/
def treeStaysUptoRow : OpenClaim := { program := "ytdkodedocklmdaagreatdoor", sum := "882116d0ed88b3f4e0af5fb4a0db36d34682e7cd13cb32102d5f4c124b83ed68", func := "strata/stratalaw07.TreeStays", spec := "treeStays", inPlace := ["internal/bytealg.IndexByteString", "internal/bytealg.IndexString", "internal/reflectlite.ValueOf", "(internal/reflectlite.Value).Type", "(internal/reflectlite.Value).IsNil", "internal/reflectlite.TypeOf", "(internal/reflectlite.Value).Elem", "(internal/reflectlite.Value).Set"], unfollowed := true, recurses := true, named := ["internal/bytealg.MaxLen", "errors.errorType"], apart := false, laid := [("errors.errorType", laid_errors_errorType)], narrowed := true }
def TreeStaysUptoSaid : Prop := treeStaysUptoRow.holds Tryz.pinned (OpenSpec.upto treeStaysSpec)

/-- 'stratalaw07.TreeSubs', WHERE WHAT IT READS IS OF BULK AT MOST 1048576: true; the input reads as it did. -/
def treeSubsUptoRow : OpenClaim := { program := "ytdkodedocklmdaagreatdoor", sum := "882116d0ed88b3f4e0af5fb4a0db36d34682e7cd13cb32102d5f4c124b83ed68", func := "strata/stratalaw07.TreeSubs", spec := "treeSubs", inPlace := ["internal/bytealg.IndexByteString", "internal/bytealg.IndexString", "internal/reflectlite.TypeOf", "internal/reflectlite.ValueOf", "(internal/reflectlite.Value).Type", "(internal/reflectlite.Value).IsNil", "(internal/reflectlite.Value).Elem", "(internal/reflectlite.Value).Set"], unfollowed := true, recurses := true, named := ["internal/bytealg.MaxLen", "errors.errorType"], apart := false, laid := [("errors.errorType", laid_errors_errorType)], narrowed := true }
def TreeSubsUptoSaid : Prop := treeSubsUptoRow.holds Tryz.pinned (OpenSpec.upto treeSubsSpec)

/-- 'stratalaw08.ResolveFind', WHERE WHAT IT READS IS OF BULK AT MOST 1048576: true; the input reads as it did. -/
def resolveFindUptoRow : OpenClaim := { program := "ytdkodedocklmdaagreatdoor", sum := "882116d0ed88b3f4e0af5fb4a0db36d34682e7cd13cb32102d5f4c124b83ed68", func := "strata/stratalaw08.ResolveFind", spec := "resolveFind", inPlace := ["internal/bytealg.IndexByteString", "internal/bytealg.IndexString", "internal/reflectlite.TypeOf", "internal/reflectlite.ValueOf", "(internal/reflectlite.Value).Type", "(internal/reflectlite.Value).IsNil", "(internal/reflectlite.Value).Elem", "(internal/reflectlite.Value).Set"], unfollowed := true, recurses := true, named := ["internal/bytealg.MaxLen", "errors.errorType"], apart := false, laid := [("errors.errorType", laid_errors_errorType)], narrowed := true }
def ResolveFindUptoSaid : Prop := resolveFindUptoRow.holds Tryz.pinned (OpenSpec.upto resolveFindSpec)

/-- 'stratalaw08.ResolveTrail', WHERE WHAT IT READS IS OF BULK AT MOST 1048576: true; the input reads as it did. -/
def resolveTrailUptoRow : OpenClaim := { program := "ytdkodedocklmdaagreatdoor", sum := "882116d0ed88b3f4e0af5fb4a0db36d34682e7cd13cb32102d5f4c124b83ed68", func := "strata/stratalaw08.ResolveTrail", spec := "resolveTrail", inPlace := ["internal/bytealg.IndexByteString", "internal/bytealg.IndexString", "internal/reflectlite.TypeOf", "internal/reflectlite.ValueOf", "(internal/reflectlite.Value).Type", "(internal/reflectlite.Value).IsNil", "(internal/reflectlite.Value).Elem", "(internal/reflectlite.Value).Set"], unfollowed := true, recurses := true, named := ["internal/bytealg.MaxLen", "errors.errorType"], apart := false, laid := [("errors.errorType", laid_errors_errorType)], narrowed := true }
def ResolveTrailUptoSaid : Prop := resolveTrailUptoRow.holds Tryz.pinned (OpenSpec.upto resolveTrailSpec)

/-- 'stratalaw08.ResolvePlays', WHERE WHAT IT READS IS OF BULK AT MOST 1048576: true; the input reads as it did. -/
def resolvePlaysUptoRow : OpenClaim := { program := "ytdkodedocklmdaagreatdoor", sum := "882116d0ed88b3f4e0af5fb4a0db36d34682e7cd13cb32102d5f4c124b83ed68", func := "strata/stratalaw08.ResolvePlays", spec := "resolvePlays", inPlace := ["internal/bytealg.IndexByteString", "internal/bytealg.IndexString", "internal/reflectlite.TypeOf", "internal/reflectlite.ValueOf", "(internal/reflectlite.Value).Type", "(internal/reflectlite.Value).IsNil", "(internal/reflectlite.Value).Elem", "(internal/reflectlite.Value).Set"], unfollowed := true, recurses := true, named := ["internal/bytealg.MaxLen", "errors.errorType"], apart := false, laid := [("errors.errorType", laid_errors_errorType)], narrowed := true }
def ResolvePlaysUptoSaid : Prop := resolvePlaysUptoRow.holds Tryz.pinned (OpenSpec.upto resolvePlaysSpec)

/-- 'stratalaw08.ResolveMakes', WHERE WHAT IT READS IS OF BULK AT MOST 1048576: true; the input reads as it did. -/
def resolveMakesUptoRow : OpenClaim := { program := "ytdkodedocklmdaagreatdoor", sum := "882116d0ed88b3f4e0af5fb4a0db36d34682e7cd13cb32102d5f4c124b83ed68", func := "strata/stratalaw08.ResolveMakes", spec := "resolveMakes", inPlace := ["internal/bytealg.IndexByteString", "internal/bytealg.IndexString", "internal/reflectlite.TypeOf", "internal/reflectlite.ValueOf", "(internal/reflectlite.Value).Type", "(internal/reflectlite.Value).IsNil", "(internal/reflectlite.Value).Elem", "(internal/reflectlite.Value).Set"], unfollowed := true, recurses := true, named := ["internal/bytealg.MaxLen", "errors.errorType"], apart := false, laid := [("errors.errorType", laid_errors_errorType)], narrowed := true }
def ResolveMakesUptoSaid : Prop := resolveMakesUptoRow.holds Tryz.pinned (OpenSpec.upto resolveMakesSpec)

/-- 'stratalaw08.ResolveKnown', WHERE WHAT IT READS IS OF BULK AT MOST 1048576: true; the input reads as it did. -/
def resolveKnownUptoRow : OpenClaim := { program := "ytdkodedocklmdaagreatdoor", sum := "882116d0ed88b3f4e0af5fb4a0db36d34682e7cd13cb32102d5f4c124b83ed68", func := "strata/stratalaw08.ResolveKnown", spec := "resolveKnown", inPlace := ["internal/bytealg.IndexByteString", "internal/bytealg.IndexString", "internal/reflectlite.TypeOf", "internal/reflectlite.ValueOf", "(internal/reflectlite.Value).Type", "(internal/reflectlite.Value).IsNil", "(internal/reflectlite.Value).Elem", "(internal/reflectlite.Value).Set"], unfollowed := true, recurses := true, named := ["internal/bytealg.MaxLen", "errors.errorType"], apart := false, laid := [("errors.errorType", laid_errors_errorType)], narrowed := true }
def ResolveKnownUptoSaid : Prop := resolveKnownUptoRow.holds Tryz.pinned (OpenSpec.upto resolveKnownSpec)

end Rows
end Go.Proofs.YtdkodedocklmdaaGreatDoor
