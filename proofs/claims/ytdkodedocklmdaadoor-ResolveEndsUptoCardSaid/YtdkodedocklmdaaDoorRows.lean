/-
  NARROWER THAN 'FOR EVERY INPUT', by the rows' own cells (each row's printed sentence says how): ResolveInside: laid · ResolveOn: laid · ResolveEnds: laid.
  DERIVED. THE GIVEN ROWS OF THIS SEAT. 3 by the template 'for every input the law returns true; each argument reads behind the call as it read before'; 0 by the template 'total and deterministic' (their statements: YtdkodedocklmdaaDoorTotals.lean).
  GIVEN WITH THE SEED: the statements are not yours to turn. If you find one false, say at which input.
  Laid BY PROGRAM, IN A SANDBOX (cutbox-rows.mjs): the forced cells as the released guide's own fill.sh prints them over the translation 95fc949d5c1e78bb… (all of the seat's roots in one cut). By AI agents, Wed Nov 11 2026. No macro, syntax, notation, axiom, sorry.
-/
import Derived.Test.YtdkodedocklmdaaDoorChecked
import GoSem.Claim
import GoSem.ClaimJoined
import GoSem.ClaimMapViews
import Derived.JoinedTies
import Derived.KernelRfl
namespace Go.Proofs.YtdkodedocklmdaaDoor
/- THE CELL 'sum', in the pinned program and in every row, IS THE sha256 OF THE DUMP (.gsa) THAT YtdkodedocklmdaaDoorProg.lean LOADS. Nothing in Lean hashes anything: it is a label: what it is worth is what the hold of that sum in a sandbox is worth. -/
noncomputable def Tryd.pinned : Pinned := { name := "ytdkodedocklmdaadoor", sum := "95fc949d5c1e78bb6f5a3f661189fc66f032f5adc9309a16cba15cf0eb93df8b", checked := Tryd.checked }
namespace Rows
def none {H : Type} : Left H := { results := [], args := [] }

/- WHAT THE LISTED PACKAGE-LEVEL VARIABLES READ AS WHEN THE CALL BEGINS. Each datum BY PROGRAM (the guide's laid-datum.mjs) off the statement by which the dump's own 'gosem.cut.vars' lays the variable. In a bare row this is a premise. The card (YtdkodedocklmdaaDoorCards.lean) ties it to the program's text. -/
def laid_errors_errorType {H : Type} : DataW H := .iface "internal/reflectlite.rtype" (.agg [.ptr (.lit (.string [101, 114, 114, 111, 114]))])

/-- 'stratalaw08.ResolveInside': WHATEVER THE INPUT: true; the input reads as it did. -/
def resolveInsideSpec : ChangeSpec := { name := "resolveInside", fn := fun _ => fun
  | [d1, d2, d3] => { results := [.lit (.bool true)], args := [d1, d2, d3] }
  | _ => none }
def resolveInsideRow : OpenClaim := { program := "ytdkodedocklmdaadoor", sum := "95fc949d5c1e78bb6f5a3f661189fc66f032f5adc9309a16cba15cf0eb93df8b", func := "strata/stratalaw08.ResolveInside", spec := "resolveInside", inPlace := ["internal/bytealg.IndexByteString", "internal/bytealg.IndexString", "internal/reflectlite.TypeOf", "internal/reflectlite.ValueOf", "(internal/reflectlite.Value).Type", "(internal/reflectlite.Value).IsNil", "(internal/reflectlite.Value).Elem", "(internal/reflectlite.Value).Set"], unfollowed := true, recurses := true, named := ["internal/bytealg.MaxLen", "errors.errorType"], apart := false, laid := [("errors.errorType", laid_errors_errorType)] }
def ResolveInsideSaid : Prop := resolveInsideRow.holds Tryd.pinned (OpenSpec.ofChange resolveInsideSpec)

/-- ITS FALSE NEIGHBOUR: 'it returns false'. Refute it at one input. -/
def resolveInsideWrong : ChangeSpec := { name := "resolveInside", fn := fun _ => fun
  | [d1, d2, d3] => { results := [.lit (.bool false)], args := [d1, d2, d3] }
  | _ => none }
def ResolveInsideWrongFalsely : Prop := resolveInsideRow.holds Tryd.pinned (OpenSpec.ofChange resolveInsideWrong)

/-- 'stratalaw08.ResolveOn': WHATEVER THE INPUT: true; the input reads as it did. -/
def resolveOnSpec : ChangeSpec := { name := "resolveOn", fn := fun _ => fun
  | [d1, d2] => { results := [.lit (.bool true)], args := [d1, d2] }
  | _ => none }
def resolveOnRow : OpenClaim := { program := "ytdkodedocklmdaadoor", sum := "95fc949d5c1e78bb6f5a3f661189fc66f032f5adc9309a16cba15cf0eb93df8b", func := "strata/stratalaw08.ResolveOn", spec := "resolveOn", inPlace := ["internal/bytealg.IndexByteString", "internal/bytealg.IndexString", "internal/reflectlite.TypeOf", "internal/reflectlite.ValueOf", "(internal/reflectlite.Value).Type", "(internal/reflectlite.Value).IsNil", "(internal/reflectlite.Value).Elem", "(internal/reflectlite.Value).Set"], unfollowed := true, recurses := true, named := ["internal/bytealg.MaxLen", "errors.errorType"], apart := false, laid := [("errors.errorType", laid_errors_errorType)] }
def ResolveOnSaid : Prop := resolveOnRow.holds Tryd.pinned (OpenSpec.ofChange resolveOnSpec)

/-- ITS FALSE NEIGHBOUR: 'it returns false'. Refute it at one input. -/
def resolveOnWrong : ChangeSpec := { name := "resolveOn", fn := fun _ => fun
  | [d1, d2] => { results := [.lit (.bool false)], args := [d1, d2] }
  | _ => none }
def ResolveOnWrongFalsely : Prop := resolveOnRow.holds Tryd.pinned (OpenSpec.ofChange resolveOnWrong)

/-- 'stratalaw08.ResolveEnds': WHATEVER THE INPUT: true; the input reads as it did. -/
def resolveEndsSpec : ChangeSpec := { name := "resolveEnds", fn := fun _ => fun
  | [d1, d2] => { results := [.lit (.bool true)], args := [d1, d2] }
  | _ => none }
def resolveEndsRow : OpenClaim := { program := "ytdkodedocklmdaadoor", sum := "95fc949d5c1e78bb6f5a3f661189fc66f032f5adc9309a16cba15cf0eb93df8b", func := "strata/stratalaw08.ResolveEnds", spec := "resolveEnds", inPlace := ["internal/bytealg.IndexByteString", "internal/bytealg.IndexString", "internal/reflectlite.TypeOf", "internal/reflectlite.ValueOf", "(internal/reflectlite.Value).Type", "(internal/reflectlite.Value).IsNil", "(internal/reflectlite.Value).Elem", "(internal/reflectlite.Value).Set"], unfollowed := true, recurses := true, named := ["internal/bytealg.MaxLen", "errors.errorType"], apart := false, laid := [("errors.errorType", laid_errors_errorType)] }
def ResolveEndsSaid : Prop := resolveEndsRow.holds Tryd.pinned (OpenSpec.ofChange resolveEndsSpec)

/-- ITS FALSE NEIGHBOUR: 'it returns false'. Refute it at one input. -/
def resolveEndsWrong : ChangeSpec := { name := "resolveEnds", fn := fun _ => fun
  | [d1, d2] => { results := [.lit (.bool false)], args := [d1, d2] }
  | _ => none }
def ResolveEndsWrongFalsely : Prop := resolveEndsRow.holds Tryd.pinned (OpenSpec.ofChange resolveEndsWrong)

/- THE SECOND FORM. 'bulk': how many values and letters a reading holds, each counted each time it is reached (what is shared counts as often as it is met; a slice's spare places count too). A statement '..UptoSaid' is the law's where the arguments, and the package variables that the reading takes, are together of bulk at most 1048576: NARROWER than '..Said'. Prove '..Said' where nothing that the law and all that it calls make is longer than what came in: it says more and counts as full. Else prove '..UptoSaid'. A law counts once. -/
mutual
def uptoBulk {H : Type} : DataW H → Nat
  | .lit (.string bytes) => bytes.length + 1
  | .lit _ => 1
  | .nil => 1
  | .ptr d => uptoBulk d + 1
  | .slice elems spare => uptoBulkAll elems + uptoBulkAll spare + 1
  | .agg parts => uptoBulkAll parts + 1
  | .iface _ d => uptoBulk d + 1
  | .map entries => uptoBulkEntries entries + 1
  | .held _ => 1
def uptoBulkAll {H : Type} : List (DataW H) → Nat
  | [] => 0
  | d :: r => uptoBulk d + uptoBulkAll r
def uptoBulkEntries {H : Type} : List (Lit × DataW H) → Nat
  | [] => 0
  | x :: r => uptoBulkEntry x + uptoBulkEntries r
def uptoBulkEntry {H : Type} : Lit × DataW H → Nat
  | (.string bytes, d) => bytes.length + uptoBulk d + 1
  | (_, d) => uptoBulk d + 1
 end
def uptoSmall : (H : Type) → List (DataW H) → Bool := fun _ ds => decide (uptoBulkAll ds ≤ 1048576)
def OpenSpec.upto (s : _root_.Go.ChangeSpec) : _root_.Go.OpenSpec := { _root_.Go.OpenSpec.ofChange s with cond := some uptoSmall }

/-- 'stratalaw08.ResolveInside', WHERE WHAT IT READS IS OF BULK AT MOST 1048576: true; the input reads as it did. -/
def resolveInsideUptoRow : OpenClaim := { program := "ytdkodedocklmdaadoor", sum := "95fc949d5c1e78bb6f5a3f661189fc66f032f5adc9309a16cba15cf0eb93df8b", func := "strata/stratalaw08.ResolveInside", spec := "resolveInside", inPlace := ["internal/bytealg.IndexByteString", "internal/bytealg.IndexString", "internal/reflectlite.TypeOf", "internal/reflectlite.ValueOf", "(internal/reflectlite.Value).Type", "(internal/reflectlite.Value).IsNil", "(internal/reflectlite.Value).Elem", "(internal/reflectlite.Value).Set"], unfollowed := true, recurses := true, named := ["internal/bytealg.MaxLen", "errors.errorType"], apart := false, laid := [("errors.errorType", laid_errors_errorType)], narrowed := true }
def ResolveInsideUptoSaid : Prop := resolveInsideUptoRow.holds Tryd.pinned (OpenSpec.upto resolveInsideSpec)

/-- 'stratalaw08.ResolveOn', WHERE WHAT IT READS IS OF BULK AT MOST 1048576: true; the input reads as it did. -/
def resolveOnUptoRow : OpenClaim := { program := "ytdkodedocklmdaadoor", sum := "95fc949d5c1e78bb6f5a3f661189fc66f032f5adc9309a16cba15cf0eb93df8b", func := "strata/stratalaw08.ResolveOn", spec := "resolveOn", inPlace := ["internal/bytealg.IndexByteString", "internal/bytealg.IndexString", "internal/reflectlite.TypeOf", "internal/reflectlite.ValueOf", "(internal/reflectlite.Value).Type", "(internal/reflectlite.Value).IsNil", "(internal/reflectlite.Value).Elem", "(internal/reflectlite.Value).Set"], unfollowed := true, recurses := true, named := ["internal/bytealg.MaxLen", "errors.errorType"], apart := false, laid := [("errors.errorType", laid_errors_errorType)], narrowed := true }
def ResolveOnUptoSaid : Prop := resolveOnUptoRow.holds Tryd.pinned (OpenSpec.upto resolveOnSpec)

/-- 'stratalaw08.ResolveEnds', WHERE WHAT IT READS IS OF BULK AT MOST 1048576: true; the input reads as it did. -/
def resolveEndsUptoRow : OpenClaim := { program := "ytdkodedocklmdaadoor", sum := "95fc949d5c1e78bb6f5a3f661189fc66f032f5adc9309a16cba15cf0eb93df8b", func := "strata/stratalaw08.ResolveEnds", spec := "resolveEnds", inPlace := ["internal/bytealg.IndexByteString", "internal/bytealg.IndexString", "internal/reflectlite.TypeOf", "internal/reflectlite.ValueOf", "(internal/reflectlite.Value).Type", "(internal/reflectlite.Value).IsNil", "(internal/reflectlite.Value).Elem", "(internal/reflectlite.Value).Set"], unfollowed := true, recurses := true, named := ["internal/bytealg.MaxLen", "errors.errorType"], apart := false, laid := [("errors.errorType", laid_errors_errorType)], narrowed := true }
def ResolveEndsUptoSaid : Prop := resolveEndsUptoRow.holds Tryd.pinned (OpenSpec.upto resolveEndsSpec)

end Rows
end Go.Proofs.YtdkodedocklmdaaDoor
