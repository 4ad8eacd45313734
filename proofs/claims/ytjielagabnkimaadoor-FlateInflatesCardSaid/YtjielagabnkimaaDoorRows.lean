/-
  NARROWER THAN 'FOR EVERY INPUT', by the rows' own cells (each row's printed sentence says how): FlateDeflates: laid · FlateCrcs: laid · FlateGzips: laid · FlateInflates: laid · FlateBack: laid.
  DERIVED. THE GIVEN ROWS OF THIS SEAT. 5 by the template 'for every input the law returns true; each argument reads behind the call as it read before'; 0 by the template 'total and deterministic' (their statements: YtjielagabnkimaaDoorTotals.lean).
  GIVEN WITH THE SEED: the statements are not yours to turn. If you find one false, say at which input.
  Laid BY PROGRAM, IN A SANDBOX (cutbox-rows.mjs): the forced cells as the released guide's own fill.sh prints them over the translation d8c4088d96597c82… (all of the seat's roots in one cut). By AI agents, Wed Nov 11 2026. No macro, syntax, notation, axiom, sorry.
-/
import Derived.Test.YtjielagabnkimaaDoorChecked
import GoSem.Claim
import GoSem.ClaimJoined
import GoSem.ClaimMapViews
import Derived.JoinedTies
import Derived.KernelRfl
namespace Go.Proofs.YtjielagabnkimaaDoor
/- THE CELL 'sum', in the pinned program and in every row, IS THE sha256 OF THE DUMP (.gsa) THAT YtjielagabnkimaaDoorProg.lean LOADS. Nothing in Lean hashes anything: it is a label: what it is worth is what the hold of that sum in a sandbox is worth. -/
noncomputable def Tryd.pinned : Pinned := { name := "ytjielagabnkimaadoor", sum := "d8c4088d96597c8233ed63779c9ff55d69dc593e1c43b91c0ca8bc7d5a743ac6", checked := Tryd.checked }
namespace Rows
def none {H : Type} : Left H := { results := [], args := [] }

/- WHAT THE LISTED PACKAGE-LEVEL VARIABLES READ AS WHEN THE CALL BEGINS. Each datum BY PROGRAM (the guide's laid-datum.mjs) off the statement by which the dump's own 'gosem.cut.vars' lays the variable. In a bare row this is a premise. The card (YtjielagabnkimaaDoorCards.lean) ties it to the program's text. -/
def laid_strata_flate_lengths {H : Type} : DataW H := .agg [.agg [.lit (.int .i64 3), .lit (.int .i64 0)], .agg [.lit (.int .i64 4), .lit (.int .i64 0)], .agg [.lit (.int .i64 5), .lit (.int .i64 0)], .agg [.lit (.int .i64 6), .lit (.int .i64 0)], .agg [.lit (.int .i64 7), .lit (.int .i64 0)], .agg [.lit (.int .i64 8), .lit (.int .i64 0)], .agg [.lit (.int .i64 9), .lit (.int .i64 0)], .agg [.lit (.int .i64 10), .lit (.int .i64 0)], .agg [.lit (.int .i64 11), .lit (.int .i64 1)], .agg [.lit (.int .i64 13), .lit (.int .i64 1)], .agg [.lit (.int .i64 15), .lit (.int .i64 1)], .agg [.lit (.int .i64 17), .lit (.int .i64 1)], .agg [.lit (.int .i64 19), .lit (.int .i64 2)], .agg [.lit (.int .i64 23), .lit (.int .i64 2)], .agg [.lit (.int .i64 27), .lit (.int .i64 2)], .agg [.lit (.int .i64 31), .lit (.int .i64 2)], .agg [.lit (.int .i64 35), .lit (.int .i64 3)], .agg [.lit (.int .i64 43), .lit (.int .i64 3)], .agg [.lit (.int .i64 51), .lit (.int .i64 3)], .agg [.lit (.int .i64 59), .lit (.int .i64 3)], .agg [.lit (.int .i64 67), .lit (.int .i64 4)], .agg [.lit (.int .i64 83), .lit (.int .i64 4)], .agg [.lit (.int .i64 99), .lit (.int .i64 4)], .agg [.lit (.int .i64 115), .lit (.int .i64 4)], .agg [.lit (.int .i64 131), .lit (.int .i64 5)], .agg [.lit (.int .i64 163), .lit (.int .i64 5)], .agg [.lit (.int .i64 195), .lit (.int .i64 5)], .agg [.lit (.int .i64 227), .lit (.int .i64 5)], .agg [.lit (.int .i64 258), .lit (.int .i64 0)]]
def laid_strata_flate_distances {H : Type} : DataW H := .agg [.agg [.lit (.int .i64 1), .lit (.int .i64 0)], .agg [.lit (.int .i64 2), .lit (.int .i64 0)], .agg [.lit (.int .i64 3), .lit (.int .i64 0)], .agg [.lit (.int .i64 4), .lit (.int .i64 0)], .agg [.lit (.int .i64 5), .lit (.int .i64 1)], .agg [.lit (.int .i64 7), .lit (.int .i64 1)], .agg [.lit (.int .i64 9), .lit (.int .i64 2)], .agg [.lit (.int .i64 13), .lit (.int .i64 2)], .agg [.lit (.int .i64 17), .lit (.int .i64 3)], .agg [.lit (.int .i64 25), .lit (.int .i64 3)], .agg [.lit (.int .i64 33), .lit (.int .i64 4)], .agg [.lit (.int .i64 49), .lit (.int .i64 4)], .agg [.lit (.int .i64 65), .lit (.int .i64 5)], .agg [.lit (.int .i64 97), .lit (.int .i64 5)], .agg [.lit (.int .i64 129), .lit (.int .i64 6)], .agg [.lit (.int .i64 193), .lit (.int .i64 6)], .agg [.lit (.int .i64 257), .lit (.int .i64 7)], .agg [.lit (.int .i64 385), .lit (.int .i64 7)], .agg [.lit (.int .i64 513), .lit (.int .i64 8)], .agg [.lit (.int .i64 769), .lit (.int .i64 8)], .agg [.lit (.int .i64 1025), .lit (.int .i64 9)], .agg [.lit (.int .i64 1537), .lit (.int .i64 9)], .agg [.lit (.int .i64 2049), .lit (.int .i64 10)], .agg [.lit (.int .i64 3073), .lit (.int .i64 10)], .agg [.lit (.int .i64 4097), .lit (.int .i64 11)], .agg [.lit (.int .i64 6145), .lit (.int .i64 11)], .agg [.lit (.int .i64 8193), .lit (.int .i64 12)], .agg [.lit (.int .i64 12289), .lit (.int .i64 12)], .agg [.lit (.int .i64 16385), .lit (.int .i64 13)], .agg [.lit (.int .i64 24577), .lit (.int .i64 13)]]
def laid_strata_flate_order {H : Type} : DataW H := .agg [.lit (.int .i64 16), .lit (.int .i64 17), .lit (.int .i64 18), .lit (.int .i64 0), .lit (.int .i64 8), .lit (.int .i64 7), .lit (.int .i64 9), .lit (.int .i64 6), .lit (.int .i64 10), .lit (.int .i64 5), .lit (.int .i64 11), .lit (.int .i64 4), .lit (.int .i64 12), .lit (.int .i64 3), .lit (.int .i64 13), .lit (.int .i64 2), .lit (.int .i64 14), .lit (.int .i64 1), .lit (.int .i64 15)]
def laid_strata_strataref06_Order {H : Type} : DataW H := .slice [.lit (.int .i64 16), .lit (.int .i64 17), .lit (.int .i64 18), .lit (.int .i64 0), .lit (.int .i64 8), .lit (.int .i64 7), .lit (.int .i64 9), .lit (.int .i64 6), .lit (.int .i64 10), .lit (.int .i64 5), .lit (.int .i64 11), .lit (.int .i64 4), .lit (.int .i64 12), .lit (.int .i64 3), .lit (.int .i64 13), .lit (.int .i64 2), .lit (.int .i64 14), .lit (.int .i64 1), .lit (.int .i64 15)] []
def laid_errors_errorType {H : Type} : DataW H := .iface "internal/reflectlite.rtype" (.agg [.ptr (.lit (.string [101, 114, 114, 111, 114]))])

/-- 'stratalaw06.FlateDeflates': WHATEVER THE INPUT: true; the input reads as it did. -/
def flateDeflatesSpec : ChangeSpec := { name := "flateDeflates", fn := fun _ => fun
  | [d] => { results := [.lit (.bool true)], args := [d] }
  | _ => none }
def flateDeflatesRow : OpenClaim := { program := "ytjielagabnkimaadoor", sum := "d8c4088d96597c8233ed63779c9ff55d69dc593e1c43b91c0ca8bc7d5a743ac6", func := "strata/stratalaw06.FlateDeflates", spec := "flateDeflates", inPlace := ["internal/bytealg.IndexByteString"], unfollowed := true, recurses := true, named := ["strata/flate.lengths", "strata/flate.distances", "strata/flate.order"], apart := false, laid := [("strata/flate.lengths", laid_strata_flate_lengths), ("strata/flate.distances", laid_strata_flate_distances), ("strata/flate.order", laid_strata_flate_order)] }
def FlateDeflatesSaid : Prop := flateDeflatesRow.holds Tryd.pinned (OpenSpec.ofChange flateDeflatesSpec)

/-- ITS FALSE NEIGHBOUR: 'it returns false'. Refute it at one input. -/
def flateDeflatesWrong : ChangeSpec := { name := "flateDeflates", fn := fun _ => fun
  | [d] => { results := [.lit (.bool false)], args := [d] }
  | _ => none }
def FlateDeflatesWrongFalsely : Prop := flateDeflatesRow.holds Tryd.pinned (OpenSpec.ofChange flateDeflatesWrong)

/-- 'stratalaw06.FlateCrcs': WHATEVER THE INPUT: true; the input reads as it did. -/
def flateCrcsSpec : ChangeSpec := { name := "flateCrcs", fn := fun _ => fun
  | [d] => { results := [.lit (.bool true)], args := [d] }
  | _ => none }
def flateCrcsRow : OpenClaim := { program := "ytjielagabnkimaadoor", sum := "d8c4088d96597c8233ed63779c9ff55d69dc593e1c43b91c0ca8bc7d5a743ac6", func := "strata/stratalaw06.FlateCrcs", spec := "flateCrcs", inPlace := ["internal/bytealg.IndexByteString"], unfollowed := true, recurses := true, named := ["strata/flate.lengths", "strata/flate.distances", "strata/flate.order"], apart := false, laid := [("strata/flate.lengths", laid_strata_flate_lengths), ("strata/flate.distances", laid_strata_flate_distances), ("strata/flate.order", laid_strata_flate_order)] }
def FlateCrcsSaid : Prop := flateCrcsRow.holds Tryd.pinned (OpenSpec.ofChange flateCrcsSpec)

/-- ITS FALSE NEIGHBOUR: 'it returns false'. Refute it at one input. -/
def flateCrcsWrong : ChangeSpec := { name := "flateCrcs", fn := fun _ => fun
  | [d] => { results := [.lit (.bool false)], args := [d] }
  | _ => none }
def FlateCrcsWrongFalsely : Prop := flateCrcsRow.holds Tryd.pinned (OpenSpec.ofChange flateCrcsWrong)

/-- 'stratalaw06.FlateGzips': WHATEVER THE INPUT: true; the input reads as it did. -/
def flateGzipsSpec : ChangeSpec := { name := "flateGzips", fn := fun _ => fun
  | [d] => { results := [.lit (.bool true)], args := [d] }
  | _ => none }
def flateGzipsRow : OpenClaim := { program := "ytjielagabnkimaadoor", sum := "d8c4088d96597c8233ed63779c9ff55d69dc593e1c43b91c0ca8bc7d5a743ac6", func := "strata/stratalaw06.FlateGzips", spec := "flateGzips", inPlace := ["internal/bytealg.IndexByteString"], unfollowed := true, recurses := true, named := ["strata/flate.lengths", "strata/flate.distances", "strata/flate.order"], apart := false, laid := [("strata/flate.lengths", laid_strata_flate_lengths), ("strata/flate.distances", laid_strata_flate_distances), ("strata/flate.order", laid_strata_flate_order)] }
def FlateGzipsSaid : Prop := flateGzipsRow.holds Tryd.pinned (OpenSpec.ofChange flateGzipsSpec)

/-- ITS FALSE NEIGHBOUR: 'it returns false'. Refute it at one input. -/
def flateGzipsWrong : ChangeSpec := { name := "flateGzips", fn := fun _ => fun
  | [d] => { results := [.lit (.bool false)], args := [d] }
  | _ => none }
def FlateGzipsWrongFalsely : Prop := flateGzipsRow.holds Tryd.pinned (OpenSpec.ofChange flateGzipsWrong)

/-- 'stratalaw06.FlateInflates': WHATEVER THE INPUT: true; the input reads as it did. -/
def flateInflatesSpec : ChangeSpec := { name := "flateInflates", fn := fun _ => fun
  | [d1, d2] => { results := [.lit (.bool true)], args := [d1, d2] }
  | _ => none }
def flateInflatesRow : OpenClaim := { program := "ytjielagabnkimaadoor", sum := "d8c4088d96597c8233ed63779c9ff55d69dc593e1c43b91c0ca8bc7d5a743ac6", func := "strata/stratalaw06.FlateInflates", spec := "flateInflates", inPlace := ["internal/reflectlite.TypeOf", "internal/reflectlite.ValueOf", "(internal/reflectlite.Value).Type", "(internal/reflectlite.Value).IsNil", "(internal/reflectlite.Value).Elem", "(internal/reflectlite.Value).Set", "internal/bytealg.IndexByteString"], unfollowed := true, recurses := true, named := ["strata/strataref06.Order", "strata/flate.lengths", "strata/flate.distances", "strata/flate.order", "errors.errorType"], apart := false, laid := [("strata/strataref06.Order", laid_strata_strataref06_Order), ("errors.errorType", laid_errors_errorType), ("strata/flate.lengths", laid_strata_flate_lengths), ("strata/flate.distances", laid_strata_flate_distances), ("strata/flate.order", laid_strata_flate_order)] }
def FlateInflatesSaid : Prop := flateInflatesRow.holds Tryd.pinned (OpenSpec.ofChange flateInflatesSpec)

/-- ITS FALSE NEIGHBOUR: 'it returns false'. Refute it at one input. -/
def flateInflatesWrong : ChangeSpec := { name := "flateInflates", fn := fun _ => fun
  | [d1, d2] => { results := [.lit (.bool false)], args := [d1, d2] }
  | _ => none }
def FlateInflatesWrongFalsely : Prop := flateInflatesRow.holds Tryd.pinned (OpenSpec.ofChange flateInflatesWrong)

/-- 'stratalaw06.FlateBack': WHATEVER THE INPUT: true; the input reads as it did. -/
def flateBackSpec : ChangeSpec := { name := "flateBack", fn := fun _ => fun
  | [d1, d2, d3] => { results := [.lit (.bool true)], args := [d1, d2, d3] }
  | _ => none }
def flateBackRow : OpenClaim := { program := "ytjielagabnkimaadoor", sum := "d8c4088d96597c8233ed63779c9ff55d69dc593e1c43b91c0ca8bc7d5a743ac6", func := "strata/stratalaw06.FlateBack", spec := "flateBack", inPlace := ["internal/bytealg.IndexByteString", "internal/reflectlite.TypeOf", "internal/reflectlite.ValueOf", "(internal/reflectlite.Value).Type", "(internal/reflectlite.Value).IsNil", "(internal/reflectlite.Value).Elem", "(internal/reflectlite.Value).Set"], unfollowed := true, recurses := true, named := ["strata/flate.lengths", "strata/flate.distances", "strata/flate.order", "errors.errorType"], apart := false, laid := [("errors.errorType", laid_errors_errorType), ("strata/flate.lengths", laid_strata_flate_lengths), ("strata/flate.distances", laid_strata_flate_distances), ("strata/flate.order", laid_strata_flate_order)] }
def FlateBackSaid : Prop := flateBackRow.holds Tryd.pinned (OpenSpec.ofChange flateBackSpec)

/-- ITS FALSE NEIGHBOUR: 'it returns false'. Refute it at one input. -/
def flateBackWrong : ChangeSpec := { name := "flateBack", fn := fun _ => fun
  | [d1, d2, d3] => { results := [.lit (.bool false)], args := [d1, d2, d3] }
  | _ => none }
def FlateBackWrongFalsely : Prop := flateBackRow.holds Tryd.pinned (OpenSpec.ofChange flateBackWrong)

/- THE SECOND FORM. 'bulk': how many values and letters a reading holds, each counted each time it is reached (what is shared counts as often as it is met; a slice's spare places count too). A statement '..UptoSaid' is the law's where the arguments, and the package variables that the reading takes, are together of bulk at most 1048576: NARROWER than '..Said'. Prove '..Said' where nothing that the law and all that it calls make is longer than what came in: it says more and counts as full. Else prove '..UptoSaid'. A law counts once. -/
mutual
def uptoBulk {H : Type} : DataW H → Nat
  | .lit (.string bytes) => bytes.length + 1
  | .lit _ => 1
  | .nil => 1
  | .ptr d => uptoBulk d + 1
  | .slice elems spare => uptoBulkAll elems + uptoBulkAll spare + 1
  | .agg parts => uptoBulkAll parts + 1
  | .iface _ d => uptoBulk d + 1
  | .map entries => uptoBulkEntries entries + 1
  | .held _ => 1
def uptoBulkAll {H : Type} : List (DataW H) → Nat
  | [] => 0
  | d :: r => uptoBulk d + uptoBulkAll r
def uptoBulkEntries {H : Type} : List (Lit × DataW H) → Nat
  | [] => 0
  | x :: r => uptoBulkEntry x + uptoBulkEntries r
def uptoBulkEntry {H : Type} : Lit × DataW H → Nat
  | (.string bytes, d) => bytes.length + uptoBulk d + 1
  | (_, d) => uptoBulk d + 1
 end
def uptoSmall : (H : Type) → List (DataW H) → Bool := fun _ ds => decide (uptoBulkAll ds ≤ 1048576)
def OpenSpec.upto (s : _root_.Go.ChangeSpec) : _root_.Go.OpenSpec := { _root_.Go.OpenSpec.ofChange s with cond := some uptoSmall }

/-- 'stratalaw06.FlateDeflates', WHERE WHAT IT READS IS OF BULK AT MOST 1048576: true; the input reads as it did. -/
def flateDeflatesUptoRow : OpenClaim := { program := "ytjielagabnkimaadoor", sum := "d8c4088d96597c8233ed63779c9ff55d69dc593e1c43b91c0ca8bc7d5a743ac6", func := "strata/stratalaw06.FlateDeflates", spec := "flateDeflates", inPlace := ["internal/bytealg.IndexByteString"], unfollowed := true, recurses := true, named := ["strata/flate.lengths", "strata/flate.distances", "strata/flate.order"], apart := false, laid := [("strata/flate.lengths", laid_strata_flate_lengths), ("strata/flate.distances", laid_strata_flate_distances), ("strata/flate.order", laid_strata_flate_order)], narrowed := true }
def FlateDeflatesUptoSaid : Prop := flateDeflatesUptoRow.holds Tryd.pinned (OpenSpec.upto flateDeflatesSpec)

/-- 'stratalaw06.FlateCrcs', WHERE WHAT IT READS IS OF BULK AT MOST 1048576: true; the input reads as it did. -/
def flateCrcsUptoRow : OpenClaim := { program := "ytjielagabnkimaadoor", sum := "d8c4088d96597c8233ed63779c9ff55d69dc593e1c43b91c0ca8bc7d5a743ac6", func := "strata/stratalaw06.FlateCrcs", spec := "flateCrcs", inPlace := ["internal/bytealg.IndexByteString"], unfollowed := true, recurses := true, named := ["strata/flate.lengths", "strata/flate.distances", "strata/flate.order"], apart := false, laid := [("strata/flate.lengths", laid_strata_flate_lengths), ("strata/flate.distances", laid_strata_flate_distances), ("strata/flate.order", laid_strata_flate_order)], narrowed := true }
def FlateCrcsUptoSaid : Prop := flateCrcsUptoRow.holds Tryd.pinned (OpenSpec.upto flateCrcsSpec)

/-- 'stratalaw06.FlateGzips', WHERE WHAT IT READS IS OF BULK AT MOST 1048576: true; the input reads as it did. -/
def flateGzipsUptoRow : OpenClaim := { program := "ytjielagabnkimaadoor", sum := "d8c4088d96597c8233ed63779c9ff55d69dc593e1c43b91c0ca8bc7d5a743ac6", func := "strata/stratalaw06.FlateGzips", spec := "flateGzips", inPlace := ["internal/bytealg.IndexByteString"], unfollowed := true, recurses := true, named := ["strata/flate.lengths", "strata/flate.distances", "strata/flate.order"], apart := false, laid := [("strata/flate.lengths", laid_strata_flate_lengths), ("strata/flate.distances", laid_strata_flate_distances), ("strata/flate.order", laid_strata_flate_order)], narrowed := true }
def FlateGzipsUptoSaid : Prop := flateGzipsUptoRow.holds Tryd.pinned (OpenSpec.upto flateGzipsSpec)

/-- 'stratalaw06.FlateInflates', WHERE WHAT IT READS IS OF BULK AT MOST 1048576: true; the input reads as it did. -/
def flateInflatesUptoRow : OpenClaim := { program := "ytjielagabnkimaadoor", sum := "d8c4088d96597c8233ed63779c9ff55d69dc593e1c43b91c0ca8bc7d5a743ac6", func := "strata/stratalaw06.FlateInflates", spec := "flateInflates", inPlace := ["internal/reflectlite.TypeOf", "internal/reflectlite.ValueOf", "(internal/reflectlite.Value).Type", "(internal/reflectlite.Value).IsNil", "(internal/reflectlite.Value).Elem", "(internal/reflectlite.Value).Set", "internal/bytealg.IndexByteString"], unfollowed := true, recurses := true, named := ["strata/strataref06.Order", "strata/flate.lengths", "strata/flate.distances", "strata/flate.order", "errors.errorType"], apart := false, laid := [("strata/strataref06.Order", laid_strata_strataref06_Order), ("errors.errorType", laid_errors_errorType), ("strata/flate.lengths", laid_strata_flate_lengths), ("strata/flate.distances", laid_strata_flate_distances), ("strata/flate.order", laid_strata_flate_order)], narrowed := true }
def FlateInflatesUptoSaid : Prop := flateInflatesUptoRow.holds Tryd.pinned (OpenSpec.upto flateInflatesSpec)

/-- 'stratalaw06.FlateBack', WHERE WHAT IT READS IS OF BULK AT MOST 1048576: true; the input reads as it did. -/
def flateBackUptoRow : OpenClaim := { program := "ytjielagabnkimaadoor", sum := "d8c4088d96597c8233ed63779c9ff55d69dc593e1c43b91c0ca8bc7d5a743ac6", func := "strata/stratalaw06.FlateBack", spec := "flateBack", inPlace := ["internal/bytealg.IndexByteString", "internal/reflectlite.TypeOf", "internal/reflectlite.ValueOf", "(internal/reflectlite.Value).Type", "(internal/reflectlite.Value).IsNil", "(internal/reflectlite.Value).Elem", "(internal/reflectlite.Value).Set"], unfollowed := true, recurses := true, named := ["strata/flate.lengths", "strata/flate.distances", "strata/flate.order", "errors.errorType"], apart := false, laid := [("errors.errorType", laid_errors_errorType), ("strata/flate.lengths", laid_strata_flate_lengths), ("strata/flate.distances", laid_strata_flate_distances), ("strata/flate.order", laid_strata_flate_order)], narrowed := true }
def FlateBackUptoSaid : Prop := flateBackUptoRow.holds Tryd.pinned (OpenSpec.upto flateBackSpec)

end Rows
end Go.Proofs.YtjielagabnkimaaDoor
