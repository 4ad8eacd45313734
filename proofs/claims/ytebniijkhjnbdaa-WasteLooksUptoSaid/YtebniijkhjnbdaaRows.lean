/-
  No cell of these rows narrows 'for every input' (looked for: loops, veiled, ifaces, maps, wideKeys, modest, calm, conditions, laid).
  DERIVED. THE GIVEN ROWS OF THIS SEAT. 4 by the template 'for every input the law returns true; each argument reads behind the call as it read before'; 0 by the template 'total and deterministic' (their statements: YtebniijkhjnbdaaTotals.lean).
  GIVEN WITH THE SEED: the statements are not yours to turn. If you find one false, say at which input.
  Laid BY PROGRAM, IN A SANDBOX (cutbox-rows.mjs): the forced cells as the released guide's own fill.sh prints them over the translation 00e49b332dcb4345… (all of the seat's roots in one cut). By AI agents, Wed Nov 11 2026. No macro, syntax, notation, axiom, sorry.
-/
import Derived.Test.YtebniijkhjnbdaaChecked
import GoSem.Claim
import GoSem.ClaimJoined
import GoSem.ClaimMapViews
import Derived.JoinedTies
import Derived.KernelRfl
namespace Go.Proofs.Ytebniijkhjnbdaa
/- THE CELL 'sum', in the pinned program and in every row, IS THE sha256 OF THE DUMP (.gsa) THAT YtebniijkhjnbdaaProg.lean LOADS. Nothing in Lean hashes anything: it is a label: what it is worth is what the hold of that sum in a sandbox is worth. -/
noncomputable def Try.pinned : Pinned := { name := "ytebniijkhjnbdaa", sum := "00e49b332dcb43458ac3319fb365b25b1d559aaa906e9e4b04fc06ad8b94cc9d", checked := Try.checked }
namespace Rows
def none {H : Type} : Left H := { results := [], args := [] }

/-- 'stratalaw28.WasteLooks': WHATEVER THE INPUT: true; the input reads as it did. -/
def wasteLooksSpec : ChangeSpec := { name := "wasteLooks", fn := fun _ => fun
  | [d1, d2] => { results := [.lit (.bool true)], args := [d1, d2] }
  | _ => none }
def wasteLooksRow : OpenClaim := { program := "ytebniijkhjnbdaa", sum := "00e49b332dcb43458ac3319fb365b25b1d559aaa906e9e4b04fc06ad8b94cc9d", func := "strata/stratalaw28.WasteLooks", spec := "wasteLooks", inPlace := ["math.sqrt", "internal/bytealg.IndexByteString", "internal/bytealg.IndexString"], unfollowed := true, recurses := true, named := ["internal/bytealg.MaxLen"], apart := false }
def WasteLooksSaid : Prop := wasteLooksRow.holds Try.pinned (OpenSpec.ofChange wasteLooksSpec)

/-- ITS FALSE NEIGHBOUR: 'it returns false'. Refute it at one input. -/
def wasteLooksWrong : ChangeSpec := { name := "wasteLooks", fn := fun _ => fun
  | [d1, d2] => { results := [.lit (.bool false)], args := [d1, d2] }
  | _ => none }
def WasteLooksWrongFalsely : Prop := wasteLooksRow.holds Try.pinned (OpenSpec.ofChange wasteLooksWrong)

/-- 'stratalaw28.WasteSums': WHATEVER THE INPUT: true; the input reads as it did. -/
def wasteSumsSpec : ChangeSpec := { name := "wasteSums", fn := fun _ => fun
  | [d] => { results := [.lit (.bool true)], args := [d] }
  | _ => none }
def wasteSumsRow : OpenClaim := { program := "ytebniijkhjnbdaa", sum := "00e49b332dcb43458ac3319fb365b25b1d559aaa906e9e4b04fc06ad8b94cc9d", func := "strata/stratalaw28.WasteSums", spec := "wasteSums", inPlace := ["internal/bytealg.IndexByteString", "internal/bytealg.IndexString", "math.sqrt"], unfollowed := true, recurses := true, named := ["internal/bytealg.MaxLen"], apart := false }
def WasteSumsSaid : Prop := wasteSumsRow.holds Try.pinned (OpenSpec.ofChange wasteSumsSpec)

/-- ITS FALSE NEIGHBOUR: 'it returns false'. Refute it at one input. -/
def wasteSumsWrong : ChangeSpec := { name := "wasteSums", fn := fun _ => fun
  | [d] => { results := [.lit (.bool false)], args := [d] }
  | _ => none }
def WasteSumsWrongFalsely : Prop := wasteSumsRow.holds Try.pinned (OpenSpec.ofChange wasteSumsWrong)

/-- 'stratalaw28.WasteSpreads': WHATEVER THE INPUT: true; the input reads as it did. -/
def wasteSpreadsSpec : ChangeSpec := { name := "wasteSpreads", fn := fun _ => fun
  | [d] => { results := [.lit (.bool true)], args := [d] }
  | _ => none }
def wasteSpreadsRow : OpenClaim := { program := "ytebniijkhjnbdaa", sum := "00e49b332dcb43458ac3319fb365b25b1d559aaa906e9e4b04fc06ad8b94cc9d", func := "strata/stratalaw28.WasteSpreads", spec := "wasteSpreads", inPlace := ["internal/bytealg.IndexByteString", "internal/bytealg.IndexString", "math.sqrt"], unfollowed := true, recurses := true, named := ["internal/bytealg.MaxLen"], apart := false }
def WasteSpreadsSaid : Prop := wasteSpreadsRow.holds Try.pinned (OpenSpec.ofChange wasteSpreadsSpec)

/-- ITS FALSE NEIGHBOUR: 'it returns false'. Refute it at one input. -/
def wasteSpreadsWrong : ChangeSpec := { name := "wasteSpreads", fn := fun _ => fun
  | [d] => { results := [.lit (.bool false)], args := [d] }
  | _ => none }
def WasteSpreadsWrongFalsely : Prop := wasteSpreadsRow.holds Try.pinned (OpenSpec.ofChange wasteSpreadsWrong)

/-- 'stratalaw28.WasteKnown': WHATEVER THE INPUT: true; the input reads as it did. -/
def wasteKnownSpec : ChangeSpec := { name := "wasteKnown", fn := fun _ => fun
  | [] => { results := [.lit (.bool true)], args := [] }
  | _ => none }
def wasteKnownRow : OpenClaim := { program := "ytebniijkhjnbdaa", sum := "00e49b332dcb43458ac3319fb365b25b1d559aaa906e9e4b04fc06ad8b94cc9d", func := "strata/stratalaw28.WasteKnown", spec := "wasteKnown", inPlace := ["internal/bytealg.IndexByteString", "internal/bytealg.IndexString", "math.sqrt"], unfollowed := true, recurses := true, named := ["internal/bytealg.MaxLen"], apart := false }
def WasteKnownSaid : Prop := wasteKnownRow.holds Try.pinned (OpenSpec.ofChange wasteKnownSpec)

/-- ITS FALSE NEIGHBOUR: 'it returns false'. Refute it at one input. -/
def wasteKnownWrong : ChangeSpec := { name := "wasteKnown", fn := fun _ => fun
  | [] => { results := [.lit (.bool false)], args := [] }
  | _ => none }
def WasteKnownWrongFalsely : Prop := wasteKnownRow.holds Try.pinned (OpenSpec.ofChange wasteKnownWrong)

/- THE SECOND FORM. 'bulk': how many values and letters a reading holds, each counted each time it is reached (what is shared counts as often as it is met; a slice's spare places count too). A statement '..UptoSaid' is the law's where the arguments, and the package variables that the reading takes, are together of bulk at most 1048576: NARROWER than '..Said'. Prove '..Said' where nothing that the law and all that it calls make is longer than what came in: it says more and counts as full. Else prove '..UptoSaid'. A law counts once. -/
mutual
def uptoBulk {H : Type} : DataW H → Nat
  | .lit (.string bytes) => bytes.length + 1
  | .lit _ => 1
  | .nil => 1
  | .ptr d => uptoBulk d + 1
  | .slice elems spare => uptoBulkAll elems + uptoBulkAll spare + 1
  | .agg parts => uptoBulkAll parts + 1
  | .iface _ d => uptoBulk d + 1
  | .map entries => uptoBulkEntries entries + 1
  | .held _ => 1
def uptoBulkAll {H : Type} : List (DataW H) → Nat
  | [] => 0
  | d :: r => uptoBulk d + uptoBulkAll r
def uptoBulkEntries {H : Type} : List (Lit × DataW H) → Nat
  | [] => 0
  | x :: r => uptoBulkEntry x + uptoBulkEntries r
def uptoBulkEntry {H : Type} : Lit × DataW H → Nat
  | (.string bytes, d) => bytes.length + uptoBulk d + 1
  | (_, d) => uptoBulk d + 1
 end
def uptoSmall : (H : Type) → List (DataW H) → Bool := fun _ ds => decide (uptoBulkAll ds ≤ 1048576)
def OpenSpec.upto (s : _root_.Go.ChangeSpec) : _root_.Go.OpenSpec := { _root_.Go.OpenSpec.ofChange s with cond := some uptoSmall }

/-- 'stratalaw28.WasteLooks', WHERE WHAT IT READS IS OF BULK AT MOST 1048576: true; the input reads as it did. -/
def wasteLooksUptoRow : OpenClaim := { program := "ytebniijkhjnbdaa", sum := "00e49b332dcb43458ac3319fb365b25b1d559aaa906e9e4b04fc06ad8b94cc9d", func := "strata/stratalaw28.WasteLooks", spec := "wasteLooks", inPlace := ["math.sqrt", "internal/bytealg.IndexByteString", "internal/bytealg.IndexString"], unfollowed := true, recurses := true, named := ["internal/bytealg.MaxLen"], apart := false, narrowed := true }
def WasteLooksUptoSaid : Prop := wasteLooksUptoRow.holds Try.pinned (OpenSpec.upto wasteLooksSpec)

/-- 'stratalaw28.WasteSums', WHERE WHAT IT READS IS OF BULK AT MOST 1048576: true; the input reads as it did. -/
def wasteSumsUptoRow : OpenClaim := { program := "ytebniijkhjnbdaa", sum := "00e49b332dcb43458ac3319fb365b25b1d559aaa906e9e4b04fc06ad8b94cc9d", func := "strata/stratalaw28.WasteSums", spec := "wasteSums", inPlace := ["internal/bytealg.IndexByteString", "internal/bytealg.IndexString", "math.sqrt"], unfollowed := true, recurses := true, named := ["internal/bytealg.MaxLen"], apart := false, narrowed := true }
def WasteSumsUptoSaid : Prop := wasteSumsUptoRow.holds Try.pinned (OpenSpec.upto wasteSumsSpec)

/-- 'stratalaw28.WasteSpreads', WHERE WHAT IT READS IS OF BULK AT MOST 1048576: true; the input reads as it did. -/
def wasteSpreadsUptoRow : OpenClaim := { program := "ytebniijkhjnbdaa", sum := "00e49b332dcb43458ac3319fb365b25b1d559aaa906e9e4b04fc06ad8b94cc9d", func := "strata/stratalaw28.WasteSpreads", spec := "wasteSpreads", inPlace := ["internal/bytealg.IndexByteString", "internal/bytealg.IndexString", "math.sqrt"], unfollowed := true, recurses := true, named := ["internal/bytealg.MaxLen"], apart := false, narrowed := true }
def WasteSpreadsUptoSaid : Prop := wasteSpreadsUptoRow.holds Try.pinned (OpenSpec.upto wasteSpreadsSpec)

/-- 'stratalaw28.WasteKnown', WHERE WHAT IT READS IS OF BULK AT MOST 1048576: true; the input reads as it did. -/
def wasteKnownUptoRow : OpenClaim := { program := "ytebniijkhjnbdaa", sum := "00e49b332dcb43458ac3319fb365b25b1d559aaa906e9e4b04fc06ad8b94cc9d", func := "strata/stratalaw28.WasteKnown", spec := "wasteKnown", inPlace := ["internal/bytealg.IndexByteString", "internal/bytealg.IndexString", "math.sqrt"], unfollowed := true, recurses := true, named := ["internal/bytealg.MaxLen"], apart := false, narrowed := true }
def WasteKnownUptoSaid : Prop := wasteKnownUptoRow.holds Try.pinned (OpenSpec.upto wasteKnownSpec)

end Rows
end Go.Proofs.Ytebniijkhjnbdaa
