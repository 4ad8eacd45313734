/- The contracts of kindAt and of works (what the statements ask first). -/
import Derived.Test.YtdkodedocklmdaaGreatRGoes
import Derived.Test.YtdkodedocklmdaaGreatROf
import Derived.Test.YtdkodedocklmdaaGreatPlain
set_option linter.unusedSimpArgs false
set_option linter.unusedVariables false
namespace Go.Proofs.YtdkodedocklmdaaGreat
open Go.RowKit Go.Shelf Go.Maps
open Go.Lib hiding intOf size_eq
/-- the kind at a path -/
def kindL (L : List Ent) (p : List UInt8) : Int := match lookE L p with
  | none => 0
  | some e => e.k
/- works -/
def wE1 : Ent := ⟨⟨#[97]⟩, 2, 420, ⟨#[]⟩, ⟨#[]⟩⟩
def wE2 : Ent := ⟨⟨#[108]⟩, 3, 511, ⟨#[]⟩, ⟨#[97]⟩⟩
theorem wCheck : checkL [wE1, wE2] = (0, 0) := by kernel_rfl
theorem wWay1 : wayF [wE1, wE2] false [108] = .ok ([97], [[], [], [97]]) := by kernel_rfl
theorem wWay2 : wayF [wE1, wE2] true [108] = .ok ([108], [[], [108]]) := by kernel_rfl
theorem wWay3 : wayF [wE1, wE2] false [120] = .error 10 := by kernel_rfl
theorem wEnts (w : World) : EntsAt (w.alloc (.cells #[.string ⟨#[97]⟩, .int .i64 2, .int .i64 420, .string ⟨#[]⟩, .string ⟨#[]⟩, .string ⟨#[108]⟩, .int .i64 3, .int .i64 511, .string ⟨#[]⟩, .string ⟨#[97]⟩] 39)) (.slice (some ⟨w.heap.size, 0, none⟩) 2 2) [wE1, wE2] := by
  refine ents_of_row (base := 0) ⟨rfl, .inr ⟨w.heap.size, 2, _, rfl, Nat.zero_le _, World.alloc_heap_new w _, Nat.le_refl _, by unfold maxLen; omega, rfl, rfl⟩⟩
end Go.Proofs.YtdkodedocklmdaaGreat
