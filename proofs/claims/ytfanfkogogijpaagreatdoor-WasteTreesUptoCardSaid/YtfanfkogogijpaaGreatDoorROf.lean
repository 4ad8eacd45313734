/- The contracts of tree.Of and of the statements' own of. -/
import Derived.Test.YtfanfkogogijpaaGreatDoorTOf
set_option linter.unusedSimpArgs false
set_option linter.unusedVariables false
namespace Go.Proofs.YtfanfkogogijpaaGreatDoor
open Go.RowKit Go.Maps
open Go.Lib hiding intOf size_eq
theorem TreeAt.lower {w : World} {T rt rm base base' : Nat} {nd : List Nd} (h : TreeAt w T rt rm base nd) (hb : base' ≤ base) : TreeAt w T rt rm base' nd :=
  ⟨h.good, h.tr, h.root, h.rmap, h.node, h.nmap, h.rno, h.mno, Nat.le_trans hb h.lo.1, Nat.le_trans hb h.lo.2.1, Nat.le_trans hb h.lo.2.2.1, fun y hy => ⟨Nat.le_trans hb (h.lo.2.2.2 y hy).1, Nat.le_trans hb (h.lo.2.2.2 y hy).2⟩⟩
def Small (L : List Ent) : Prop := ∀ e ∈ L, e.p.size < 1152921504606846976 ∧ e.d.size < 1152921504606846976 ∧ e.l.size < 1152921504606846976
/-- what the statements' of answers -/
def OfR (w : World) (L : List Ent) (r : Ending) (w' : World) : Prop :=
  ((checkL L).1 = 0 → ∃ T rt rm nd, r = .returned (.tuple #[.pointer (some ⟨T, 0, none⟩), .bool true]) ∧ TreeAt w' T rt rm w.heap.size nd ∧ ents nd = L) ∧
  ((checkL L).1 ≠ 0 → r = .returned (.tuple #[.pointer none, .bool false])) ∧ Below w.heap.size w w'
end Go.Proofs.YtfanfkogogijpaaGreatDoor
