/- The contracts of tree.Of and of the statements' own of. -/
import Derived.Test.YtdkodedocklmdaaGreatTOf
set_option linter.unusedSimpArgs false
set_option linter.unusedVariables false
namespace Go.Proofs.YtdkodedocklmdaaGreat
open Go.RowKit Go.Maps
open Go.Lib hiding intOf size_eq
theorem TreeAt.lower {w : World} {T rt rm base base' : Nat} {nd : List Nd} (h : TreeAt w T rt rm base nd) (hb : base' ≤ base) : TreeAt w T rt rm base' nd :=
  ⟨h.good, h.tr, h.root, h.rmap, h.node, h.nmap, h.rno, h.mno, Nat.le_trans hb h.lo.1, Nat.le_trans hb h.lo.2.1, Nat.le_trans hb h.lo.2.2.1, fun y hy => ⟨Nat.le_trans hb (h.lo.2.2.2 y hy).1, Nat.le_trans hb (h.lo.2.2.2 y hy).2⟩⟩
def Small (L : List Ent) : Prop := ∀ e ∈ L, e.p.size < 1152921504606846976 ∧ e.d.size < 1152921504606846976 ∧ e.l.size < 1152921504606846976
set_option maxRecDepth 100000 in
theorem tof_any (v : Value) (L : List Ent) (w : World) (h : EntsAt w v L) (hb : Small L) :
    Calls Tryz.prog 5 #[v] w fun r w' => BuildR w L r w' := by
  have H := Lib.hid (build_any v L w h hb)
  obtain ⟨o, cap, rfl, _, _, _⟩ := h
  by_cases hc : (checkL L).1 = 0
  · go_enter Tryz.func5, Tryz.ntmps5
    go_wp2_with (go_at_call 17; refine H.out.mono ?_; rintro r w1 ⟨h1, h2, h3⟩; obtain ⟨T, rt, rm, nd, rfl, ht, he⟩ := h1 hc
                 have HT := Lib.hid ht
                 have He := Lib.hid he
                 have HB := Lib.hid h3
                 clear h1 h2 ht he h3)
    go_ret2
    exact ⟨fun _ => ⟨T, rt, rm, nd, rfl, HT.out, He.out⟩, fun x => absurd hc x, HB.out⟩
  · go_enter Tryz.func5, Tryz.ntmps5
    go_wp2_with (go_at_call 17; refine H.out.mono ?_; rintro r w1 ⟨h1, h2, h3⟩; obtain rfl := h2 hc
                 have HB := Lib.hid h3
                 clear h1 h2 h3)
    go_ret2
    exact ⟨fun x => absurd x hc, fun _ => rfl, HB.out⟩
/-- what the statements' of answers -/
def OfR (w : World) (L : List Ent) (r : Ending) (w' : World) : Prop :=
  ((checkL L).1 = 0 → ∃ T rt rm nd, r = .returned (.tuple #[.pointer (some ⟨T, 0, none⟩), .bool true]) ∧ TreeAt w' T rt rm w.heap.size nd ∧ ents nd = L) ∧
  ((checkL L).1 ≠ 0 → r = .returned (.tuple #[.pointer none, .bool false])) ∧ Below w.heap.size w w'
end Go.Proofs.YtdkodedocklmdaaGreat
