/- The law DeltaKnown. Printed by mkdkm.py. -/
import Derived.Test.YtipfccfjniglbaaGreatDoorKDraw
import Derived.Test.YtipfccfjniglbaaGreatDoorKFull
set_option linter.unusedSimpArgs false
set_option linter.unusedVariables false
namespace Go.Proofs.YtipfccfjniglbaaGreatDoor
open Go.RowKit Go.Maps Go.Shelf Go.Sort
open Go.Lib hiding intOf size_eq
theorem below_setRowK {w W : World} {B b : Nat} (h : Below B w W) (hb : B ≤ b) (cs : Array Value) : Below B w (W.setRow b cs) := ⟨h.os, h.tape, h.output, by simpa using h.size, fun k hk => (setRow_other _ _ k _ (by omega)).trans (h.block k hk)⟩
theorem wpList_buildK {P : Program} {ops : Array Oper} {rest : List Oper} {o : Oper} {a : Act} {w : World} {Q : Exit → Act → World → Prop} (hw : Region.wanted o (yielded ops a.tmps) = true) (ty : TypeId) (ho : o.op = .build ty #[])
    (cells : Array Value) (hb : P.built ty [] = some cells)
    (h : wpList P ops Q rest (a.put o.dst (.agg cells)) w) : wpList P ops Q (o :: rest) a w := by
  refine wpList_step fun K hK => ?_
  rw [if_pos hw]
  have hr : (Instr.build ty #[]).run P w = .ok (.agg cells) w := run_build w ty #[] cells hb
  unfold Oper.wp execOp
  simp only [ho, Array.map_empty, Sem.run_bind, hr, Result.andThen_ok, Sem.run_pure]
  exact hK _ _ h
theorem row_cells' {W : World} {b : Nat} {T : TypeId} {cs : List Value} (h : W.heap[b]? = some (.cells cs.toArray T (0, 0))) {j : Nat} {v : Value} (hj : cs[j]? = some v) : W.cell? ((⟨b, 0, none⟩ : Addr).add j) = some v := by
  rw [gadd_new, Nat.zero_add]
  exact block_cell h (by simpa using hj)
/-- where the walk stands: the two lists that stay -/
structure KnD (w W : World) (b1 b2 : Nat) : Prop where
  bel : Below w.heap.size w W
  h1 : W.heap[b1]? = some (.cells #[.string ⟨#[97]⟩, .int .i64 1, .int .i64 493, .string ⟨#[]⟩, .string ⟨#[]⟩, .string ⟨#[97, 47, 98]⟩, .int .i64 2, .int .i64 420, .string ⟨#[120]⟩, .string ⟨#[]⟩] 52 (0, 0))
  h2 : W.heap[b2]? = some (.cells #[.string ⟨#[97]⟩, .int .i64 2, .int .i64 420, .string ⟨#[120]⟩, .string ⟨#[]⟩] 52 (0, 0))
section
variable {w W W' : World} {b1 b2 : Nat}
theorem KnD.call (h : KnD w W b1 b2) (hb : Below W.heap.size W W') : KnD w W' b1 b2 := ⟨h.bel.trans (hb.mono h.bel.size), (hb.block _ (heap_lt h.h1)).trans h.h1, (hb.block _ (heap_lt h.h2)).trans h.h2⟩
theorem KnD.alloc (h : KnD w W b1 b2) (o : Obj) : KnD w (W.alloc o) b1 b2 := h.call ((Below.refl _ _).alloc (Nat.le_refl _) o)
theorem KnD.e1 (h : KnD w W b1 b2) : EntsAt W (.slice (some ⟨b1, 0, none⟩) 2 2) [⟨⟨#[97]⟩, 1, 493, ⟨#[]⟩, ⟨#[]⟩⟩, ⟨⟨#[97, 47, 98]⟩, 2, 420, ⟨#[120]⟩, ⟨#[]⟩⟩] := ents_block 2 h.h1 rfl rfl (by decide)
theorem KnD.e2 (h : KnD w W b1 b2) : EntsAt W (.slice (some ⟨b2, 0, none⟩) 1 1) [⟨⟨#[97]⟩, 2, 420, ⟨#[120]⟩, ⟨#[]⟩⟩] := ents_block 1 h.h2 rfl rfl (by decide)
theorem KnD.hand (h : KnD w W b1 b2) (hg : Handle w) : Handle W := hg.below h.bel (Nat.le_refl _)
end
theorem rk1 (va vl : Value) (w : World) (ha : EntsAt w va [⟨⟨#[97]⟩, 1, 493, ⟨#[]⟩, ⟨#[]⟩⟩, ⟨⟨#[97, 47, 98]⟩, 2, 420, ⟨#[120]⟩, ⟨#[]⟩⟩]) (hc : ChgsAt w vl [⟨⟨#[97]⟩, true, ⟨⟨#[]⟩, 0, 0, ⟨#[]⟩, ⟨#[]⟩⟩⟩, ⟨⟨#[97]⟩, true, ⟨⟨#[]⟩, 0, 0, ⟨#[]⟩, ⟨#[]⟩⟩⟩]) (hg : Handle w) : Calls Tryz.prog 37 #[va, .int .i64 10, .int .i64 1, vl] w fun r w' => r = .returned (.bool true) ∧ Below w.heap.size w w' :=
  refused_any va vl [⟨⟨#[97]⟩, 1, 493, ⟨#[]⟩, ⟨#[]⟩⟩, ⟨⟨#[97, 47, 98]⟩, 2, 420, ⟨#[120]⟩, ⟨#[]⟩⟩] [⟨⟨#[97]⟩, true, ⟨⟨#[]⟩, 0, 0, ⟨#[]⟩, ⟨#[]⟩⟩⟩, ⟨⟨#[97]⟩, true, ⟨⟨#[]⟩, 0, 0, ⟨#[]⟩, ⟨#[]⟩⟩⟩] 10 1 w ha hc (small_of (by decide)) (smallC_of (by decide)) (by decide) (by decide) (by kernel_rfl) (by decide) (by decide) hg
theorem rk2 (va vl : Value) (w : World) (ha : EntsAt w va [⟨⟨#[97]⟩, 1, 493, ⟨#[]⟩, ⟨#[]⟩⟩, ⟨⟨#[97, 47, 98]⟩, 2, 420, ⟨#[120]⟩, ⟨#[]⟩⟩]) (hc : ChgsAt w vl [⟨⟨#[122]⟩, true, ⟨⟨#[]⟩, 0, 0, ⟨#[]⟩, ⟨#[]⟩⟩⟩]) (hg : Handle w) : Calls Tryz.prog 37 #[va, .int .i64 10, .int .i64 0, vl] w fun r w' => r = .returned (.bool true) ∧ Below w.heap.size w w' :=
  refused_any va vl [⟨⟨#[97]⟩, 1, 493, ⟨#[]⟩, ⟨#[]⟩⟩, ⟨⟨#[97, 47, 98]⟩, 2, 420, ⟨#[120]⟩, ⟨#[]⟩⟩] [⟨⟨#[122]⟩, true, ⟨⟨#[]⟩, 0, 0, ⟨#[]⟩, ⟨#[]⟩⟩⟩] 10 0 w ha hc (small_of (by decide)) (smallC_of (by decide)) (by decide) (by decide) (by kernel_rfl) (by decide) (by decide) hg
theorem rk3 (va vl : Value) (w : World) (ha : EntsAt w va [⟨⟨#[97]⟩, 1, 493, ⟨#[]⟩, ⟨#[]⟩⟩, ⟨⟨#[97, 47, 98]⟩, 2, 420, ⟨#[120]⟩, ⟨#[]⟩⟩]) (hc : ChgsAt w vl [⟨⟨#[]⟩, true, ⟨⟨#[]⟩, 0, 0, ⟨#[]⟩, ⟨#[]⟩⟩⟩]) (hg : Handle w) : Calls Tryz.prog 37 #[va, .int .i64 15, .int .i64 0, vl] w fun r w' => r = .returned (.bool true) ∧ Below w.heap.size w w' :=
  refused_any va vl [⟨⟨#[97]⟩, 1, 493, ⟨#[]⟩, ⟨#[]⟩⟩, ⟨⟨#[97, 47, 98]⟩, 2, 420, ⟨#[120]⟩, ⟨#[]⟩⟩] [⟨⟨#[]⟩, true, ⟨⟨#[]⟩, 0, 0, ⟨#[]⟩, ⟨#[]⟩⟩⟩] 15 0 w ha hc (small_of (by decide)) (smallC_of (by decide)) (by decide) (by decide) (by kernel_rfl) (by decide) (by decide) hg
theorem rk4 (va vl : Value) (w : World) (ha : EntsAt w va [⟨⟨#[97]⟩, 1, 493, ⟨#[]⟩, ⟨#[]⟩⟩, ⟨⟨#[97, 47, 98]⟩, 2, 420, ⟨#[120]⟩, ⟨#[]⟩⟩]) (hc : ChgsAt w vl [⟨⟨#[97]⟩, false, ⟨⟨#[97]⟩, 2, 420, ⟨#[120]⟩, ⟨#[]⟩⟩⟩]) (hg : Handle w) : Calls Tryz.prog 37 #[va, .int .i64 14, .int .i64 0, vl] w fun r w' => r = .returned (.bool true) ∧ Below w.heap.size w w' :=
  refused_any va vl [⟨⟨#[97]⟩, 1, 493, ⟨#[]⟩, ⟨#[]⟩⟩, ⟨⟨#[97, 47, 98]⟩, 2, 420, ⟨#[120]⟩, ⟨#[]⟩⟩] [⟨⟨#[97]⟩, false, ⟨⟨#[97]⟩, 2, 420, ⟨#[120]⟩, ⟨#[]⟩⟩⟩] 14 0 w ha hc (small_of (by decide)) (smallC_of (by decide)) (by decide) (by decide) (by kernel_rfl) (by decide) (by decide) hg
theorem rk5 (va vl : Value) (w : World) (ha : EntsAt w va [⟨⟨#[97]⟩, 1, 493, ⟨#[]⟩, ⟨#[]⟩⟩, ⟨⟨#[97, 47, 98]⟩, 2, 420, ⟨#[120]⟩, ⟨#[]⟩⟩]) (hc : ChgsAt w vl [⟨⟨#[97, 47, 98]⟩, false, ⟨⟨#[97, 47, 98]⟩, 1, 493, ⟨#[]⟩, ⟨#[]⟩⟩⟩]) (hg : Handle w) : Calls Tryz.prog 37 #[va, .int .i64 14, .int .i64 0, vl] w fun r w' => r = .returned (.bool true) ∧ Below w.heap.size w w' :=
  refused_any va vl [⟨⟨#[97]⟩, 1, 493, ⟨#[]⟩, ⟨#[]⟩⟩, ⟨⟨#[97, 47, 98]⟩, 2, 420, ⟨#[120]⟩, ⟨#[]⟩⟩] [⟨⟨#[97, 47, 98]⟩, false, ⟨⟨#[97, 47, 98]⟩, 1, 493, ⟨#[]⟩, ⟨#[]⟩⟩⟩] 14 0 w ha hc (small_of (by decide)) (smallC_of (by decide)) (by decide) (by decide) (by kernel_rfl) (by decide) (by decide) hg
theorem rk6 (va vl : Value) (w : World) (ha : EntsAt w va [⟨⟨#[97]⟩, 1, 493, ⟨#[]⟩, ⟨#[]⟩⟩, ⟨⟨#[97, 47, 98]⟩, 2, 420, ⟨#[120]⟩, ⟨#[]⟩⟩]) (hc : ChgsAt w vl [⟨⟨#[98, 47, 99]⟩, false, ⟨⟨#[98, 47, 99]⟩, 2, 420, ⟨#[120]⟩, ⟨#[]⟩⟩⟩]) (hg : Handle w) : Calls Tryz.prog 37 #[va, .int .i64 10, .int .i64 0, vl] w fun r w' => r = .returned (.bool true) ∧ Below w.heap.size w w' :=
  refused_any va vl [⟨⟨#[97]⟩, 1, 493, ⟨#[]⟩, ⟨#[]⟩⟩, ⟨⟨#[97, 47, 98]⟩, 2, 420, ⟨#[120]⟩, ⟨#[]⟩⟩] [⟨⟨#[98, 47, 99]⟩, false, ⟨⟨#[98, 47, 99]⟩, 2, 420, ⟨#[120]⟩, ⟨#[]⟩⟩⟩] 10 0 w ha hc (small_of (by decide)) (smallC_of (by decide)) (by decide) (by decide) (by kernel_rfl) (by decide) (by decide) hg
theorem rk7 (va vl : Value) (w : World) (ha : EntsAt w va [⟨⟨#[97]⟩, 1, 493, ⟨#[]⟩, ⟨#[]⟩⟩, ⟨⟨#[97, 47, 98]⟩, 2, 420, ⟨#[120]⟩, ⟨#[]⟩⟩]) (hc : ChgsAt w vl [⟨⟨#[97, 47, 98, 47, 99]⟩, false, ⟨⟨#[97, 47, 98, 47, 99]⟩, 2, 420, ⟨#[120]⟩, ⟨#[]⟩⟩⟩]) (hg : Handle w) : Calls Tryz.prog 37 #[va, .int .i64 13, .int .i64 0, vl] w fun r w' => r = .returned (.bool true) ∧ Below w.heap.size w w' :=
  refused_any va vl [⟨⟨#[97]⟩, 1, 493, ⟨#[]⟩, ⟨#[]⟩⟩, ⟨⟨#[97, 47, 98]⟩, 2, 420, ⟨#[120]⟩, ⟨#[]⟩⟩] [⟨⟨#[97, 47, 98, 47, 99]⟩, false, ⟨⟨#[97, 47, 98, 47, 99]⟩, 2, 420, ⟨#[120]⟩, ⟨#[]⟩⟩⟩] 13 0 w ha hc (small_of (by decide)) (smallC_of (by decide)) (by decide) (by decide) (by kernel_rfl) (by decide) (by decide) hg
theorem rk8 (va vl : Value) (w : World) (ha : EntsAt w va [⟨⟨#[97]⟩, 1, 493, ⟨#[]⟩, ⟨#[]⟩⟩, ⟨⟨#[97, 47, 98]⟩, 2, 420, ⟨#[120]⟩, ⟨#[]⟩⟩]) (hc : ChgsAt w vl [⟨⟨#[99]⟩, false, ⟨⟨#[98]⟩, 2, 420, ⟨#[120]⟩, ⟨#[]⟩⟩⟩]) (hg : Handle w) : Calls Tryz.prog 37 #[va, .int .i64 1, .int .i64 0, vl] w fun r w' => r = .returned (.bool true) ∧ Below w.heap.size w w' :=
  refused_any va vl [⟨⟨#[97]⟩, 1, 493, ⟨#[]⟩, ⟨#[]⟩⟩, ⟨⟨#[97, 47, 98]⟩, 2, 420, ⟨#[120]⟩, ⟨#[]⟩⟩] [⟨⟨#[99]⟩, false, ⟨⟨#[98]⟩, 2, 420, ⟨#[120]⟩, ⟨#[]⟩⟩⟩] 1 0 w ha hc (small_of (by decide)) (smallC_of (by decide)) (by decide) (by decide) (by kernel_rfl) (by decide) (by decide) hg
theorem rk9 (va vl : Value) (w : World) (ha : EntsAt w va [⟨⟨#[97]⟩, 1, 493, ⟨#[]⟩, ⟨#[]⟩⟩, ⟨⟨#[97, 47, 98]⟩, 2, 420, ⟨#[120]⟩, ⟨#[]⟩⟩]) (hc : ChgsAt w vl [⟨⟨#[97]⟩, true, ⟨⟨#[]⟩, 0, 0, ⟨#[]⟩, ⟨#[]⟩⟩⟩, ⟨⟨#[99]⟩, false, ⟨⟨#[]⟩, 0, 0, ⟨#[]⟩, ⟨#[]⟩⟩⟩]) (hg : Handle w) : Calls Tryz.prog 37 #[va, .int .i64 1, .int .i64 1, vl] w fun r w' => r = .returned (.bool true) ∧ Below w.heap.size w w' :=
  refused_any va vl [⟨⟨#[97]⟩, 1, 493, ⟨#[]⟩, ⟨#[]⟩⟩, ⟨⟨#[97, 47, 98]⟩, 2, 420, ⟨#[120]⟩, ⟨#[]⟩⟩] [⟨⟨#[97]⟩, true, ⟨⟨#[]⟩, 0, 0, ⟨#[]⟩, ⟨#[]⟩⟩⟩, ⟨⟨#[99]⟩, false, ⟨⟨#[]⟩, 0, 0, ⟨#[]⟩, ⟨#[]⟩⟩⟩] 1 1 w ha hc (small_of (by decide)) (smallC_of (by decide)) (by decide) (by decide) (by kernel_rfl) (by decide) (by decide) hg
theorem rk10 (va vl : Value) (w : World) (ha : EntsAt w va [⟨⟨#[97]⟩, 1, 493, ⟨#[]⟩, ⟨#[]⟩⟩, ⟨⟨#[97, 47, 98]⟩, 2, 420, ⟨#[120]⟩, ⟨#[]⟩⟩]) (hc : ChgsAt w vl [⟨⟨#[99]⟩, false, ⟨⟨#[99]⟩, 0, 0, ⟨#[]⟩, ⟨#[]⟩⟩⟩]) (hg : Handle w) : Calls Tryz.prog 37 #[va, .int .i64 14, .int .i64 0, vl] w fun r w' => r = .returned (.bool true) ∧ Below w.heap.size w w' :=
  refused_any va vl [⟨⟨#[97]⟩, 1, 493, ⟨#[]⟩, ⟨#[]⟩⟩, ⟨⟨#[97, 47, 98]⟩, 2, 420, ⟨#[120]⟩, ⟨#[]⟩⟩] [⟨⟨#[99]⟩, false, ⟨⟨#[99]⟩, 0, 0, ⟨#[]⟩, ⟨#[]⟩⟩⟩] 14 0 w ha hc (small_of (by decide)) (smallC_of (by decide)) (by decide) (by decide) (by kernel_rfl) (by decide) (by decide) hg
theorem rk11 (va vl : Value) (w : World) (ha : EntsAt w va [⟨⟨#[97]⟩, 1, 493, ⟨#[]⟩, ⟨#[]⟩⟩, ⟨⟨#[97, 47, 98]⟩, 2, 420, ⟨#[120]⟩, ⟨#[]⟩⟩]) (hc : ChgsAt w vl [⟨⟨#[]⟩, false, ⟨⟨#[]⟩, 0, 0, ⟨#[]⟩, ⟨#[]⟩⟩⟩]) (hg : Handle w) : Calls Tryz.prog 37 #[va, .int .i64 14, .int .i64 0, vl] w fun r w' => r = .returned (.bool true) ∧ Below w.heap.size w w' :=
  refused_any va vl [⟨⟨#[97]⟩, 1, 493, ⟨#[]⟩, ⟨#[]⟩⟩, ⟨⟨#[97, 47, 98]⟩, 2, 420, ⟨#[120]⟩, ⟨#[]⟩⟩] [⟨⟨#[]⟩, false, ⟨⟨#[]⟩, 0, 0, ⟨#[]⟩, ⟨#[]⟩⟩⟩] 14 0 w ha hc (small_of (by decide)) (smallC_of (by decide)) (by decide) (by decide) (by kernel_rfl) (by decide) (by decide) hg
theorem dk1 (va vb : Value) (w : World) (ha : EntsAt w va [⟨⟨#[97]⟩, 1, 493, ⟨#[]⟩, ⟨#[]⟩⟩]) (hb : EntsAt w vb [⟨⟨#[98]⟩, 1, 493, ⟨#[]⟩, ⟨#[]⟩⟩, ⟨⟨#[98]⟩, 1, 493, ⟨#[]⟩, ⟨#[]⟩⟩]) (hg : Handle w) : Calls Tryz.prog 12 #[va, vb] w fun r w' => r = .returned (.tuple #[.slice none 0 0, fltV ((11 : Nat) : Int) 1 ((1 : Nat) : Int)]) ∧ Below w.heap.size w w' :=
  (diff_any va vb _ _ w ha hb (small_of (by decide)) (small_of (by decide)) (by decide) hg).mono fun r w' ⟨h1, v, e, h2, h3⟩ => by
    have hc : checkL [⟨⟨#[98]⟩, 1, 493, ⟨#[]⟩, ⟨#[]⟩⟩, ⟨⟨#[98]⟩, 1, 493, ⟨#[]⟩, ⟨#[]⟩⟩] = (11, 1) := by kernel_rfl
    obtain ⟨rfl, rfl⟩ := h3.b (by rw [show checkL [⟨⟨#[97]⟩, 1, 493, ⟨#[]⟩, ⟨#[]⟩⟩] = (0, 0) by kernel_rfl]) (by rw [hc]; decide)
    rw [hc] at h2
    exact ⟨h2, h1⟩
theorem dk2 (va vb : Value) (w : World) (ha : EntsAt w va [⟨⟨#[98]⟩, 1, 493, ⟨#[]⟩, ⟨#[]⟩⟩, ⟨⟨#[98]⟩, 1, 493, ⟨#[]⟩, ⟨#[]⟩⟩]) (hb : EntsAt w vb [⟨⟨#[]⟩, 0, 0, ⟨#[]⟩, ⟨#[]⟩⟩]) (hg : Handle w) : Calls Tryz.prog 12 #[va, vb] w fun r w' => r = .returned (.tuple #[.slice none 0 0, fltV ((11 : Nat) : Int) 0 ((1 : Nat) : Int)]) ∧ Below w.heap.size w w' :=
  (diff_any va vb _ _ w ha hb (small_of (by decide)) (small_of (by decide)) (by decide) hg).mono fun r w' ⟨h1, v, e, h2, h3⟩ => by
    have hc : checkL [⟨⟨#[98]⟩, 1, 493, ⟨#[]⟩, ⟨#[]⟩⟩, ⟨⟨#[98]⟩, 1, 493, ⟨#[]⟩, ⟨#[]⟩⟩] = (11, 1) := by kernel_rfl
    obtain ⟨rfl, rfl⟩ := h3.a (by rw [hc]; decide)
    rw [hc] at h2
    exact ⟨h2, h1⟩
theorem ak1 (va vl : Value) (w : World) (ha : EntsAt w va [⟨⟨#[97]⟩, 1, 493, ⟨#[]⟩, ⟨#[]⟩⟩, ⟨⟨#[97, 47, 98]⟩, 2, 420, ⟨#[120]⟩, ⟨#[]⟩⟩]) (hc : ChgsAt w vl [⟨⟨#[97]⟩, true, ⟨⟨#[]⟩, 0, 0, ⟨#[]⟩, ⟨#[]⟩⟩⟩]) (hg : Handle w) : Calls Tryz.prog 20 #[va, vl] w fun r w' => (∃ o c, r = .returned (.tuple #[.slice o 0 c, .nilIface])) ∧ Below w.heap.size w w' :=
  (apply_ok ha hc (small_of (by decide)) (smallC_of (by decide)) (by decide) (by decide) hg (show applyL [⟨⟨#[97]⟩, 1, 493, ⟨#[]⟩, ⟨#[]⟩⟩, ⟨⟨#[97, 47, 98]⟩, 2, 420, ⟨#[120]⟩, ⟨#[]⟩⟩] [⟨⟨#[97]⟩, true, ⟨⟨#[]⟩, 0, 0, ⟨#[]⟩, ⟨#[]⟩⟩⟩] = .ok [] by kernel_rfl)).mono fun r w' ⟨v, h1, h2, h3⟩ => by
    obtain ⟨o, c, rfl, _⟩ := h2.ents
    exact ⟨⟨o, c, h1⟩, h3⟩
theorem bk1 (va vl : Value) (w : World) (ha : EntsAt w va [⟨⟨#[97]⟩, 2, 420, ⟨#[120]⟩, ⟨#[]⟩⟩]) (hc : ChgsAt w vl [⟨⟨#[97]⟩, false, ⟨⟨#[97]⟩, 2, 420, ⟨#[121]⟩, ⟨#[]⟩⟩⟩, ⟨⟨#[98]⟩, false, ⟨⟨#[98]⟩, 2, 420, ⟨#[122]⟩, ⟨#[]⟩⟩⟩]) (hg : Handle w) : Calls Tryz.prog 25 #[va, vl] w fun r w' => (∃ g c, r = .returned (.tuple #[.slice (some ⟨g, 0, none⟩) 2 c, .nilIface]) ∧ 2 ≤ c ∧ ∀ (j : Nat) u, ([.string ⟨#[97]⟩, .bool false, .string ⟨#[97]⟩, .int .i64 2, .int .i64 420, .string ⟨#[120]⟩, .string ⟨#[]⟩, .string ⟨#[98]⟩, .bool true, .string ⟨#[]⟩, .int .i64 0, .int .i64 0, .string ⟨#[]⟩, .string ⟨#[]⟩] : List Value)[j]? = some u → w'.cell? ((⟨g, 0, none⟩ : Addr).add j) = some u) ∧ Below w.heap.size w w' :=
  (back_ok ha hc (small_of (by decide)) (smallC_of (by decide)) (by decide) (by decide) hg (L := [⟨⟨#[97]⟩, 2, 420, ⟨#[121]⟩, ⟨#[]⟩⟩, ⟨⟨#[98]⟩, 2, 420, ⟨#[122]⟩, ⟨#[]⟩⟩]) (by kernel_rfl) (M := [⟨⟨#[97]⟩, false, ⟨⟨#[97]⟩, 2, 420, ⟨#[120]⟩, ⟨#[]⟩⟩⟩, ⟨⟨#[98]⟩, true, ⟨⟨#[]⟩, 0, 0, ⟨#[]⟩, ⟨#[]⟩⟩⟩]) (by kernel_rfl)).mono fun r w' ⟨v, h1, h2, h3⟩ => by
    obtain ⟨g, c, cur, rfl, _, _⟩ := row_formK h2 (by decide)
    obtain ⟨_, h4 | ⟨g', c', cur', e, _, _, hc2, _⟩⟩ := id h2
    · cases h4.1
    · injection e with e1 e2 e3
      subst e3
      exact ⟨⟨g, c, h1, hc2, h2.cells rfl⟩, h3⟩
set_option maxRecDepth 100000 in
set_option maxHeartbeats 16000000 in
theorem deltaKnown_any (w : World) (hg : Handle w) : Calls Tryz.prog 9 #[] w fun r w' => r = .returned (.bool true) ∧ Below w.heap.size w w' := by
  have HG := Lib.hid hg
  clear hg
  go_enter Tryz.func9, Tryz.ntmps9
  go_wp2_with fail
  refine (dirD ⟨#[97]⟩ _).mono ?_
  rintro r w1 ⟨rfl, hb⟩
  have B1 := Lib.hid hb
  clear hb
  go_wp2_with fail
  refine (fileD ⟨#[97, 47, 98]⟩ ⟨#[120]⟩ _).mono ?_
  rintro r w2 ⟨rfl, hb⟩
  have B2 := Lib.hid (B1.out.trans (hb.mono B1.out.size))
  clear B1
  clear hb
  go_wp2_with fail
  refine (fileD ⟨#[97]⟩ ⟨#[120]⟩ _).mono ?_
  rintro r w3 ⟨rfl, hb⟩
  have A3 := Lib.hid ((hb.block w2.heap.size (by simp)).trans (World.alloc_heap_new w2 _))
  have B3 := Lib.hid ((B2.out.alloc B2.out.size _).trans (hb.mono (by have := B2.out.size; simp; omega)))
  generalize w2.heap.size = b1 at *
  clear B2
  clear hb
  go_upto_region 3 with fail
  obtain ⟨wa, hwa⟩ : ∃ y, y = w3.alloc (.cells #[.string ⟨#[97]⟩, .int .i64 2, .int .i64 420, .string ⟨#[120]⟩, .string ⟨#[]⟩] 52) := ⟨_, rfl⟩
  obtain ⟨b2, hb2⟩ : ∃ y, y = w3.heap.size := ⟨_, rfl⟩
  have sa := (show KnD w wa b1 b2 from ⟨by rw [hwa]; exact B3.out.alloc B3.out.size _, by rw [hwa]; exact (heap_alloc_old w3 _ (heap_lt A3.out)).trans A3.out, by rw [hwa, hb2]; exact World.alloc_heap_new w3 _⟩)
  rw [← hwa, ← hb2]
  have SA := Lib.hid sa
  clear sa hwa hb2 A3 B3
  have HB0 := Lib.hid (World.alloc_heap_new wa (.cells #[.string ⟨#[]⟩, .int .i64 0, .int .i64 0, .string ⟨#[]⟩, .string ⟨#[]⟩] 52))
  go_upto_region 4 with (first | (refine wpList_store_row rfl _ _ _ rfl wa.heap.size #[.string ⟨#[97]⟩, .int .i64 3, .int .i64 511, .string ⟨#[]⟩, .string ⟨#[120]⟩] rfl rfl 52 _ HB0.out (by kernel_rfl) rfl (by kernel_rfl) ?_))
  obtain ⟨wb, hw⟩ : ∃ y, y = (wa.alloc (.cells #[.string ⟨#[]⟩, .int .i64 0, .int .i64 0, .string ⟨#[]⟩, .string ⟨#[]⟩] 52)).setRow wa.heap.size #[.string ⟨#[97]⟩, .int .i64 3, .int .i64 511, .string ⟨#[]⟩, .string ⟨#[120]⟩] := ⟨_, rfl⟩
  obtain ⟨b3, hb⟩ : ∃ y, y = wa.heap.size := ⟨_, rfl⟩
  have hbl : Below wa.heap.size wa wb := by rw [hw]; exact below_setRowK ((Below.refl _ _).alloc (Nat.le_refl _) _) (Nat.le_refl _) _
  have Kb3 := Lib.hid (show wb.heap[b3]? = some (.cells #[.string ⟨#[97]⟩, .int .i64 3, .int .i64 511, .string ⟨#[]⟩, .string ⟨#[120]⟩] 52 (0, 0)) by rw [hw, hb]; exact grow_at HB0.out)
  rw [← hw, ← hb]
  have SB := Lib.hid (SA.out.call hbl)
  clear hw hb hbl HB0 SA
  have HB0 := Lib.hid (World.alloc_heap_new wb (.cells #[.string ⟨#[]⟩, .int .i64 0, .int .i64 0, .string ⟨#[]⟩, .string ⟨#[]⟩] 52))
  go_upto_region 5 with (first | (refine wpList_store_row rfl _ _ _ rfl wb.heap.size #[.string ⟨#[97]⟩, .int .i64 1, .int .i64 448, .string ⟨#[]⟩, .string ⟨#[]⟩] rfl rfl 52 _ HB0.out (by kernel_rfl) rfl (by kernel_rfl) ?_))
  obtain ⟨wc, hw⟩ : ∃ y, y = (wb.alloc (.cells #[.string ⟨#[]⟩, .int .i64 0, .int .i64 0, .string ⟨#[]⟩, .string ⟨#[]⟩] 52)).setRow wb.heap.size #[.string ⟨#[97]⟩, .int .i64 1, .int .i64 448, .string ⟨#[]⟩, .string ⟨#[]⟩] := ⟨_, rfl⟩
  obtain ⟨b4, hb⟩ : ∃ y, y = wb.heap.size := ⟨_, rfl⟩
  have hbl : Below wb.heap.size wb wc := by rw [hw]; exact below_setRowK ((Below.refl _ _).alloc (Nat.le_refl _) _) (Nat.le_refl _) _
  have Kb4 := Lib.hid (show wc.heap[b4]? = some (.cells #[.string ⟨#[97]⟩, .int .i64 1, .int .i64 448, .string ⟨#[]⟩, .string ⟨#[]⟩] 52 (0, 0)) by rw [hw, hb]; exact grow_at HB0.out)
  rw [← hw, ← hb]
  have Kb3' := Lib.hid ((hbl.block b3 (heap_lt Kb3.out)).trans Kb3.out)
  clear Kb3
  have SC := Lib.hid (SB.out.call hbl)
  clear hw hb hbl HB0 SB
  refine rg5_any wc b1 b2 b3 b4 _ _ rfl rfl rfl rfl rfl rfl SC.out.h1 SC.out.h2 Kb3'.out Kb4.out (SC.out.hand HG.out) ?_
  rintro a w4 hd hs y0 y1 y2 y3 y4 y5 hb
  obtain ⟨x5, hx, hgx⟩ : ∃ x : Nat → Value, a.tmps = #[x 0, x 1, x 2, x 3, x 4, x 5, x 6, x 7, x 8, x 9, x 10, x 11, x 12, x 13, x 14, x 15, x 16, x 17, x 18, x 19, x 20, x 21, x 22, x 23, x 24, x 25, x 26, x 27, x 28, x 29, x 30, x 31, x 32, x 33, x 34, x 35, x 36, x 37, x 38, x 39, x 40, x 41, x 42, x 43, x 44, x 45, x 46, x 47, x 48, x 49, x 50, x 51, x 52, x 53, x 54, x 55, x 56, x 57, x 58, x 59, x 60, x 61, x 62, x 63, x 64, x 65, x 66, x 67, x 68, x 69, x 70, x 71, x 72, x 73, x 74, x 75, x 76, x 77, x 78, x 79, x 80, x 81, x 82, x 83, x 84, x 85, x 86, x 87, x 88, x 89, x 90, x 91, x 92, x 93, x 94, x 95, x 96, x 97, x 98, x 99, x 100, x 101, x 102, x 103, x 104, x 105, x 106, x 107, x 108, x 109, x 110, x 111, x 112, x 113, x 114, x 115, x 116, x 117, x 118, x 119, x 120, x 121, x 122, x 123, x 124, x 125, x 126, x 127, x 128, x 129, x 130, x 131, x 132, x 133, x 134, x 135, x 136, x 137, x 138, x 139, x 140, x 141, x 142, x 143, x 144, x 145, x 146, x 147, x 148, x 149, x 150, x 151, x 152, x 153, x 154, x 155, x 156, x 157, x 158, x 159, x 160, x 161, x 162, x 163, x 164, x 165, x 166, x 167, x 168, x 169, x 170, x 171, x 172, x 173, x 174, x 175, x 176, x 177, x 178, x 179, x 180, x 181, x 182, x 183, x 184, x 185, x 186, x 187, x 188, x 189, x 190, x 191, x 192, x 193, x 194, x 195, x 196, x 197, x 198, x 199, x 200, x 201, x 202, x 203, x 204, x 205, x 206, x 207, x 208, x 209, x 210, x 211, x 212, x 213, x 214, x 215, x 216, x 217, x 218, x 219, x 220, x 221, x 222, x 223, x 224, x 225, x 226, x 227, x 228, x 229, x 230, x 231, x 232, x 233, x 234, x 235, x 236, x 237, x 238, x 239, x 240, x 241, x 242, x 243, x 244, x 245, x 246, x 247, x 248, x 249, x 250, x 251, x 252, x 253, x 254, x 255, x 256, x 257, x 258, x 259] ∧ ∀ k, x k = a.tmps[k]?.getD undef := ⟨fun k => a.tmps[k]?.getD undef, arrN 260 a.tmps hs, fun _ => rfl⟩
  have z0 := (hgx 0).trans y0
  have z1 := (hgx 1).trans y1
  have z2 := (hgx 2).trans y2
  have z3 := (hgx 3).trans y3
  have z4 := (hgx 4).trans y4
  have z5 := (hgx 5).trans y5
  rw [z0, z1, z2, z3, z4, z5] at hx
  obtain ⟨tm, df⟩ := a
  dsimp only at hx hd
  subst hx hd
  have Sw4 := Lib.hid (SC.out.call hb)
  have Kb3'' := Lib.hid ((hb.block b3 (heap_lt Kb3'.out)).trans Kb3'.out)
  have Kb4' := Lib.hid ((hb.block b4 (heap_lt Kb4.out)).trans Kb4.out)
  clear Kb3' Kb4
  have Kb3' := Kb3''
  have Kb4 := Kb4'
  clear Kb3'' Kb4'
  clear hb hs hgx SC y0 z0 y1 z1 y2 z2 y3 z3 y4 z4 y5 z5
  go_upto_region 6 with fail
  refine rg6_any w4 b1 b2 b3 b4 _ _ rfl rfl rfl rfl rfl rfl rfl Sw4.out.h1 Sw4.out.h2 Kb3'.out Kb4.out (Sw4.out.hand HG.out) ?_
  rintro a w5 hd hs y0 y1 y2 y3 y4 y5 y6 hb
  obtain ⟨x6, hx, hgx⟩ : ∃ x : Nat → Value, a.tmps = #[x 0, x 1, x 2, x 3, x 4, x 5, x 6, x 7, x 8, x 9, x 10, x 11, x 12, x 13, x 14, x 15, x 16, x 17, x 18, x 19, x 20, x 21, x 22, x 23, x 24, x 25, x 26, x 27, x 28, x 29, x 30, x 31, x 32, x 33, x 34, x 35, x 36, x 37, x 38, x 39, x 40, x 41, x 42, x 43, x 44, x 45, x 46, x 47, x 48, x 49, x 50, x 51, x 52, x 53, x 54, x 55, x 56, x 57, x 58, x 59, x 60, x 61, x 62, x 63, x 64, x 65, x 66, x 67, x 68, x 69, x 70, x 71, x 72, x 73, x 74, x 75, x 76, x 77, x 78, x 79, x 80, x 81, x 82, x 83, x 84, x 85, x 86, x 87, x 88, x 89, x 90, x 91, x 92, x 93, x 94, x 95, x 96, x 97, x 98, x 99, x 100, x 101, x 102, x 103, x 104, x 105, x 106, x 107, x 108, x 109, x 110, x 111, x 112, x 113, x 114, x 115, x 116, x 117, x 118, x 119, x 120, x 121, x 122, x 123, x 124, x 125, x 126, x 127, x 128, x 129, x 130, x 131, x 132, x 133, x 134, x 135, x 136, x 137, x 138, x 139, x 140, x 141, x 142, x 143, x 144, x 145, x 146, x 147, x 148, x 149, x 150, x 151, x 152, x 153, x 154, x 155, x 156, x 157, x 158, x 159, x 160, x 161, x 162, x 163, x 164, x 165, x 166, x 167, x 168, x 169, x 170, x 171, x 172, x 173, x 174, x 175, x 176, x 177, x 178, x 179, x 180, x 181, x 182, x 183, x 184, x 185, x 186, x 187, x 188, x 189, x 190, x 191, x 192, x 193, x 194, x 195, x 196, x 197, x 198, x 199, x 200, x 201, x 202, x 203, x 204, x 205, x 206, x 207, x 208, x 209, x 210, x 211, x 212, x 213, x 214, x 215, x 216, x 217, x 218, x 219, x 220, x 221, x 222, x 223, x 224, x 225, x 226, x 227, x 228, x 229, x 230, x 231, x 232, x 233, x 234, x 235, x 236, x 237, x 238, x 239, x 240, x 241, x 242, x 243, x 244, x 245, x 246, x 247, x 248, x 249, x 250, x 251, x 252, x 253, x 254, x 255, x 256, x 257, x 258, x 259] ∧ ∀ k, x k = a.tmps[k]?.getD undef := ⟨fun k => a.tmps[k]?.getD undef, arrN 260 a.tmps hs, fun _ => rfl⟩
  have z0 := (hgx 0).trans y0
  have z1 := (hgx 1).trans y1
  have z2 := (hgx 2).trans y2
  have z3 := (hgx 3).trans y3
  have z4 := (hgx 4).trans y4
  have z5 := (hgx 5).trans y5
  have z6 := (hgx 6).trans y6
  rw [z0, z1, z2, z3, z4, z5, z6] at hx
  obtain ⟨tm, df⟩ := a
  dsimp only at hx hd
  subst hx hd
  have Sw5 := Lib.hid (Sw4.out.call hb)
  clear hb hs hgx Sw4 y0 z0 y1 z1 y2 z2 y3 z3 y4 z4 y5 z5 y6 z6
  clear Kb3' Kb4
  go_wp2_with fail
  refine (dirD ⟨#[97]⟩ _).mono ?_
  rintro r w6 ⟨rfl, hb⟩
  have Sw6 := Lib.hid ((Sw5.out).call hb)
  clear hb Sw5
  have EA := Lib.hid (ents_block (L := [⟨⟨#[97]⟩, 1, 493, ⟨#[]⟩, ⟨#[]⟩⟩]) 1 (World.alloc_heap_new w6 (.cells #[.string ⟨#[97]⟩, .int .i64 1, .int .i64 493, .string ⟨#[]⟩, .string ⟨#[]⟩] 52)) rfl rfl (by decide))
  go_wp2_with fail
  refine (dirD ⟨#[98]⟩ _).mono ?_
  rintro r w7 ⟨rfl, hb⟩
  have Sw7 := Lib.hid ((Sw6.out.alloc _).call hb)
  have EA2 := Lib.hid (EA.out.below hb (Nat.le_refl _))
  clear hb Sw6
  generalize w6.heap.size = b5 at *
  clear EA
  go_wp2_with fail
  refine (dirD ⟨#[98]⟩ _).mono ?_
  rintro r w8 ⟨rfl, hb⟩
  have Sw8 := Lib.hid ((Sw7.out).call hb)
  have EA3 := Lib.hid (EA2.out.below hb (Nat.le_refl _))
  clear hb Sw7
  clear EA2
  go_wp2_with fail
  refine (dk1 _ _ _ (EA3.out.new _) (ents_block 2 (World.alloc_heap_new w8 _) rfl rfl (by decide)) ((Sw8.out.alloc _).hand HG.out)).mono ?_
  rintro r w9 ⟨rfl, hb⟩
  have Sw9 := Lib.hid ((Sw8.out.alloc _).call hb)
  clear hb Sw8
  clear EA3
  unfold fltV
  go_wp2_with fail
  refine (dirD ⟨#[98]⟩ _).mono ?_
  rintro r w10 ⟨rfl, hb⟩
  have Sw10 := Lib.hid ((Sw9.out).call hb)
  clear hb Sw9
  go_wp2_with fail
  refine (dirD ⟨#[98]⟩ _).mono ?_
  rintro r w11 ⟨rfl, hb⟩
  have Sw11 := Lib.hid ((Sw10.out).call hb)
  clear hb Sw10
  have EB := Lib.hid (ents_block (L := [⟨⟨#[98]⟩, 1, 493, ⟨#[]⟩, ⟨#[]⟩⟩, ⟨⟨#[98]⟩, 1, 493, ⟨#[]⟩, ⟨#[]⟩⟩]) 2 (World.alloc_heap_new w11 (.cells #[.string ⟨#[98]⟩, .int .i64 1, .int .i64 493, .string ⟨#[]⟩, .string ⟨#[]⟩, .string ⟨#[98]⟩, .int .i64 1, .int .i64 493, .string ⟨#[]⟩, .string ⟨#[]⟩] 52)) rfl rfl (by decide))
  go_wp2_with (refine wpList_buildK (by rfl) 52 rfl #[.string ⟨#[]⟩, .int .i64 0, .int .i64 0, .string ⟨#[]⟩, .string ⟨#[]⟩] (by kernel_rfl) ?_)
  have hz := World.alloc_heap_new (w11.alloc (.cells #[.string ⟨#[98]⟩, .int .i64 1, .int .i64 493, .string ⟨#[]⟩, .string ⟨#[]⟩, .string ⟨#[98]⟩, .int .i64 1, .int .i64 493, .string ⟨#[]⟩, .string ⟨#[]⟩] 52)) (.cells #[.string ⟨#[]⟩, .int .i64 0, .int .i64 0, .string ⟨#[]⟩, .string ⟨#[]⟩] 52)
  rw [show (w11.alloc (.cells #[.string ⟨#[98]⟩, .int .i64 1, .int .i64 493, .string ⟨#[]⟩, .string ⟨#[]⟩, .string ⟨#[98]⟩, .int .i64 1, .int .i64 493, .string ⟨#[]⟩, .string ⟨#[]⟩] 52)).heap.size = w11.heap.size + 1 by simp] at hz
  obtain ⟨wE, hwE⟩ : ∃ y, y = (w11.alloc (.cells #[.string ⟨#[98]⟩, .int .i64 1, .int .i64 493, .string ⟨#[]⟩, .string ⟨#[]⟩, .string ⟨#[98]⟩, .int .i64 1, .int .i64 493, .string ⟨#[]⟩, .string ⟨#[]⟩] 52)).alloc (.cells #[.string ⟨#[]⟩, .int .i64 0, .int .i64 0, .string ⟨#[]⟩, .string ⟨#[]⟩] 52) := ⟨_, rfl⟩
  have EB1 := Lib.hid (show EntsAt wE _ _ by rw [hwE]; exact EB.out.new _)
  have SE := Lib.hid (show KnD w wE b1 b2 by rw [hwE]; exact (Sw11.out.alloc _).alloc _)
  rw [← hwE] at hz ⊢
  have EB2 := Lib.hid (ents_block (L := [⟨⟨#[]⟩, 0, 0, ⟨#[]⟩, ⟨#[]⟩⟩]) 1 hz rfl rfl (by decide))
  clear hwE hz EB
  refine (dk2 _ _ _ EB1.out EB2.out (SE.out.hand HG.out)).mono ?_
  rintro r w12 ⟨rfl, hb⟩
  have Sw12 := Lib.hid (SE.out.call hb)
  clear hb EB1 EB2 SE Sw11
  unfold fltV
  go_wp2_with fail
  refine (goneD ⟨#[97]⟩ _).mono ?_
  rintro r w13 ⟨rfl, hb⟩
  have Sw13 := Lib.hid ((Sw12.out).call hb)
  clear hb Sw12
  go_wp2_with fail
  refine (ak1 _ _ _ (Sw13.out.alloc _).e1 (chgs_block 1 (World.alloc_heap_new _ _) rfl rfl (by decide)) ((Sw13.out.alloc _).hand HG.out)).mono ?_
  rintro r w14 ⟨⟨o9, c9, rfl⟩, hb⟩
  have Sw14 := Lib.hid ((Sw13.out.alloc _).call hb)
  clear hb Sw13
  have F1 := Lib.hid (fun W (h : Handle W) => at_fault 11 1 ((1 : Nat) : Int) W (by decide) (by decide) h)
  have F2 := Lib.hid (fun W (h : Handle W) => at_fault 11 0 ((1 : Nat) : Int) W (by decide) (by decide) h)
  unfold fltV at F1 F2
  go_wp2_with fail
  refine (F1.out _ (Sw14.out.hand HG.out)).mono ?_
  rintro r w15 ⟨rfl, hb⟩
  have Sw15 := Lib.hid ((Sw14.out).call hb)
  clear hb Sw14
  go_wp2_with fail
  refine (F2.out _ (Sw15.out.hand HG.out)).mono ?_
  rintro r w16 ⟨rfl, hb⟩
  have Sw16 := Lib.hid ((Sw15.out).call hb)
  clear hb Sw15
  clear F1 F2
  go_wp2_with fail
  refine (goneD ⟨#[97]⟩ _).mono ?_
  rintro r w17 ⟨rfl, hb⟩
  have Sw17 := Lib.hid ((Sw16.out).call hb)
  clear hb Sw16
  go_wp2_with fail
  refine (goneD ⟨#[97]⟩ _).mono ?_
  rintro r w18 ⟨rfl, hb⟩
  have Sw18 := Lib.hid ((Sw17.out).call hb)
  clear hb Sw17
  go_wp2_with fail
  refine (rk1 _ _ _ (Sw18.out.alloc _).e1 (chgs_block 2 (World.alloc_heap_new _ _) rfl rfl (by decide)) ((Sw18.out.alloc _).hand HG.out)).mono ?_
  rintro r w19 ⟨rfl, hb⟩
  have Sw19 := Lib.hid ((Sw18.out.alloc _).call hb)
  clear hb Sw18
  go_wp2_with fail
  refine (goneD ⟨#[122]⟩ _).mono ?_
  rintro r w20 ⟨rfl, hb⟩
  have Sw20 := Lib.hid ((Sw19.out).call hb)
  clear hb Sw19
  go_wp2_with fail
  refine (rk2 _ _ _ (Sw20.out.alloc _).e1 (chgs_block 1 (World.alloc_heap_new _ _) rfl rfl (by decide)) ((Sw20.out.alloc _).hand HG.out)).mono ?_
  rintro r w21 ⟨rfl, hb⟩
  have Sw21 := Lib.hid ((Sw20.out.alloc _).call hb)
  clear hb Sw20
  go_wp2_with fail
  refine (goneD ⟨#[]⟩ _).mono ?_
  rintro r w22 ⟨rfl, hb⟩
  have Sw22 := Lib.hid ((Sw21.out).call hb)
  clear hb Sw21
  go_wp2_with fail
  refine (rk3 _ _ _ (Sw22.out.alloc _).e1 (chgs_block 1 (World.alloc_heap_new _ _) rfl rfl (by decide)) ((Sw22.out.alloc _).hand HG.out)).mono ?_
  rintro r w23 ⟨rfl, hb⟩
  have Sw23 := Lib.hid ((Sw22.out.alloc _).call hb)
  clear hb Sw22
  go_wp2_with fail
  refine (fileD ⟨#[97]⟩ ⟨#[120]⟩ _).mono ?_
  rintro r w24 ⟨rfl, hb⟩
  have Sw24 := Lib.hid ((Sw23.out).call hb)
  clear hb Sw23
  go_wp2_with fail
  refine (laidD ⟨⟨#[97]⟩, 2, 420, ⟨#[120]⟩, ⟨#[]⟩⟩ _).mono ?_
  rintro r w25 ⟨rfl, hb⟩
  have Sw25 := Lib.hid ((Sw24.out).call hb)
  clear hb Sw24
  go_wp2_with fail
  refine (rk4 _ _ _ (Sw25.out.alloc _).e1 (chgs_block 1 (World.alloc_heap_new _ _) rfl rfl (by decide)) ((Sw25.out.alloc _).hand HG.out)).mono ?_
  rintro r w26 ⟨rfl, hb⟩
  have Sw26 := Lib.hid ((Sw25.out.alloc _).call hb)
  clear hb Sw25
  go_wp2_with fail
  refine (dirD ⟨#[97, 47, 98]⟩ _).mono ?_
  rintro r w27 ⟨rfl, hb⟩
  have Sw27 := Lib.hid ((Sw26.out).call hb)
  clear hb Sw26
  go_wp2_with fail
  refine (laidD ⟨⟨#[97, 47, 98]⟩, 1, 493, ⟨#[]⟩, ⟨#[]⟩⟩ _).mono ?_
  rintro r w28 ⟨rfl, hb⟩
  have Sw28 := Lib.hid ((Sw27.out).call hb)
  clear hb Sw27
  go_wp2_with fail
  refine (rk5 _ _ _ (Sw28.out.alloc _).e1 (chgs_block 1 (World.alloc_heap_new _ _) rfl rfl (by decide)) ((Sw28.out.alloc _).hand HG.out)).mono ?_
  rintro r w29 ⟨rfl, hb⟩
  have Sw29 := Lib.hid ((Sw28.out.alloc _).call hb)
  clear hb Sw28
  go_wp2_with fail
  refine (fileD ⟨#[98, 47, 99]⟩ ⟨#[120]⟩ _).mono ?_
  rintro r w30 ⟨rfl, hb⟩
  have Sw30 := Lib.hid ((Sw29.out).call hb)
  clear hb Sw29
  go_wp2_with fail
  refine (laidD ⟨⟨#[98, 47, 99]⟩, 2, 420, ⟨#[120]⟩, ⟨#[]⟩⟩ _).mono ?_
  rintro r w31 ⟨rfl, hb⟩
  have Sw31 := Lib.hid ((Sw30.out).call hb)
  clear hb Sw30
  go_wp2_with fail
  refine (rk6 _ _ _ (Sw31.out.alloc _).e1 (chgs_block 1 (World.alloc_heap_new _ _) rfl rfl (by decide)) ((Sw31.out.alloc _).hand HG.out)).mono ?_
  rintro r w32 ⟨rfl, hb⟩
  have Sw32 := Lib.hid ((Sw31.out.alloc _).call hb)
  clear hb Sw31
  go_wp2_with fail
  refine (fileD ⟨#[97, 47, 98, 47, 99]⟩ ⟨#[120]⟩ _).mono ?_
  rintro r w33 ⟨rfl, hb⟩
  have Sw33 := Lib.hid ((Sw32.out).call hb)
  clear hb Sw32
  go_wp2_with fail
  refine (laidD ⟨⟨#[97, 47, 98, 47, 99]⟩, 2, 420, ⟨#[120]⟩, ⟨#[]⟩⟩ _).mono ?_
  rintro r w34 ⟨rfl, hb⟩
  have Sw34 := Lib.hid ((Sw33.out).call hb)
  clear hb Sw33
  go_wp2_with fail
  refine (rk7 _ _ _ (Sw34.out.alloc _).e1 (chgs_block 1 (World.alloc_heap_new _ _) rfl rfl (by decide)) ((Sw34.out.alloc _).hand HG.out)).mono ?_
  rintro r w35 ⟨rfl, hb⟩
  have Sw35 := Lib.hid ((Sw34.out.alloc _).call hb)
  clear hb Sw34
  go_wp2_with fail
  refine (fileD ⟨#[98]⟩ ⟨#[120]⟩ _).mono ?_
  rintro r w36 ⟨rfl, hb⟩
  have Sw36 := Lib.hid ((Sw35.out).call hb)
  clear hb Sw35
  go_wp2_with fail
  refine (rk8 _ _ _ (Sw36.out.alloc _).e1 (chgs_block 1 (World.alloc_heap_new _ _) rfl rfl (by decide)) ((Sw36.out.alloc _).hand HG.out)).mono ?_
  rintro r w37 ⟨rfl, hb⟩
  have Sw37 := Lib.hid ((Sw36.out.alloc _).call hb)
  clear hb Sw36
  go_wp2_with fail
  refine (goneD ⟨#[97]⟩ _).mono ?_
  rintro r w38 ⟨rfl, hb⟩
  have Sw38 := Lib.hid ((Sw37.out).call hb)
  clear hb Sw37
  go_wp2_with fail
  refine (rk9 _ _ _ (Sw38.out.alloc _).e1 (chgs_block 2 (World.alloc_heap_new _ _) rfl rfl (by decide)) ((Sw38.out.alloc _).hand HG.out)).mono ?_
  rintro r w39 ⟨rfl, hb⟩
  have Sw39 := Lib.hid ((Sw38.out.alloc _).call hb)
  clear hb Sw38
  go_wp2_with fail
  refine (rk10 _ _ _ (Sw39.out.alloc _).e1 (chgs_block 1 (World.alloc_heap_new _ _) rfl rfl (by decide)) ((Sw39.out.alloc _).hand HG.out)).mono ?_
  rintro r w40 ⟨rfl, hb⟩
  have Sw40 := Lib.hid ((Sw39.out.alloc _).call hb)
  clear hb Sw39
  go_wp2_with (refine wpList_buildK (by rfl) 54 rfl #[.string ⟨#[]⟩, .bool false, .string ⟨#[]⟩, .int .i64 0, .int .i64 0, .string ⟨#[]⟩, .string ⟨#[]⟩] (by kernel_rfl) ?_)
  refine (rk11 _ _ _ (Sw40.out.alloc _).e1 (chgs_block 1 (World.alloc_heap_new _ _) rfl rfl (by decide)) ((Sw40.out.alloc _).hand HG.out)).mono ?_
  rintro r w41 ⟨rfl, hb⟩
  have Sw41 := Lib.hid ((Sw40.out.alloc _).call hb)
  clear hb Sw40
  go_wp2_with fail
  refine (fileD ⟨#[97]⟩ ⟨#[121]⟩ _).mono ?_
  rintro r w42 ⟨rfl, hb⟩
  have Sw42 := Lib.hid ((Sw41.out).call hb)
  clear hb Sw41
  go_wp2_with fail
  refine (laidD ⟨⟨#[97]⟩, 2, 420, ⟨#[121]⟩, ⟨#[]⟩⟩ _).mono ?_
  rintro r w43 ⟨rfl, hb⟩
  have Sw43 := Lib.hid ((Sw42.out).call hb)
  clear hb Sw42
  go_wp2_with fail
  refine (fileD ⟨#[98]⟩ ⟨#[122]⟩ _).mono ?_
  rintro r w44 ⟨rfl, hb⟩
  have Sw44 := Lib.hid ((Sw43.out).call hb)
  clear hb Sw43
  go_wp2_with fail
  refine (laidD ⟨⟨#[98]⟩, 2, 420, ⟨#[122]⟩, ⟨#[]⟩⟩ _).mono ?_
  rintro r w45 ⟨rfl, hb⟩
  have Sw45 := Lib.hid ((Sw44.out).call hb)
  clear hb Sw44
  go_wp2_with fail
  refine (bk1 _ _ _ (Sw45.out.alloc _).e2 (chgs_block 2 (World.alloc_heap_new _ _) rfl rfl (by decide)) ((Sw45.out.alloc _).hand HG.out)).mono ?_
  rintro r w46 ⟨⟨g, c, rfl, hc2, hcs⟩, hb⟩
  have Sw46 := Lib.hid ((Sw45.out.alloc _).call hb)
  clear hb Sw45
  have HC := Lib.hid hcs
  clear hcs
  go_upto_region 14 with fail
  have cL : ∀ d os, Calls Tryz.prog 35 #[.agg #[.string ⟨#[97]⟩, .int .i64 2, .int .i64 420, .string ⟨#[120]⟩, .string ⟨#[]⟩]] (grow (redrawn w46 d) os) fun e w'' => e = .returned (.agg #[.string ⟨#[97]⟩, .bool false, .string ⟨#[97]⟩, .int .i64 2, .int .i64 420, .string ⟨#[120]⟩, .string ⟨#[]⟩]) ∧ ∃ p : Regrown, w'' = grow (redrawn w46 p.d) p.os := fun d os => Calls.regrown_of (laidD ⟨⟨#[97]⟩, 2, 420, ⟨#[120]⟩, ⟨#[]⟩⟩ (grow (redrawn w46 d) os))
  have cG : ∀ d os, Calls Tryz.prog 34 #[.string ⟨#[98]⟩] (grow (redrawn w46 d) os) fun e w'' => e = .returned (.agg #[.string ⟨#[98]⟩, .bool true, .string ⟨#[]⟩, .int .i64 0, .int .i64 0, .string ⟨#[]⟩, .string ⟨#[]⟩]) ∧ ∃ p : Regrown, w'' = grow (redrawn w46 p.d) p.os := fun d os => Calls.regrown_of (goneD ⟨#[98]⟩ (grow (redrawn w46 d) os))
  have heq0 : ∀ W, (binOp .eql 54 (.agg #[.string ⟨#[97]⟩, .bool false, .string ⟨#[97]⟩, .int .i64 2, .int .i64 420, .string ⟨#[120]⟩, .string ⟨#[]⟩]) (.agg #[.string ⟨#[97]⟩, .bool false, .string ⟨#[97]⟩, .int .i64 2, .int .i64 420, .string ⟨#[120]⟩, .string ⟨#[]⟩])).run Tryz.prog W = .ok (.bool true) W := fun W => eql_chg ⟨⟨#[97]⟩, false, ⟨⟨#[97]⟩, 2, 420, ⟨#[120]⟩, ⟨#[]⟩⟩⟩ W
  have heq1 : ∀ W, (binOp .eql 54 (.agg #[.string ⟨#[98]⟩, .bool true, .string ⟨#[]⟩, .int .i64 0, .int .i64 0, .string ⟨#[]⟩, .string ⟨#[]⟩]) (.agg #[.string ⟨#[98]⟩, .bool true, .string ⟨#[]⟩, .int .i64 0, .int .i64 0, .string ⟨#[]⟩, .string ⟨#[]⟩])).run Tryz.prog W = .ok (.bool true) W := fun W => eql_chg ⟨⟨#[98]⟩, true, ⟨⟨#[]⟩, 0, 0, ⟨#[]⟩, ⟨#[]⟩⟩⟩ W
  have cF := fun d os => Calls.regrown_of (crowded_any (grow (redrawn w46 d) os) ((Sw46.out.hand HG.out).below (below_regrown w46 d os) (Nat.le_refl _)))
  have cW := fun d os => Calls.regrown_of (works10_any (grow (redrawn w46 d) os) ((Sw46.out.hand HG.out).below (below_regrown w46 d os) (Nat.le_refl _)))
  have CL := Lib.hid cL
  have CG := Lib.hid cG
  have CF := Lib.hid cF
  have CW := Lib.hid cW
  clear cL cG cF cW
  have K0 := Lib.hid (fun w' (hw : ∃ p : Regrown, w' = grow (redrawn w46 p.d) p.os) => (show ∀ (j : Nat) v, ([.string ⟨#[97]⟩, .bool false, .string ⟨#[97]⟩, .int .i64 2, .int .i64 420, .string ⟨#[120]⟩, .string ⟨#[]⟩] : List Value)[j]? = some v → w'.cell? ((⟨g, 0, none⟩ : Addr).add j) = some v from fun j v hj => by obtain ⟨p, rfl⟩ := hw; exact cell_regrown (HC.out j v (by rw [← hj]; have := (List.getElem?_eq_some_iff.1 hj).1; simp at this; match j, this with | 0, _ => rfl | 1, _ => rfl | 2, _ => rfl | 3, _ => rfl | 4, _ => rfl | 5, _ => rfl | 6, _ => rfl | j + 7, h => omega)) _ _))
  have K1 := Lib.hid (fun w' (hw : ∃ p : Regrown, w' = grow (redrawn w46 p.d) p.os) => (show ∀ (j : Nat) v, ([.string ⟨#[98]⟩, .bool true, .string ⟨#[]⟩, .int .i64 0, .int .i64 0, .string ⟨#[]⟩, .string ⟨#[]⟩] : List Value)[j]? = some v → w'.cell? ((⟨g, 7, none⟩ : Addr).add j) = some v from fun j v hj => by obtain ⟨p, rfl⟩ := hw; exact cell_regrown (by have h0 := HC.out (7 + j) v (by rw [← hj]; have := (List.getElem?_eq_some_iff.1 hj).1; simp at this; match j, this with | 0, _ => rfl | 1, _ => rfl | 2, _ => rfl | 3, _ => rfl | 4, _ => rfl | 5, _ => rfl | 6, _ => rfl | j + 7, h => omega); rw [gadd_new] at h0 ⊢; simpa using h0) _ _))
  have K2 := Lib.hid (fun w' (hw : ∃ p : Regrown, w' = grow (redrawn w46 p.d) p.os) => (show ∀ (j : Nat) v, ([.string ⟨#[97]⟩, .int .i64 2, .int .i64 420, .string ⟨#[120]⟩, .string ⟨#[]⟩] : List Value)[j]? = some v → w'.cell? ((⟨b2, 0, none⟩ : Addr).add j) = some v from fun j v hj => by obtain ⟨p, rfl⟩ := hw; exact cell_regrown (row_cells' Sw46.out.h2 hj) _ _))
  refine wp_region_quiet_below (by kernel_rfl) (by kernel_rfl) ?_
  iterate 25 (quiet_step (fail))
  refine quiet_load_guard (by rfl) _ _ rfl ⟨g, 0, none⟩ rfl [.string ⟨#[97]⟩, .bool false, .string ⟨#[97]⟩, .int .i64 2, .int .i64 420, .string ⟨#[120]⟩, .string ⟨#[]⟩] _ K0.out Tryz.underlying54 rfl (by kernel_rfl) ?_
  iterate 2 (quiet_step (fail))
  refine quiet_load_guard (by rfl) _ _ rfl ⟨b2, 0, none⟩ rfl [.string ⟨#[97]⟩, .int .i64 2, .int .i64 420, .string ⟨#[120]⟩, .string ⟨#[]⟩] _ K2.out Tryz.underlying52 rfl (by kernel_rfl) ?_
  iterate 6 (quiet_step (exact CL.out _ _))
  refine quiet_load_guard (by rfl) _ _ rfl ⟨g, 7, none⟩ rfl [.string ⟨#[98]⟩, .bool true, .string ⟨#[]⟩, .int .i64 0, .int .i64 0, .string ⟨#[]⟩, .string ⟨#[]⟩] _ K1.out Tryz.underlying54 rfl (by kernel_rfl) ?_
  repeat (quiet_step (first | exact CG.out _ _ | exact CF.out _ _ | exact CW.out _ _))
  refine wpQuiet_nil ?_
  intro wf hwf
  obtain ⟨⟨dq, oq⟩, hwf2⟩ := hwf
  subst hwf2
  have Bf := Lib.hid (Sw46.out.bel.trans ((below_regrown w46 dq oq).mono Sw46.out.bel.size))
  go_wp2_with fail
  go_ret
  exact ⟨rfl, Bf.out⟩
end Go.Proofs.YtipfccfjniglbaaGreatDoor
