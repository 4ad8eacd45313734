/- What the statements of layer 1 ask first (works) is true; the walks of PathNames, PathSplits, PathParts, PathChecks, PathCleans, PathHolds. -/
import Derived.Test.YtknhjoikoodapaaDoorRefb
import Derived.Test.YtknhjoikoodapaaDoorRefc
set_option linter.unusedSimpArgs false
set_option linter.unusedVariables false
namespace Go.Proofs.YtknhjoikoodapaaDoor
open Go.RowKit
open Go.Lib hiding intOf

theorem plain_same (n : Nat) (w : World) (hn : n ≤ 32) (hg : Handle w) : Calls Tryd.prog 12 #[errV n, .int .i64 (n : Int)] w fun e w' => e = .returned (.bool true) ∧ Below w.heap.size w w' := by
  have h := plain_any n (n : Int) w hn hg
  rw [decide_eq_true rfl] at h
  exact h
theorem Handle.step {W W' : World} (h : Handle W) (hb : Below W.heap.size W W') : Handle W' := h.below hb (Nat.le_refl _)
theorem below_step {B : Nat} {w W W' : World} (h : Below B w W) (hb : Below W.heap.size W W') (hB : B ≤ w.heap.size) : Below B w W' := h.trans (hb.mono (Nat.le_trans hB h.size))

set_option maxRecDepth 100000 in
set_option maxHeartbeats 4000000 in
theorem works_any (w : World) (hg : Handle w) : Calls Tryd.prog 15 #[] w fun e w' => e = .returned (.bool true) ∧ Below w.heap.size w w' := by
  have c1 : ∀ W, Calls Tryd.prog 13 #[.string ⟨#[97, 47, 98]⟩] W fun e w' => e = .returned (.iface 45 (.int .i64 8)) ∧ Below W.heap.size W w' := by
    intro W
    have h := name_any ⟨#[97, 47, 98]⟩ W (by decide)
    rw [show nameNo (⟨#[97, 47, 98]⟩ : ByteArray).data.toList = 8 from by decide] at h
    exact h
  have c2 : ∀ W, Handle W → Calls Tryd.prog 12 #[.iface 45 (.int .i64 8), .int .i64 8] W fun e w' => e = .returned (.bool true) ∧ Below W.heap.size W w' := fun W h => plain_same 8 W (by decide) h
  have c3 : ∀ W, Calls Tryd.prog 13 #[.string ⟨#[97]⟩] W fun e w' => e = .returned .nilIface ∧ Below W.heap.size W w' := by
    intro W
    have h := name_any ⟨#[97]⟩ W (by decide)
    rw [show nameNo (⟨#[97]⟩ : ByteArray).data.toList = 0 from by decide] at h
    exact h
  have c4 : ∀ W, Calls Tryd.prog 16 #[.string ⟨#[97, 47, 98]⟩] W fun e w' => e = .returned .nilIface ∧ Below W.heap.size W w' := by
    intro W
    have h := check_any ⟨#[97, 47, 98]⟩ W (by decide)
    rw [show checkNo (⟨#[97, 47, 98]⟩ : ByteArray).data.toList = 0 from by decide] at h
    exact h
  have c5 : ∀ W, Calls Tryd.prog 16 #[.string ⟨#[]⟩] W fun e w' => e = .returned (.iface 45 (.int .i64 15)) ∧ Below W.heap.size W w' := by
    intro W
    have h := check_any ⟨#[]⟩ W (by decide)
    rw [show checkNo (⟨#[]⟩ : ByteArray).data.toList = 15 from by decide] at h
    exact h
  have c6 : ∀ W, Handle W → Calls Tryd.prog 12 #[.iface 45 (.int .i64 15), .int .i64 15] W fun e w' => e = .returned (.bool true) ∧ Below W.heap.size W w' := fun W h => plain_same 15 W (by decide) h
  have c7 : ∀ W, Calls Tryd.prog 24 #[.string ⟨#[97]⟩, .string ⟨#[98]⟩] W fun e w' => e = .returned (.string ⟨#[97, 47, 98]⟩) ∧ W = w' := by
    intro W
    have h := join_any ⟨#[97]⟩ ⟨#[98]⟩ W (by decide)
    rw [show joinP (⟨#[97]⟩ : ByteArray).data.toList (⟨#[98]⟩ : ByteArray).data.toList = [97, 47, 98] from by decide] at h
    exact h
  have c8 : ∀ W, Calls Tryd.prog 26 #[.string ⟨#[47, 97, 47, 46, 46, 47, 98, 47, 46, 47, 99, 47]⟩] W fun e w' => e = .returned (.string ⟨#[98, 47, 99]⟩) ∧ Below W.heap.size W w' := by
    intro W
    have h := clean_any ⟨#[47, 97, 47, 46, 46, 47, 98, 47, 46, 47, 99, 47]⟩ W (by decide)
    rw [show cleanP (⟨#[47, 97, 47, 46, 46, 47, 98, 47, 46, 47, 99, 47]⟩ : ByteArray).data.toList = [98, 47, 99] from by decide] at h
    exact h
  have c9 : ∀ W, Calls Tryd.prog 28 #[.string ⟨#[97]⟩, .string ⟨#[97, 47, 98]⟩] W fun e w' => e = .returned (.int .i64 (-1)) ∧ Below W.heap.size W w' := by
    intro W
    have h := compare_any ⟨#[97]⟩ ⟨#[97, 47, 98]⟩ W (by decide) (by decide)
    rw [show compareP (⟨#[97]⟩ : ByteArray).data.toList (⟨#[97, 47, 98]⟩ : ByteArray).data.toList = -1 from by decide] at h
    exact h.mono fun e w' ⟨a, b⟩ => ⟨a, b.below _⟩
  have c10 : ∀ W, Calls Tryd.prog 30 #[.string ⟨#[97]⟩, .string ⟨#[97, 47, 98]⟩] W fun e w' => e = .returned (.bool true) ∧ W = w' := by
    intro W
    have h := below_any ⟨#[97]⟩ ⟨#[97, 47, 98]⟩ W (by decide) (by decide)
    rw [show belowP (⟨#[97]⟩ : ByteArray).data.toList (⟨#[97, 47, 98]⟩ : ByteArray).data.toList = true from by decide] at h
    exact h
  have C1 := Lib.hid c1
  have C2 := Lib.hid c2
  have C3 := Lib.hid c3
  have C4 := Lib.hid c4
  have C5 := Lib.hid c5
  have C6 := Lib.hid c6
  have C7 := Lib.hid c7
  have C8 := Lib.hid c8
  have C9 := Lib.hid c9
  have C10 := Lib.hid c10
  have Hg := Lib.hid hg
  clear c1 c2 c3 c4 c5 c6 c7 c8 c9 c10 hg
  go_enter Tryd.func15, Tryd.ntmps15
  go_wp2_with fail
  refine (C1.out _).mono ?_
  rintro e w1 ⟨rfl, hb1⟩
  have H1 := Lib.hid (Hg.out.step hb1)
  have B1 := Lib.hid hb1
  clear hb1
  go_wp2_with fail
  refine (C2.out _ H1.out).mono ?_
  rintro e w2 ⟨rfl, hb2⟩
  have H2 := Lib.hid (H1.out.step hb2)
  have B2 := Lib.hid (below_step B1.out hb2 (Nat.le_refl _))
  clear hb2
  go_wp2_with fail
  refine (C3.out _).mono ?_
  rintro e w3 ⟨rfl, hb3⟩
  have H3 := Lib.hid (H2.out.step hb3)
  have B3 := Lib.hid (below_step B2.out hb3 (Nat.le_refl _))
  clear hb3
  go_wp2_with fail
  refine (C4.out _).mono ?_
  rintro e w4 ⟨rfl, hb4⟩
  have H4 := Lib.hid (H3.out.step hb4)
  have B4 := Lib.hid (below_step B3.out hb4 (Nat.le_refl _))
  clear hb4
  go_wp2_with fail
  refine (C5.out _).mono ?_
  rintro e w5 ⟨rfl, hb5⟩
  have H5 := Lib.hid (H4.out.step hb5)
  have B5 := Lib.hid (below_step B4.out hb5 (Nat.le_refl _))
  clear hb5
  go_wp2_with fail
  refine (C6.out _ H5.out).mono ?_
  rintro e w6 ⟨rfl, hb6⟩
  have B6 := Lib.hid (below_step B5.out hb6 (Nat.le_refl _))
  clear hb6
  go_wp2_with fail
  refine (C7.out _).mono ?_
  rintro e w7 ⟨rfl, rfl⟩
  go_wp2_with fail
  refine (C8.out _).mono ?_
  rintro e w8 ⟨rfl, hb8⟩
  have B8 := Lib.hid (below_step B6.out hb8 (Nat.le_refl _))
  clear hb8
  go_wp2_with fail
  refine (C9.out _).mono ?_
  rintro e w9 ⟨rfl, hb9⟩
  have B9 := Lib.hid (below_step B8.out hb9 (Nat.le_refl _))
  clear hb9
  go_wp2_with fail
  refine (C10.out _).mono ?_
  rintro e w10 ⟨rfl, rfl⟩
  go_wp2_with fail
  go_ret
  exact ⟨rfl, B9.out⟩
end Go.Proofs.YtknhjoikoodapaaDoor
