/- The regions of DeltaKnown that draw and lay slices. Printed by mkdk.py. -/
import Derived.Test.YtipfccfjniglbaaGreatDoorKReg
import Derived.Test.YtipfccfjniglbaaGreatDoorKHelp
set_option linter.unusedSimpArgs false
set_option linter.unusedVariables false
namespace Go.Proofs.YtipfccfjniglbaaGreatDoor
open Go.RowKit Go.Maps Go.Shelf
open Go.Lib hiding intOf size_eq
/-- the region n of a code -/
def findRegion (n : Nat) : Code → Option Code
  | .seq a b => match findRegion n a with
    | some c => some c
    | none => findRegion n b
  | .region m l d => if m = n then some (.region m l d) else none
  | _ => none
theorem slot_true {tm : Array Value} {k : Nat} {b : Bool} (h : tm[k]?.getD undef = .bool b) : tm[k]? = some (.bool b) := by
  cases e : tm[k]? with
  | none => rw [e] at h; cases h
  | some x => rw [e] at h; exact congrArg some h
theorem nil_ents' (w : World) : EntsAt w (.slice none 0 0) [] := ⟨none, 0, rfl, Nat.le_refl _, by simp, fun i e he => by cases he⟩
theorem tk1 (va vb vw : Value) (w : World) (ha : EntsAt w va [⟨⟨#[97]⟩, 1, 493, ⟨#[]⟩, ⟨#[]⟩⟩, ⟨⟨#[97, 47, 98]⟩, 1, 493, ⟨#[]⟩, ⟨#[]⟩⟩, ⟨⟨#[97, 47, 98, 47, 99]⟩, 2, 420, ⟨#[120]⟩, ⟨#[]⟩⟩]) (hb : EntsAt w vb []) (hm : ChgsAt w vw [⟨⟨#[97]⟩, true, ⟨⟨#[]⟩, 0, 0, ⟨#[]⟩, ⟨#[]⟩⟩⟩]) (hg : Handle w) : Calls Tryz.prog 33 #[va, vb, vw] w fun r w' => r = .returned (.bool true) ∧ Below w.heap.size w w' :=
  told_any va vb vw _ _ _ w ha hb hm (small_of (by decide)) (small_of (by decide)) (by kernel_rfl) (by kernel_rfl) (by kernel_rfl) (by decide) hg
theorem tk2 (va vb vw : Value) (w : World) (ha : EntsAt w va [⟨⟨#[97]⟩, 1, 493, ⟨#[]⟩, ⟨#[]⟩⟩, ⟨⟨#[97, 47, 98]⟩, 2, 420, ⟨#[120]⟩, ⟨#[]⟩⟩]) (hb : EntsAt w vb [⟨⟨#[97]⟩, 2, 420, ⟨#[120]⟩, ⟨#[]⟩⟩]) (hm : ChgsAt w vw [⟨⟨#[97]⟩, true, ⟨⟨#[]⟩, 0, 0, ⟨#[]⟩, ⟨#[]⟩⟩⟩, ⟨⟨#[97]⟩, false, ⟨⟨#[97]⟩, 2, 420, ⟨#[120]⟩, ⟨#[]⟩⟩⟩]) (hg : Handle w) : Calls Tryz.prog 33 #[va, vb, vw] w fun r w' => r = .returned (.bool true) ∧ Below w.heap.size w w' :=
  told_any va vb vw _ _ _ w ha hb hm (small_of (by decide)) (small_of (by decide)) (by kernel_rfl) (by kernel_rfl) (by kernel_rfl) (by decide) hg
theorem tk3 (va vb vw : Value) (w : World) (ha : EntsAt w va [⟨⟨#[97]⟩, 2, 420, ⟨#[120]⟩, ⟨#[]⟩⟩]) (hb : EntsAt w vb [⟨⟨#[97]⟩, 1, 493, ⟨#[]⟩, ⟨#[]⟩⟩, ⟨⟨#[97, 47, 98]⟩, 2, 420, ⟨#[120]⟩, ⟨#[]⟩⟩]) (hm : ChgsAt w vw [⟨⟨#[97]⟩, true, ⟨⟨#[]⟩, 0, 0, ⟨#[]⟩, ⟨#[]⟩⟩⟩, ⟨⟨#[97]⟩, false, ⟨⟨#[97]⟩, 1, 493, ⟨#[]⟩, ⟨#[]⟩⟩⟩, ⟨⟨#[97, 47, 98]⟩, false, ⟨⟨#[97, 47, 98]⟩, 2, 420, ⟨#[120]⟩, ⟨#[]⟩⟩⟩]) (hg : Handle w) : Calls Tryz.prog 33 #[va, vb, vw] w fun r w' => r = .returned (.bool true) ∧ Below w.heap.size w w' :=
  told_any va vb vw _ _ _ w ha hb hm (small_of (by decide)) (small_of (by decide)) (by kernel_rfl) (by kernel_rfl) (by kernel_rfl) (by decide) hg
theorem tk4 (va vb vw : Value) (w : World) (ha : EntsAt w va [⟨⟨#[97]⟩, 2, 420, ⟨#[120]⟩, ⟨#[]⟩⟩]) (hb : EntsAt w vb [⟨⟨#[97]⟩, 3, 511, ⟨#[]⟩, ⟨#[120]⟩⟩]) (hm : ChgsAt w vw [⟨⟨#[97]⟩, false, ⟨⟨#[97]⟩, 3, 511, ⟨#[]⟩, ⟨#[120]⟩⟩⟩]) (hg : Handle w) : Calls Tryz.prog 33 #[va, vb, vw] w fun r w' => r = .returned (.bool true) ∧ Below w.heap.size w w' :=
  told_any va vb vw _ _ _ w ha hb hm (small_of (by decide)) (small_of (by decide)) (by kernel_rfl) (by kernel_rfl) (by kernel_rfl) (by decide) hg
theorem tk5 (va vb vw : Value) (w : World) (ha : EntsAt w va [⟨⟨#[97]⟩, 1, 493, ⟨#[]⟩, ⟨#[]⟩⟩, ⟨⟨#[97, 47, 98]⟩, 2, 420, ⟨#[120]⟩, ⟨#[]⟩⟩]) (hb : EntsAt w vb [⟨⟨#[97]⟩, 1, 448, ⟨#[]⟩, ⟨#[]⟩⟩, ⟨⟨#[97, 47, 98]⟩, 2, 420, ⟨#[120]⟩, ⟨#[]⟩⟩]) (hm : ChgsAt w vw [⟨⟨#[97]⟩, false, ⟨⟨#[97]⟩, 1, 448, ⟨#[]⟩, ⟨#[]⟩⟩⟩]) (hg : Handle w) : Calls Tryz.prog 33 #[va, vb, vw] w fun r w' => r = .returned (.bool true) ∧ Below w.heap.size w w' :=
  told_any va vb vw _ _ _ w ha hb hm (small_of (by decide)) (small_of (by decide)) (by kernel_rfl) (by kernel_rfl) (by kernel_rfl) (by decide) hg
theorem tk6 (va vb vw : Value) (w : World) (ha : EntsAt w va [⟨⟨#[97]⟩, 1, 493, ⟨#[]⟩, ⟨#[]⟩⟩, ⟨⟨#[97, 47, 98]⟩, 2, 420, ⟨#[120]⟩, ⟨#[]⟩⟩]) (hb : EntsAt w vb [⟨⟨#[97]⟩, 1, 493, ⟨#[]⟩, ⟨#[]⟩⟩, ⟨⟨#[97, 47, 98]⟩, 2, 420, ⟨#[120]⟩, ⟨#[]⟩⟩]) (hm : ChgsAt w vw []) (hg : Handle w) : Calls Tryz.prog 33 #[va, vb, vw] w fun r w' => r = .returned (.bool true) ∧ Below w.heap.size w w' :=
  told_any va vb vw _ _ _ w ha hb hm (small_of (by decide)) (small_of (by decide)) (by kernel_rfl) (by kernel_rfl) (by kernel_rfl) (by decide) hg
theorem tk7 (va vb vw : Value) (w : World) (ha : EntsAt w va []) (hb : EntsAt w vb [⟨⟨#[97]⟩, 1, 493, ⟨#[]⟩, ⟨#[]⟩⟩, ⟨⟨#[97, 47, 98]⟩, 2, 420, ⟨#[120]⟩, ⟨#[]⟩⟩]) (hm : ChgsAt w vw [⟨⟨#[97]⟩, false, ⟨⟨#[97]⟩, 1, 493, ⟨#[]⟩, ⟨#[]⟩⟩⟩, ⟨⟨#[97, 47, 98]⟩, false, ⟨⟨#[97, 47, 98]⟩, 2, 420, ⟨#[120]⟩, ⟨#[]⟩⟩⟩]) (hg : Handle w) : Calls Tryz.prog 33 #[va, vb, vw] w fun r w' => r = .returned (.bool true) ∧ Below w.heap.size w w' :=
  told_any va vb vw _ _ _ w ha hb hm (small_of (by decide)) (small_of (by decide)) (by kernel_rfl) (by kernel_rfl) (by kernel_rfl) (by decide) hg
def kD5 : Nat → Nat
  | 0 => 25
  | 1 => 26
  | 2 => 27
  | 3 => 28
  | 4 => 29
  | 5 => 30
  | 6 => 31
  | 7 => 32
  | 8 => 33
  | 9 => 34
  | 10 => 35
  | 11 => 36
  | 12 => 37
  | 13 => 38
  | 14 => 39
  | 15 => 40
  | 16 => 41
  | 17 => 42
  | 18 => 43
  | 19 => 44
  | 20 => 45
  | 21 => 46
  | 22 => 47
  | 23 => 48
  | 24 => 49
  | 25 => 50
  | 26 => 51
  | 27 => 52
  | 28 => 53
  | 29 => 54
  | 30 => 55
  | 31 => 56
  | 32 => 57
  | 33 => 5
  | _ => 0
def kT5 (b1 b2 b3 b4 : Nat) : Nat → KV
  | 0 => .lit (.agg #[.string ⟨#[97]⟩, .int .i64 1, .int .i64 493, .string ⟨#[]⟩, .string ⟨#[]⟩])
  | 1 => .lit (.agg #[.string ⟨#[97, 47, 98]⟩, .int .i64 1, .int .i64 493, .string ⟨#[]⟩, .string ⟨#[]⟩])
  | 2 => .lit (.agg #[.string ⟨#[97, 47, 98, 47, 99]⟩, .int .i64 2, .int .i64 420, .string ⟨#[120]⟩, .string ⟨#[]⟩])
  | 3 => .ents [⟨⟨#[97]⟩, 1, 493, ⟨#[]⟩, ⟨#[]⟩⟩, ⟨⟨#[97, 47, 98]⟩, 1, 493, ⟨#[]⟩, ⟨#[]⟩⟩, ⟨⟨#[97, 47, 98, 47, 99]⟩, 2, 420, ⟨#[120]⟩, ⟨#[]⟩⟩]
  | 4 => .lit (.agg #[.string ⟨#[97]⟩, .bool true, .string ⟨#[]⟩, .int .i64 0, .int .i64 0, .string ⟨#[]⟩, .string ⟨#[]⟩])
  | 5 => .chgs [⟨⟨#[97]⟩, true, ⟨⟨#[]⟩, 0, 0, ⟨#[]⟩, ⟨#[]⟩⟩⟩]
  | 6 => .lit (.bool true)
  | 7 => .lit (.bool true)
  | 8 => .lit (.slice (some ⟨b1, 0, none⟩) 2 2)
  | 9 => .lit (.slice (some ⟨b2, 0, none⟩) 1 1)
  | 10 => .lit (.agg #[.string ⟨#[97]⟩, .bool true, .string ⟨#[]⟩, .int .i64 0, .int .i64 0, .string ⟨#[]⟩, .string ⟨#[]⟩])
  | 11 => .lit (.slice (some ⟨b2, 0, none⟩) 1 1)
  | 12 => .lit (.pointer (some ⟨b2, 0, none⟩))
  | 13 => .lit (.agg #[.string ⟨#[97]⟩, .int .i64 2, .int .i64 420, .string ⟨#[120]⟩, .string ⟨#[]⟩])
  | 14 => .lit (.agg #[.string ⟨#[97]⟩, .bool false, .string ⟨#[97]⟩, .int .i64 2, .int .i64 420, .string ⟨#[120]⟩, .string ⟨#[]⟩])
  | 15 => .chgs [⟨⟨#[97]⟩, true, ⟨⟨#[]⟩, 0, 0, ⟨#[]⟩, ⟨#[]⟩⟩⟩, ⟨⟨#[97]⟩, false, ⟨⟨#[97]⟩, 2, 420, ⟨#[120]⟩, ⟨#[]⟩⟩⟩]
  | 16 => .lit (.bool true)
  | 17 => .lit (.bool true)
  | 18 => .lit (.bool true)
  | 19 => .lit (.slice (some ⟨b2, 0, none⟩) 1 1)
  | 20 => .lit (.slice (some ⟨b1, 0, none⟩) 2 2)
  | 21 => .lit (.agg #[.string ⟨#[97]⟩, .bool true, .string ⟨#[]⟩, .int .i64 0, .int .i64 0, .string ⟨#[]⟩, .string ⟨#[]⟩])
  | 22 => .lit (.slice (some ⟨b1, 0, none⟩) 2 2)
  | 23 => .lit (.pointer (some ⟨b1, 0, none⟩))
  | 24 => .lit (.agg #[.string ⟨#[97]⟩, .int .i64 1, .int .i64 493, .string ⟨#[]⟩, .string ⟨#[]⟩])
  | 25 => .lit (.agg #[.string ⟨#[97]⟩, .bool false, .string ⟨#[97]⟩, .int .i64 1, .int .i64 493, .string ⟨#[]⟩, .string ⟨#[]⟩])
  | 26 => .lit (.slice (some ⟨b1, 0, none⟩) 2 2)
  | 27 => .lit (.pointer (some ⟨b1, 5, none⟩))
  | 28 => .lit (.agg #[.string ⟨#[97, 47, 98]⟩, .int .i64 2, .int .i64 420, .string ⟨#[120]⟩, .string ⟨#[]⟩])
  | 29 => .lit (.agg #[.string ⟨#[97, 47, 98]⟩, .bool false, .string ⟨#[97, 47, 98]⟩, .int .i64 2, .int .i64 420, .string ⟨#[120]⟩, .string ⟨#[]⟩])
  | 30 => .chgs [⟨⟨#[97]⟩, true, ⟨⟨#[]⟩, 0, 0, ⟨#[]⟩, ⟨#[]⟩⟩⟩, ⟨⟨#[97]⟩, false, ⟨⟨#[97]⟩, 1, 493, ⟨#[]⟩, ⟨#[]⟩⟩⟩, ⟨⟨#[97, 47, 98]⟩, false, ⟨⟨#[97, 47, 98]⟩, 2, 420, ⟨#[120]⟩, ⟨#[]⟩⟩⟩]
  | 31 => .lit (.bool true)
  | 32 => .lit (.bool true)
  | 33 => .lit (.bool true)
  | _ => .lit undef
noncomputable def rg5 : Code := ((Tryz.f9.body.bind (findRegion 5)).getD .skip)
set_option maxRecDepth 100000 in
set_option maxHeartbeats 8000000 in
theorem rg5_any (w : World) (b1 b2 b3 b4 : Nat) (a0 : Act) (Q : Exit → Act → World → Prop) (kz : a0.tmps.size = 260) (k0 : a0.tmps[0]?.getD undef = .bool false) (k1 : a0.tmps[1]?.getD undef = .slice (some ⟨b1, 0, none⟩) 2 2) (k2 : a0.tmps[2]?.getD undef = .slice (some ⟨b2, 0, none⟩) 1 1) (k3 : a0.tmps[3]?.getD undef = .pointer (some ⟨b3, 0, none⟩)) (k4 : a0.tmps[4]?.getD undef = .pointer (some ⟨b4, 0, none⟩)) (hb1 : w.heap[b1]? = some (.cells #[.string ⟨#[97]⟩, .int .i64 1, .int .i64 493, .string ⟨#[]⟩, .string ⟨#[]⟩, .string ⟨#[97, 47, 98]⟩, .int .i64 2, .int .i64 420, .string ⟨#[120]⟩, .string ⟨#[]⟩] 52 (0, 0))) (hb2 : w.heap[b2]? = some (.cells #[.string ⟨#[97]⟩, .int .i64 2, .int .i64 420, .string ⟨#[120]⟩, .string ⟨#[]⟩] 52 (0, 0))) (hb3 : w.heap[b3]? = some (.cells #[.string ⟨#[97]⟩, .int .i64 3, .int .i64 511, .string ⟨#[]⟩, .string ⟨#[120]⟩] 52 (0, 0))) (hb4 : w.heap[b4]? = some (.cells #[.string ⟨#[97]⟩, .int .i64 1, .int .i64 448, .string ⟨#[]⟩, .string ⟨#[]⟩] 52 (0, 0))) (hg0 : Handle w)
    (hQ : ∀ a w', a.defers = a0.defers → a.tmps.size = 260 → a.tmps[0]?.getD undef = .bool false → a.tmps[1]?.getD undef = .slice (some ⟨b1, 0, none⟩) 2 2 → a.tmps[2]?.getD undef = .slice (some ⟨b2, 0, none⟩) 1 1 → a.tmps[3]?.getD undef = .pointer (some ⟨b3, 0, none⟩) → a.tmps[4]?.getD undef = .pointer (some ⟨b4, 0, none⟩) → a.tmps[5]?.getD undef = .bool true → Below w.heap.size w w' → Q .normal a w') : Code.wp Tryz.prog rg5 Q a0 w := by
  have Kb1 := Lib.hid (show w.drew.heap[b1]? = some (.cells #[.string ⟨#[97]⟩, .int .i64 1, .int .i64 493, .string ⟨#[]⟩, .string ⟨#[]⟩, .string ⟨#[97, 47, 98]⟩, .int .i64 2, .int .i64 420, .string ⟨#[120]⟩, .string ⟨#[]⟩] 52 (0, 0)) from hb1)
  have Eb1 := Lib.hid (ents_block (L := [⟨⟨#[97]⟩, 1, 493, ⟨#[]⟩, ⟨#[]⟩⟩, ⟨⟨#[97, 47, 98]⟩, 2, 420, ⟨#[120]⟩, ⟨#[]⟩⟩]) 2 Kb1.out rfl rfl (by decide))
  have Kb2 := Lib.hid (show w.drew.heap[b2]? = some (.cells #[.string ⟨#[97]⟩, .int .i64 2, .int .i64 420, .string ⟨#[120]⟩, .string ⟨#[]⟩] 52 (0, 0)) from hb2)
  have Eb2 := Lib.hid (ents_block (L := [⟨⟨#[97]⟩, 2, 420, ⟨#[120]⟩, ⟨#[]⟩⟩]) 1 Kb2.out rfl rfl (by decide))
  have Kb3 := Lib.hid (show w.drew.heap[b3]? = some (.cells #[.string ⟨#[97]⟩, .int .i64 3, .int .i64 511, .string ⟨#[]⟩, .string ⟨#[120]⟩] 52 (0, 0)) from hb3)
  have Eb3 := Lib.hid (ents_block (L := [⟨⟨#[97]⟩, 3, 511, ⟨#[]⟩, ⟨#[120]⟩⟩]) 1 Kb3.out rfl rfl (by decide))
  have Kb4 := Lib.hid (show w.drew.heap[b4]? = some (.cells #[.string ⟨#[97]⟩, .int .i64 1, .int .i64 448, .string ⟨#[]⟩, .string ⟨#[]⟩] 52 (0, 0)) from hb4)
  have Eb4 := Lib.hid (ents_block (L := [⟨⟨#[97]⟩, 1, 448, ⟨#[]⟩, ⟨#[]⟩⟩]) 1 Kb4.out rfl rfl (by decide))
  have hg : Handle w.drew := hg0.below (below_drew (Below.refl _ _)) (Nat.le_refl _)
  have HQ := Lib.hid hQ
  clear hQ hg0 hb1 hb2 hb3 hb4
  conv => arg 2; whnf
  refine region_inv (VInv w.drew a0 (fun k => decide (k < 5)) 34 kD5 (kT5 b1 b2 b3 b4)) (by kernel_rfl) (by kernel_rfl) (fun f hf => VInv.start fun i hi => hf i hi) ?_ ?_
  · intro i o f a w' ho hI hfi hdue
    match i, ho, hfi, hdue with
    | 0, ho, hfi, hdue =>
      have ho2 := Option.some.inj ho
      subst ho2
      refine wpOp_list rfl ?_
      go_wp2_with fail
      refine (dirD ⟨#[97]⟩ _).mono ?_
      rintro r w2 ⟨rfl, hb⟩
      have HB := Lib.hid hb
      clear hb
      go_wp2_with fail
      exact hI.step (i := 0) _ (by decide) (by decide) rfl (by rw [kz]; decide) rfl HB.out
    | 1, ho, hfi, hdue =>
      have ho2 := Option.some.inj ho
      subst ho2
      refine wpOp_list rfl ?_
      go_wp2_with fail
      refine (dirD ⟨#[97, 47, 98]⟩ _).mono ?_
      rintro r w2 ⟨rfl, hb⟩
      have HB := Lib.hid hb
      clear hb
      go_wp2_with fail
      exact hI.step (i := 1) _ (by decide) (by decide) rfl (by rw [kz]; decide) rfl HB.out
    | 2, ho, hfi, hdue =>
      have ho2 := Option.some.inj ho
      subst ho2
      refine wpOp_list rfl ?_
      go_wp2_with fail
      refine (fileD ⟨#[97, 47, 98, 47, 99]⟩ ⟨#[120]⟩ _).mono ?_
      rintro r w2 ⟨rfl, hb⟩
      have HB := Lib.hid hb
      clear hb
      go_wp2_with fail
      exact hI.step (i := 2) _ (by decide) (by decide) rfl (by rw [kz]; decide) rfl HB.out
    | 3, ho, hfi, hdue =>
      have ho2 := Option.some.inj ho
      subst ho2
      have h25 : a.tmps[25]?.getD undef = .agg #[.string ⟨#[97]⟩, .int .i64 1, .int .i64 493, .string ⟨#[]⟩, .string ⟨#[]⟩] := hI.pv 0 (by decide) (due_on hdue 0 rfl)
      have h26 : a.tmps[26]?.getD undef = .agg #[.string ⟨#[97, 47, 98]⟩, .int .i64 1, .int .i64 493, .string ⟨#[]⟩, .string ⟨#[]⟩] := hI.pv 1 (by decide) (due_on hdue 1 rfl)
      have h27 : a.tmps[27]?.getD undef = .agg #[.string ⟨#[97, 47, 98, 47, 99]⟩, .int .i64 2, .int .i64 420, .string ⟨#[120]⟩, .string ⟨#[]⟩] := hI.pv 2 (by decide) (due_on hdue 2 rfl)
      refine wpOp_list rfl ?_
      go_wp2_with fail
      exact hI.step (i := 3) _ (by decide) (by decide) rfl (by rw [kz]; decide) (ents_block 3 (World.alloc_heap_new _ _) rfl rfl (by decide)) ((Below.refl _ _).alloc (Nat.le_refl _) _)
    | 4, ho, hfi, hdue =>
      have ho2 := Option.some.inj ho
      subst ho2
      refine wpOp_list rfl ?_
      go_wp2_with fail
      refine (goneD ⟨#[97]⟩ _).mono ?_
      rintro r w2 ⟨rfl, hb⟩
      have HB := Lib.hid hb
      clear hb
      go_wp2_with fail
      exact hI.step (i := 4) _ (by decide) (by decide) rfl (by rw [kz]; decide) rfl HB.out
    | 5, ho, hfi, hdue =>
      have ho2 := Option.some.inj ho
      subst ho2
      have h29 : a.tmps[29]?.getD undef = .agg #[.string ⟨#[97]⟩, .bool true, .string ⟨#[]⟩, .int .i64 0, .int .i64 0, .string ⟨#[]⟩, .string ⟨#[]⟩] := hI.pv 4 (by decide) (due_on hdue 4 rfl)
      refine wpOp_list rfl ?_
      go_wp2_with fail
      exact hI.step (i := 5) _ (by decide) (by decide) rfl (by rw [kz]; decide) (chgs_block 1 (World.alloc_heap_new _ _) rfl rfl (by decide)) ((Below.refl _ _).alloc (Nat.le_refl _) _)
    | 6, ho, hfi, hdue =>
      have ho2 := Option.some.inj ho
      subst ho2
      obtain ⟨v28, h28⟩ : ∃ v, a.tmps[28]?.getD undef = v := ⟨_, rfl⟩
      have e28 : EntsAt w' v28 [⟨⟨#[97]⟩, 1, 493, ⟨#[]⟩, ⟨#[]⟩⟩, ⟨⟨#[97, 47, 98]⟩, 1, 493, ⟨#[]⟩, ⟨#[]⟩⟩, ⟨⟨#[97, 47, 98, 47, 99]⟩, 2, 420, ⟨#[120]⟩, ⟨#[]⟩⟩] := by rw [← h28]; exact hI.pv 3 (by decide) (due_on hdue 3 rfl)
      obtain ⟨v30, h30⟩ : ∃ v, a.tmps[30]?.getD undef = v := ⟨_, rfl⟩
      have e30 : ChgsAt w' v30 [⟨⟨#[97]⟩, true, ⟨⟨#[]⟩, 0, 0, ⟨#[]⟩, ⟨#[]⟩⟩⟩] := by rw [← h30]; exact hI.pv 5 (by decide) (due_on hdue 5 rfl)
      have hc := tk1 (v28) (.slice none 0 0) (v30) w' (e28) (nil_ents' _) (e30) (hg.below hI.bel (Nat.le_refl _))
      have HC := Lib.hid hc
      clear hc e28 e30
      refine wpOp_list rfl ?_
      go_wp2_with fail
      refine HC.out.mono ?_
      rintro r w2 ⟨rfl, hb⟩
      have HB := Lib.hid hb
      clear hb
      go_wp2_with fail
      exact hI.step (i := 6) _ (by decide) (by decide) rfl (by rw [kz]; decide) rfl HB.out
    | 7, ho, hfi, hdue =>
      have ho2 := Option.some.inj ho
      subst ho2
      have h31 : a.tmps[31]?.getD undef = .bool true := hI.pv 6 (by decide) (due_on hdue 6 rfl)
      refine wpOp_list rfl ?_
      go_wp2_with fail
      exact hI.step (i := 7) _ (by decide) (by decide) rfl (by rw [kz]; decide) rfl (Below.refl _ _)
    | 8, ho, hfi, hdue =>
      have ho2 := Option.some.inj ho
      subst ho2
      have h32 : a.tmps[32]?.getD undef = .bool true := hI.pv 7 (by decide) (due_on hdue 7 rfl)
      have g32 := slot_true h32
      have h1 : a.tmps[1]?.getD undef = .slice (some ⟨b1, 0, none⟩) 2 2 := (hI.kept 1 rfl).trans k1
      refine wpOp_list rfl ?_
      go_wp2_with fail
      exact hI.step (i := 8) _ (by decide) (by decide) rfl (by rw [kz]; decide) rfl (Below.refl _ _)
    | 9, ho, hfi, hdue =>
      have ho2 := Option.some.inj ho
      subst ho2
      have h32 : a.tmps[32]?.getD undef = .bool true := hI.pv 7 (by decide) (due_on hdue 7 rfl)
      have g32 := slot_true h32
      have h2 : a.tmps[2]?.getD undef = .slice (some ⟨b2, 0, none⟩) 1 1 := (hI.kept 2 rfl).trans k2
      refine wpOp_list rfl ?_
      go_wp2_with fail
      exact hI.step (i := 9) _ (by decide) (by decide) rfl (by rw [kz]; decide) rfl (Below.refl _ _)
    | 10, ho, hfi, hdue =>
      have ho2 := Option.some.inj ho
      subst ho2
      have h32 : a.tmps[32]?.getD undef = .bool true := hI.pv 7 (by decide) (due_on hdue 7 rfl)
      have g32 := slot_true h32
      refine wpOp_list rfl ?_
      go_wp2_with fail
      refine (goneD ⟨#[97]⟩ _).mono ?_
      rintro r w2 ⟨rfl, hb⟩
      have HB := Lib.hid hb
      clear hb
      go_wp2_with fail
      exact hI.step (i := 10) _ (by decide) (by decide) rfl (by rw [kz]; decide) rfl HB.out
    | 11, ho, hfi, hdue =>
      have ho2 := Option.some.inj ho
      subst ho2
      have h32 : a.tmps[32]?.getD undef = .bool true := hI.pv 7 (by decide) (due_on hdue 7 rfl)
      have g32 := slot_true h32
      have h2 : a.tmps[2]?.getD undef = .slice (some ⟨b2, 0, none⟩) 1 1 := (hI.kept 2 rfl).trans k2
      refine wpOp_list rfl ?_
      go_wp2_with fail
      exact hI.step (i := 11) _ (by decide) (by decide) rfl (by rw [kz]; decide) rfl (Below.refl _ _)
    | 12, ho, hfi, hdue =>
      have ho2 := Option.some.inj ho
      subst ho2
      have h32 : a.tmps[32]?.getD undef = .bool true := hI.pv 7 (by decide) (due_on hdue 7 rfl)
      have g32 := slot_true h32
      have h36 : a.tmps[36]?.getD undef = .slice (some ⟨b2, 0, none⟩) 1 1 := hI.pv 11 (by decide) (due_on hdue 11 rfl)
      refine wpOp_list rfl ?_
      go_wp2_with fail
      exact hI.step (i := 12) _ (by decide) (by decide) rfl (by rw [kz]; decide) rfl (Below.refl _ _)
    | 13, ho, hfi, hdue =>
      have ho2 := Option.some.inj ho
      subst ho2
      have h32 : a.tmps[32]?.getD undef = .bool true := hI.pv 7 (by decide) (due_on hdue 7 rfl)
      have g32 := slot_true h32
      have h37 : a.tmps[37]?.getD undef = .pointer (some ⟨b2, 0, none⟩) := hI.pv 12 (by decide) (due_on hdue 12 rfl)
      have hO := (hI.bel.block b2 (heap_lt Kb2.out)).trans Kb2.out
      have c0 := block_cell (j := 0) hO rfl
      have c1 := block_cell (j := 1) hO rfl
      have c2 := block_cell (j := 2) hO rfl
      have c3 := block_cell (j := 3) hO rfl
      have c4 := block_cell (j := 4) hO rfl
      clear hO
      refine wpOp_list rfl ?_
      go_wp2_with fail
      exact hI.step (i := 13) _ (by decide) (by decide) rfl (by rw [kz]; decide) rfl (Below.refl _ _)
    | 14, ho, hfi, hdue =>
      have ho2 := Option.some.inj ho
      subst ho2
      have h32 : a.tmps[32]?.getD undef = .bool true := hI.pv 7 (by decide) (due_on hdue 7 rfl)
      have g32 := slot_true h32
      have h38 : a.tmps[38]?.getD undef = .agg #[.string ⟨#[97]⟩, .int .i64 2, .int .i64 420, .string ⟨#[120]⟩, .string ⟨#[]⟩] := hI.pv 13 (by decide) (due_on hdue 13 rfl)
      refine wpOp_list rfl ?_
      go_wp2_with fail
      refine (laidD ⟨⟨#[97]⟩, 2, 420, ⟨#[120]⟩, ⟨#[]⟩⟩ _).mono ?_
      rintro r w2 ⟨rfl, hb⟩
      have HB := Lib.hid hb
      clear hb
      go_wp2_with fail
      exact hI.step (i := 14) _ (by decide) (by decide) rfl (by rw [kz]; decide) rfl HB.out
    | 15, ho, hfi, hdue =>
      have ho2 := Option.some.inj ho
      subst ho2
      have h32 : a.tmps[32]?.getD undef = .bool true := hI.pv 7 (by decide) (due_on hdue 7 rfl)
      have g32 := slot_true h32
      have h35 : a.tmps[35]?.getD undef = .agg #[.string ⟨#[97]⟩, .bool true, .string ⟨#[]⟩, .int .i64 0, .int .i64 0, .string ⟨#[]⟩, .string ⟨#[]⟩] := hI.pv 10 (by decide) (due_on hdue 10 rfl)
      have h39 : a.tmps[39]?.getD undef = .agg #[.string ⟨#[97]⟩, .bool false, .string ⟨#[97]⟩, .int .i64 2, .int .i64 420, .string ⟨#[120]⟩, .string ⟨#[]⟩] := hI.pv 14 (by decide) (due_on hdue 14 rfl)
      refine wpOp_list rfl ?_
      go_wp2_with fail
      exact hI.step (i := 15) _ (by decide) (by decide) rfl (by rw [kz]; decide) (chgs_block 2 (World.alloc_heap_new _ _) rfl rfl (by decide)) ((Below.refl _ _).alloc (Nat.le_refl _) _)
    | 16, ho, hfi, hdue =>
      have ho2 := Option.some.inj ho
      subst ho2
      have h32 : a.tmps[32]?.getD undef = .bool true := hI.pv 7 (by decide) (due_on hdue 7 rfl)
      have g32 := slot_true h32
      have h33 : a.tmps[33]?.getD undef = .slice (some ⟨b1, 0, none⟩) 2 2 := hI.pv 8 (by decide) (due_on hdue 8 rfl)
      have h34 : a.tmps[34]?.getD undef = .slice (some ⟨b2, 0, none⟩) 1 1 := hI.pv 9 (by decide) (due_on hdue 9 rfl)
      obtain ⟨v40, h40⟩ : ∃ v, a.tmps[40]?.getD undef = v := ⟨_, rfl⟩
      have e40 : ChgsAt w' v40 [⟨⟨#[97]⟩, true, ⟨⟨#[]⟩, 0, 0, ⟨#[]⟩, ⟨#[]⟩⟩⟩, ⟨⟨#[97]⟩, false, ⟨⟨#[97]⟩, 2, 420, ⟨#[120]⟩, ⟨#[]⟩⟩⟩] := by rw [← h40]; exact hI.pv 15 (by decide) (due_on hdue 15 rfl)
      have hc := tk2 (.slice (some ⟨b1, 0, none⟩) 2 2) (.slice (some ⟨b2, 0, none⟩) 1 1) (v40) w' (Eb1.out.below hI.bel (Nat.le_refl _)) (Eb2.out.below hI.bel (Nat.le_refl _)) (e40) (hg.below hI.bel (Nat.le_refl _))
      have HC := Lib.hid hc
      clear hc e40
      refine wpOp_list rfl ?_
      go_wp2_with fail
      refine HC.out.mono ?_
      rintro r w2 ⟨rfl, hb⟩
      have HB := Lib.hid hb
      clear hb
      go_wp2_with fail
      exact hI.step (i := 16) _ (by decide) (by decide) rfl (by rw [kz]; decide) rfl HB.out
    | 17, ho, hfi, hdue =>
      have ho2 := Option.some.inj ho
      subst ho2
      have h32 : a.tmps[32]?.getD undef = .bool true := hI.pv 7 (by decide) (due_on hdue 7 rfl)
      have h41 : a.tmps[41]?.getD undef = .bool true := hI.pv 16 (by decide) (due_on hdue 16 rfl)
      refine wpOp_list rfl ?_
      go_wp2_with fail
      exact hI.step (i := 17) _ (by decide) (by decide) rfl (by rw [kz]; decide) rfl (Below.refl _ _)
    | 18, ho, hfi, hdue =>
      have ho2 := Option.some.inj ho
      subst ho2
      have h42 : a.tmps[42]?.getD undef = .bool true := hI.pv 17 (by decide) (due_on hdue 17 rfl)
      refine wpOp_list rfl ?_
      go_wp2_with fail
      exact hI.step (i := 18) _ (by decide) (by decide) rfl (by rw [kz]; decide) rfl (Below.refl _ _)
    | 19, ho, hfi, hdue =>
      have ho2 := Option.some.inj ho
      subst ho2
      have h43 : a.tmps[43]?.getD undef = .bool true := hI.pv 18 (by decide) (due_on hdue 18 rfl)
      have g43 := slot_true h43
      have h2 : a.tmps[2]?.getD undef = .slice (some ⟨b2, 0, none⟩) 1 1 := (hI.kept 2 rfl).trans k2
      refine wpOp_list rfl ?_
      go_wp2_with fail
      exact hI.step (i := 19) _ (by decide) (by decide) rfl (by rw [kz]; decide) rfl (Below.refl _ _)
    | 20, ho, hfi, hdue =>
      have ho2 := Option.some.inj ho
      subst ho2
      have h43 : a.tmps[43]?.getD undef = .bool true := hI.pv 18 (by decide) (due_on hdue 18 rfl)
      have g43 := slot_true h43
      have h1 : a.tmps[1]?.getD undef = .slice (some ⟨b1, 0, none⟩) 2 2 := (hI.kept 1 rfl).trans k1
      refine wpOp_list rfl ?_
      go_wp2_with fail
      exact hI.step (i := 20) _ (by decide) (by decide) rfl (by rw [kz]; decide) rfl (Below.refl _ _)
    | 21, ho, hfi, hdue =>
      have ho2 := Option.some.inj ho
      subst ho2
      have h43 : a.tmps[43]?.getD undef = .bool true := hI.pv 18 (by decide) (due_on hdue 18 rfl)
      have g43 := slot_true h43
      refine wpOp_list rfl ?_
      go_wp2_with fail
      refine (goneD ⟨#[97]⟩ _).mono ?_
      rintro r w2 ⟨rfl, hb⟩
      have HB := Lib.hid hb
      clear hb
      go_wp2_with fail
      exact hI.step (i := 21) _ (by decide) (by decide) rfl (by rw [kz]; decide) rfl HB.out
    | 22, ho, hfi, hdue =>
      have ho2 := Option.some.inj ho
      subst ho2
      have h43 : a.tmps[43]?.getD undef = .bool true := hI.pv 18 (by decide) (due_on hdue 18 rfl)
      have g43 := slot_true h43
      have h1 : a.tmps[1]?.getD undef = .slice (some ⟨b1, 0, none⟩) 2 2 := (hI.kept 1 rfl).trans k1
      refine wpOp_list rfl ?_
      go_wp2_with fail
      exact hI.step (i := 22) _ (by decide) (by decide) rfl (by rw [kz]; decide) rfl (Below.refl _ _)
    | 23, ho, hfi, hdue =>
      have ho2 := Option.some.inj ho
      subst ho2
      have h43 : a.tmps[43]?.getD undef = .bool true := hI.pv 18 (by decide) (due_on hdue 18 rfl)
      have g43 := slot_true h43
      have h47 : a.tmps[47]?.getD undef = .slice (some ⟨b1, 0, none⟩) 2 2 := hI.pv 22 (by decide) (due_on hdue 22 rfl)
      refine wpOp_list rfl ?_
      go_wp2_with fail
      exact hI.step (i := 23) _ (by decide) (by decide) rfl (by rw [kz]; decide) rfl (Below.refl _ _)
    | 24, ho, hfi, hdue =>
      have ho2 := Option.some.inj ho
      subst ho2
      have h43 : a.tmps[43]?.getD undef = .bool true := hI.pv 18 (by decide) (due_on hdue 18 rfl)
      have g43 := slot_true h43
      have h48 : a.tmps[48]?.getD undef = .pointer (some ⟨b1, 0, none⟩) := hI.pv 23 (by decide) (due_on hdue 23 rfl)
      have hO := (hI.bel.block b1 (heap_lt Kb1.out)).trans Kb1.out
      have c0 := block_cell (j := 0) hO rfl
      have c1 := block_cell (j := 1) hO rfl
      have c2 := block_cell (j := 2) hO rfl
      have c3 := block_cell (j := 3) hO rfl
      have c4 := block_cell (j := 4) hO rfl
      clear hO
      refine wpOp_list rfl ?_
      go_wp2_with fail
      exact hI.step (i := 24) _ (by decide) (by decide) rfl (by rw [kz]; decide) rfl (Below.refl _ _)
    | 25, ho, hfi, hdue =>
      have ho2 := Option.some.inj ho
      subst ho2
      have h43 : a.tmps[43]?.getD undef = .bool true := hI.pv 18 (by decide) (due_on hdue 18 rfl)
      have g43 := slot_true h43
      have h49 : a.tmps[49]?.getD undef = .agg #[.string ⟨#[97]⟩, .int .i64 1, .int .i64 493, .string ⟨#[]⟩, .string ⟨#[]⟩] := hI.pv 24 (by decide) (due_on hdue 24 rfl)
      refine wpOp_list rfl ?_
      go_wp2_with fail
      refine (laidD ⟨⟨#[97]⟩, 1, 493, ⟨#[]⟩, ⟨#[]⟩⟩ _).mono ?_
      rintro r w2 ⟨rfl, hb⟩
      have HB := Lib.hid hb
      clear hb
      go_wp2_with fail
      exact hI.step (i := 25) _ (by decide) (by decide) rfl (by rw [kz]; decide) rfl HB.out
    | 26, ho, hfi, hdue =>
      have ho2 := Option.some.inj ho
      subst ho2
      have h43 : a.tmps[43]?.getD undef = .bool true := hI.pv 18 (by decide) (due_on hdue 18 rfl)
      have g43 := slot_true h43
      have h1 : a.tmps[1]?.getD undef = .slice (some ⟨b1, 0, none⟩) 2 2 := (hI.kept 1 rfl).trans k1
      refine wpOp_list rfl ?_
      go_wp2_with fail
      exact hI.step (i := 26) _ (by decide) (by decide) rfl (by rw [kz]; decide) rfl (Below.refl _ _)
    | 27, ho, hfi, hdue =>
      have ho2 := Option.some.inj ho
      subst ho2
      have h43 : a.tmps[43]?.getD undef = .bool true := hI.pv 18 (by decide) (due_on hdue 18 rfl)
      have g43 := slot_true h43
      have h51 : a.tmps[51]?.getD undef = .slice (some ⟨b1, 0, none⟩) 2 2 := hI.pv 26 (by decide) (due_on hdue 26 rfl)
      refine wpOp_list rfl ?_
      go_wp2_with fail
      exact hI.step (i := 27) _ (by decide) (by decide) rfl (by rw [kz]; decide) rfl (Below.refl _ _)
    | 28, ho, hfi, hdue =>
      have ho2 := Option.some.inj ho
      subst ho2
      have h43 : a.tmps[43]?.getD undef = .bool true := hI.pv 18 (by decide) (due_on hdue 18 rfl)
      have g43 := slot_true h43
      have h52 : a.tmps[52]?.getD undef = .pointer (some ⟨b1, 5, none⟩) := hI.pv 27 (by decide) (due_on hdue 27 rfl)
      have hO := (hI.bel.block b1 (heap_lt Kb1.out)).trans Kb1.out
      have c0 := block_cell (j := 5) hO rfl
      have c1 := block_cell (j := 6) hO rfl
      have c2 := block_cell (j := 7) hO rfl
      have c3 := block_cell (j := 8) hO rfl
      have c4 := block_cell (j := 9) hO rfl
      clear hO
      refine wpOp_list rfl ?_
      go_wp2_with fail
      exact hI.step (i := 28) _ (by decide) (by decide) rfl (by rw [kz]; decide) rfl (Below.refl _ _)
    | 29, ho, hfi, hdue =>
      have ho2 := Option.some.inj ho
      subst ho2
      have h43 : a.tmps[43]?.getD undef = .bool true := hI.pv 18 (by decide) (due_on hdue 18 rfl)
      have g43 := slot_true h43
      have h53 : a.tmps[53]?.getD undef = .agg #[.string ⟨#[97, 47, 98]⟩, .int .i64 2, .int .i64 420, .string ⟨#[120]⟩, .string ⟨#[]⟩] := hI.pv 28 (by decide) (due_on hdue 28 rfl)
      refine wpOp_list rfl ?_
      go_wp2_with fail
      refine (laidD ⟨⟨#[97, 47, 98]⟩, 2, 420, ⟨#[120]⟩, ⟨#[]⟩⟩ _).mono ?_
      rintro r w2 ⟨rfl, hb⟩
      have HB := Lib.hid hb
      clear hb
      go_wp2_with fail
      exact hI.step (i := 29) _ (by decide) (by decide) rfl (by rw [kz]; decide) rfl HB.out
    | 30, ho, hfi, hdue =>
      have ho2 := Option.some.inj ho
      subst ho2
      have h43 : a.tmps[43]?.getD undef = .bool true := hI.pv 18 (by decide) (due_on hdue 18 rfl)
      have g43 := slot_true h43
      have h46 : a.tmps[46]?.getD undef = .agg #[.string ⟨#[97]⟩, .bool true, .string ⟨#[]⟩, .int .i64 0, .int .i64 0, .string ⟨#[]⟩, .string ⟨#[]⟩] := hI.pv 21 (by decide) (due_on hdue 21 rfl)
      have h50 : a.tmps[50]?.getD undef = .agg #[.string ⟨#[97]⟩, .bool false, .string ⟨#[97]⟩, .int .i64 1, .int .i64 493, .string ⟨#[]⟩, .string ⟨#[]⟩] := hI.pv 25 (by decide) (due_on hdue 25 rfl)
      have h54 : a.tmps[54]?.getD undef = .agg #[.string ⟨#[97, 47, 98]⟩, .bool false, .string ⟨#[97, 47, 98]⟩, .int .i64 2, .int .i64 420, .string ⟨#[120]⟩, .string ⟨#[]⟩] := hI.pv 29 (by decide) (due_on hdue 29 rfl)
      refine wpOp_list rfl ?_
      go_wp2_with fail
      exact hI.step (i := 30) _ (by decide) (by decide) rfl (by rw [kz]; decide) (chgs_block 3 (World.alloc_heap_new _ _) rfl rfl (by decide)) ((Below.refl _ _).alloc (Nat.le_refl _) _)
    | 31, ho, hfi, hdue =>
      have ho2 := Option.some.inj ho
      subst ho2
      have h43 : a.tmps[43]?.getD undef = .bool true := hI.pv 18 (by decide) (due_on hdue 18 rfl)
      have g43 := slot_true h43
      have h44 : a.tmps[44]?.getD undef = .slice (some ⟨b2, 0, none⟩) 1 1 := hI.pv 19 (by decide) (due_on hdue 19 rfl)
      have h45 : a.tmps[45]?.getD undef = .slice (some ⟨b1, 0, none⟩) 2 2 := hI.pv 20 (by decide) (due_on hdue 20 rfl)
      obtain ⟨v55, h55⟩ : ∃ v, a.tmps[55]?.getD undef = v := ⟨_, rfl⟩
      have e55 : ChgsAt w' v55 [⟨⟨#[97]⟩, true, ⟨⟨#[]⟩, 0, 0, ⟨#[]⟩, ⟨#[]⟩⟩⟩, ⟨⟨#[97]⟩, false, ⟨⟨#[97]⟩, 1, 493, ⟨#[]⟩, ⟨#[]⟩⟩⟩, ⟨⟨#[97, 47, 98]⟩, false, ⟨⟨#[97, 47, 98]⟩, 2, 420, ⟨#[120]⟩, ⟨#[]⟩⟩⟩] := by rw [← h55]; exact hI.pv 30 (by decide) (due_on hdue 30 rfl)
      have hc := tk3 (.slice (some ⟨b2, 0, none⟩) 1 1) (.slice (some ⟨b1, 0, none⟩) 2 2) (v55) w' (Eb2.out.below hI.bel (Nat.le_refl _)) (Eb1.out.below hI.bel (Nat.le_refl _)) (e55) (hg.below hI.bel (Nat.le_refl _))
      have HC := Lib.hid hc
      clear hc e55
      refine wpOp_list rfl ?_
      go_wp2_with fail
      refine HC.out.mono ?_
      rintro r w2 ⟨rfl, hb⟩
      have HB := Lib.hid hb
      clear hb
      go_wp2_with fail
      exact hI.step (i := 31) _ (by decide) (by decide) rfl (by rw [kz]; decide) rfl HB.out
    | 32, ho, hfi, hdue =>
      have ho2 := Option.some.inj ho
      subst ho2
      have h43 : a.tmps[43]?.getD undef = .bool true := hI.pv 18 (by decide) (due_on hdue 18 rfl)
      have h56 : a.tmps[56]?.getD undef = .bool true := hI.pv 31 (by decide) (due_on hdue 31 rfl)
      refine wpOp_list rfl ?_
      go_wp2_with fail
      exact hI.step (i := 32) _ (by decide) (by decide) rfl (by rw [kz]; decide) rfl (Below.refl _ _)
    | 33, ho, hfi, hdue =>
      have ho2 := Option.some.inj ho
      subst ho2
      have h57 : a.tmps[57]?.getD undef = .bool true := hI.pv 32 (by decide) (due_on hdue 32 rfl)
      refine wpOp_list rfl ?_
      go_wp2_with fail
      exact hI.step (i := 33) _ (by decide) (by decide) rfl (by rw [kz]; decide) rfl (Below.refl _ _)
    | i + 34, ho, hfi, hdue => cases ho
  · intro f a w' hI hall
    exact HQ.out a w' hI.defers (hI.size.trans kz) ((hI.kept 0 rfl).trans k0) ((hI.kept 1 rfl).trans k1) ((hI.kept 2 rfl).trans k2) ((hI.kept 3 rfl).trans k3) ((hI.kept 4 rfl).trans k4) (hI.pv 33 (by decide) (hall 33 (by decide))) ((below_drew (Below.refl _ _) : Below w.heap.size w w.drew).trans hI.bel)
def kD6 : Nat → Nat
  | 0 => 58
  | 1 => 59
  | 2 => 60
  | 3 => 61
  | 4 => 62
  | 5 => 63
  | 6 => 64
  | 7 => 65
  | 8 => 66
  | 9 => 67
  | 10 => 68
  | 11 => 69
  | 12 => 70
  | 13 => 71
  | 14 => 72
  | 15 => 73
  | 16 => 74
  | 17 => 75
  | 18 => 76
  | 19 => 77
  | 20 => 78
  | 21 => 79
  | 22 => 80
  | 23 => 81
  | 24 => 82
  | 25 => 83
  | 26 => 84
  | 27 => 85
  | 28 => 86
  | 29 => 87
  | 30 => 88
  | 31 => 89
  | 32 => 90
  | 33 => 91
  | 34 => 92
  | 35 => 93
  | 36 => 94
  | 37 => 6
  | _ => 0
def kT6 (b1 b2 b3 b4 : Nat) : Nat → KV
  | 0 => .lit (.slice (some ⟨b2, 0, none⟩) 1 1)
  | 1 => .lit (.agg #[.string ⟨#[97]⟩, .int .i64 3, .int .i64 511, .string ⟨#[]⟩, .string ⟨#[120]⟩])
  | 2 => .ents [⟨⟨#[97]⟩, 3, 511, ⟨#[]⟩, ⟨#[120]⟩⟩]
  | 3 => .lit (.agg #[.string ⟨#[97]⟩, .int .i64 3, .int .i64 511, .string ⟨#[]⟩, .string ⟨#[120]⟩])
  | 4 => .lit (.agg #[.string ⟨#[97]⟩, .bool false, .string ⟨#[97]⟩, .int .i64 3, .int .i64 511, .string ⟨#[]⟩, .string ⟨#[120]⟩])
  | 5 => .chgs [⟨⟨#[97]⟩, false, ⟨⟨#[97]⟩, 3, 511, ⟨#[]⟩, ⟨#[120]⟩⟩⟩]
  | 6 => .lit (.bool true)
  | 7 => .lit (.bool true)
  | 8 => .lit (.slice (some ⟨b1, 0, none⟩) 2 2)
  | 9 => .lit (.agg #[.string ⟨#[97]⟩, .int .i64 1, .int .i64 448, .string ⟨#[]⟩, .string ⟨#[]⟩])
  | 10 => .lit (.slice (some ⟨b1, 0, none⟩) 2 2)
  | 11 => .lit (.pointer (some ⟨b1, 5, none⟩))
  | 12 => .lit (.agg #[.string ⟨#[97, 47, 98]⟩, .int .i64 2, .int .i64 420, .string ⟨#[120]⟩, .string ⟨#[]⟩])
  | 13 => .ents [⟨⟨#[97]⟩, 1, 448, ⟨#[]⟩, ⟨#[]⟩⟩, ⟨⟨#[97, 47, 98]⟩, 2, 420, ⟨#[120]⟩, ⟨#[]⟩⟩]
  | 14 => .lit (.agg #[.string ⟨#[97]⟩, .int .i64 1, .int .i64 448, .string ⟨#[]⟩, .string ⟨#[]⟩])
  | 15 => .lit (.agg #[.string ⟨#[97]⟩, .bool false, .string ⟨#[97]⟩, .int .i64 1, .int .i64 448, .string ⟨#[]⟩, .string ⟨#[]⟩])
  | 16 => .chgs [⟨⟨#[97]⟩, false, ⟨⟨#[97]⟩, 1, 448, ⟨#[]⟩, ⟨#[]⟩⟩⟩]
  | 17 => .lit (.bool true)
  | 18 => .lit (.bool true)
  | 19 => .lit (.bool true)
  | 20 => .lit (.slice (some ⟨b1, 0, none⟩) 2 2)
  | 21 => .lit (.slice (some ⟨b1, 0, none⟩) 2 2)
  | 22 => .lit (.bool true)
  | 23 => .lit (.bool true)
  | 24 => .lit (.bool true)
  | 25 => .lit (.slice (some ⟨b1, 0, none⟩) 2 2)
  | 26 => .lit (.slice (some ⟨b1, 0, none⟩) 2 2)
  | 27 => .lit (.pointer (some ⟨b1, 0, none⟩))
  | 28 => .lit (.agg #[.string ⟨#[97]⟩, .int .i64 1, .int .i64 493, .string ⟨#[]⟩, .string ⟨#[]⟩])
  | 29 => .lit (.agg #[.string ⟨#[97]⟩, .bool false, .string ⟨#[97]⟩, .int .i64 1, .int .i64 493, .string ⟨#[]⟩, .string ⟨#[]⟩])
  | 30 => .lit (.slice (some ⟨b1, 0, none⟩) 2 2)
  | 31 => .lit (.pointer (some ⟨b1, 5, none⟩))
  | 32 => .lit (.agg #[.string ⟨#[97, 47, 98]⟩, .int .i64 2, .int .i64 420, .string ⟨#[120]⟩, .string ⟨#[]⟩])
  | 33 => .lit (.agg #[.string ⟨#[97, 47, 98]⟩, .bool false, .string ⟨#[97, 47, 98]⟩, .int .i64 2, .int .i64 420, .string ⟨#[120]⟩, .string ⟨#[]⟩])
  | 34 => .chgs [⟨⟨#[97]⟩, false, ⟨⟨#[97]⟩, 1, 493, ⟨#[]⟩, ⟨#[]⟩⟩⟩, ⟨⟨#[97, 47, 98]⟩, false, ⟨⟨#[97, 47, 98]⟩, 2, 420, ⟨#[120]⟩, ⟨#[]⟩⟩⟩]
  | 35 => .lit (.bool true)
  | 36 => .lit (.bool true)
  | 37 => .lit (.bool true)
  | _ => .lit undef
noncomputable def rg6 : Code := ((Tryz.f9.body.bind (findRegion 6)).getD .skip)
set_option maxRecDepth 100000 in
set_option maxHeartbeats 8000000 in
theorem rg6_any (w : World) (b1 b2 b3 b4 : Nat) (a0 : Act) (Q : Exit → Act → World → Prop) (kz : a0.tmps.size = 260) (k0 : a0.tmps[0]?.getD undef = .bool false) (k1 : a0.tmps[1]?.getD undef = .slice (some ⟨b1, 0, none⟩) 2 2) (k2 : a0.tmps[2]?.getD undef = .slice (some ⟨b2, 0, none⟩) 1 1) (k3 : a0.tmps[3]?.getD undef = .pointer (some ⟨b3, 0, none⟩)) (k4 : a0.tmps[4]?.getD undef = .pointer (some ⟨b4, 0, none⟩)) (k5 : a0.tmps[5]?.getD undef = .bool true) (hb1 : w.heap[b1]? = some (.cells #[.string ⟨#[97]⟩, .int .i64 1, .int .i64 493, .string ⟨#[]⟩, .string ⟨#[]⟩, .string ⟨#[97, 47, 98]⟩, .int .i64 2, .int .i64 420, .string ⟨#[120]⟩, .string ⟨#[]⟩] 52 (0, 0))) (hb2 : w.heap[b2]? = some (.cells #[.string ⟨#[97]⟩, .int .i64 2, .int .i64 420, .string ⟨#[120]⟩, .string ⟨#[]⟩] 52 (0, 0))) (hb3 : w.heap[b3]? = some (.cells #[.string ⟨#[97]⟩, .int .i64 3, .int .i64 511, .string ⟨#[]⟩, .string ⟨#[120]⟩] 52 (0, 0))) (hb4 : w.heap[b4]? = some (.cells #[.string ⟨#[97]⟩, .int .i64 1, .int .i64 448, .string ⟨#[]⟩, .string ⟨#[]⟩] 52 (0, 0))) (hg0 : Handle w)
    (hQ : ∀ a w', a.defers = a0.defers → a.tmps.size = 260 → a.tmps[0]?.getD undef = .bool false → a.tmps[1]?.getD undef = .slice (some ⟨b1, 0, none⟩) 2 2 → a.tmps[2]?.getD undef = .slice (some ⟨b2, 0, none⟩) 1 1 → a.tmps[3]?.getD undef = .pointer (some ⟨b3, 0, none⟩) → a.tmps[4]?.getD undef = .pointer (some ⟨b4, 0, none⟩) → a.tmps[5]?.getD undef = .bool true → a.tmps[6]?.getD undef = .bool true → Below w.heap.size w w' → Q .normal a w') : Code.wp Tryz.prog rg6 Q a0 w := by
  have Kb1 := Lib.hid (show w.drew.heap[b1]? = some (.cells #[.string ⟨#[97]⟩, .int .i64 1, .int .i64 493, .string ⟨#[]⟩, .string ⟨#[]⟩, .string ⟨#[97, 47, 98]⟩, .int .i64 2, .int .i64 420, .string ⟨#[120]⟩, .string ⟨#[]⟩] 52 (0, 0)) from hb1)
  have Eb1 := Lib.hid (ents_block (L := [⟨⟨#[97]⟩, 1, 493, ⟨#[]⟩, ⟨#[]⟩⟩, ⟨⟨#[97, 47, 98]⟩, 2, 420, ⟨#[120]⟩, ⟨#[]⟩⟩]) 2 Kb1.out rfl rfl (by decide))
  have Kb2 := Lib.hid (show w.drew.heap[b2]? = some (.cells #[.string ⟨#[97]⟩, .int .i64 2, .int .i64 420, .string ⟨#[120]⟩, .string ⟨#[]⟩] 52 (0, 0)) from hb2)
  have Eb2 := Lib.hid (ents_block (L := [⟨⟨#[97]⟩, 2, 420, ⟨#[120]⟩, ⟨#[]⟩⟩]) 1 Kb2.out rfl rfl (by decide))
  have Kb3 := Lib.hid (show w.drew.heap[b3]? = some (.cells #[.string ⟨#[97]⟩, .int .i64 3, .int .i64 511, .string ⟨#[]⟩, .string ⟨#[120]⟩] 52 (0, 0)) from hb3)
  have Eb3 := Lib.hid (ents_block (L := [⟨⟨#[97]⟩, 3, 511, ⟨#[]⟩, ⟨#[120]⟩⟩]) 1 Kb3.out rfl rfl (by decide))
  have Kb4 := Lib.hid (show w.drew.heap[b4]? = some (.cells #[.string ⟨#[97]⟩, .int .i64 1, .int .i64 448, .string ⟨#[]⟩, .string ⟨#[]⟩] 52 (0, 0)) from hb4)
  have Eb4 := Lib.hid (ents_block (L := [⟨⟨#[97]⟩, 1, 448, ⟨#[]⟩, ⟨#[]⟩⟩]) 1 Kb4.out rfl rfl (by decide))
  have hg : Handle w.drew := hg0.below (below_drew (Below.refl _ _)) (Nat.le_refl _)
  have HQ := Lib.hid hQ
  clear hQ hg0 hb1 hb2 hb3 hb4
  conv => arg 2; whnf
  refine region_inv (VInv w.drew a0 (fun k => decide (k < 6)) 38 kD6 (kT6 b1 b2 b3 b4)) (by kernel_rfl) (by kernel_rfl) (fun f hf => VInv.start fun i hi => hf i hi) ?_ ?_
  · intro i o f a w' ho hI hfi hdue
    match i, ho, hfi, hdue with
    | 0, ho, hfi, hdue =>
      have ho2 := Option.some.inj ho
      subst ho2
      have h2 : a.tmps[2]?.getD undef = .slice (some ⟨b2, 0, none⟩) 1 1 := (hI.kept 2 rfl).trans k2
      refine wpOp_list rfl ?_
      go_wp2_with fail
      exact hI.step (i := 0) _ (by decide) (by decide) rfl (by rw [kz]; decide) rfl (Below.refl _ _)
    | 1, ho, hfi, hdue =>
      have ho2 := Option.some.inj ho
      subst ho2
      have h3 : a.tmps[3]?.getD undef = .pointer (some ⟨b3, 0, none⟩) := (hI.kept 3 rfl).trans k3
      have hO := (hI.bel.block b3 (heap_lt Kb3.out)).trans Kb3.out
      have c0 := block_cell (j := 0) hO rfl
      have c1 := block_cell (j := 1) hO rfl
      have c2 := block_cell (j := 2) hO rfl
      have c3 := block_cell (j := 3) hO rfl
      have c4 := block_cell (j := 4) hO rfl
      clear hO
      refine wpOp_list rfl ?_
      go_wp2_with fail
      exact hI.step (i := 1) _ (by decide) (by decide) rfl (by rw [kz]; decide) rfl (Below.refl _ _)
    | 2, ho, hfi, hdue =>
      have ho2 := Option.some.inj ho
      subst ho2
      have h59 : a.tmps[59]?.getD undef = .agg #[.string ⟨#[97]⟩, .int .i64 3, .int .i64 511, .string ⟨#[]⟩, .string ⟨#[120]⟩] := hI.pv 1 (by decide) (due_on hdue 1 rfl)
      refine wpOp_list rfl ?_
      go_wp2_with fail
      exact hI.step (i := 2) _ (by decide) (by decide) rfl (by rw [kz]; decide) (ents_block 1 (World.alloc_heap_new _ _) rfl rfl (by decide)) ((Below.refl _ _).alloc (Nat.le_refl _) _)
    | 3, ho, hfi, hdue =>
      have ho2 := Option.some.inj ho
      subst ho2
      have h3 : a.tmps[3]?.getD undef = .pointer (some ⟨b3, 0, none⟩) := (hI.kept 3 rfl).trans k3
      have hO := (hI.bel.block b3 (heap_lt Kb3.out)).trans Kb3.out
      have c0 := block_cell (j := 0) hO rfl
      have c1 := block_cell (j := 1) hO rfl
      have c2 := block_cell (j := 2) hO rfl
      have c3 := block_cell (j := 3) hO rfl
      have c4 := block_cell (j := 4) hO rfl
      clear hO
      refine wpOp_list rfl ?_
      go_wp2_with fail
      exact hI.step (i := 3) _ (by decide) (by decide) rfl (by rw [kz]; decide) rfl (Below.refl _ _)
    | 4, ho, hfi, hdue =>
      have ho2 := Option.some.inj ho
      subst ho2
      have h61 : a.tmps[61]?.getD undef = .agg #[.string ⟨#[97]⟩, .int .i64 3, .int .i64 511, .string ⟨#[]⟩, .string ⟨#[120]⟩] := hI.pv 3 (by decide) (due_on hdue 3 rfl)
      refine wpOp_list rfl ?_
      go_wp2_with fail
      refine (laidD ⟨⟨#[97]⟩, 3, 511, ⟨#[]⟩, ⟨#[120]⟩⟩ _).mono ?_
      rintro r w2 ⟨rfl, hb⟩
      have HB := Lib.hid hb
      clear hb
      go_wp2_with fail
      exact hI.step (i := 4) _ (by decide) (by decide) rfl (by rw [kz]; decide) rfl HB.out
    | 5, ho, hfi, hdue =>
      have ho2 := Option.some.inj ho
      subst ho2
      have h62 : a.tmps[62]?.getD undef = .agg #[.string ⟨#[97]⟩, .bool false, .string ⟨#[97]⟩, .int .i64 3, .int .i64 511, .string ⟨#[]⟩, .string ⟨#[120]⟩] := hI.pv 4 (by decide) (due_on hdue 4 rfl)
      refine wpOp_list rfl ?_
      go_wp2_with fail
      exact hI.step (i := 5) _ (by decide) (by decide) rfl (by rw [kz]; decide) (chgs_block 1 (World.alloc_heap_new _ _) rfl rfl (by decide)) ((Below.refl _ _).alloc (Nat.le_refl _) _)
    | 6, ho, hfi, hdue =>
      have ho2 := Option.some.inj ho
      subst ho2
      have h58 : a.tmps[58]?.getD undef = .slice (some ⟨b2, 0, none⟩) 1 1 := hI.pv 0 (by decide) (due_on hdue 0 rfl)
      obtain ⟨v60, h60⟩ : ∃ v, a.tmps[60]?.getD undef = v := ⟨_, rfl⟩
      have e60 : EntsAt w' v60 [⟨⟨#[97]⟩, 3, 511, ⟨#[]⟩, ⟨#[120]⟩⟩] := by rw [← h60]; exact hI.pv 2 (by decide) (due_on hdue 2 rfl)
      obtain ⟨v63, h63⟩ : ∃ v, a.tmps[63]?.getD undef = v := ⟨_, rfl⟩
      have e63 : ChgsAt w' v63 [⟨⟨#[97]⟩, false, ⟨⟨#[97]⟩, 3, 511, ⟨#[]⟩, ⟨#[120]⟩⟩⟩] := by rw [← h63]; exact hI.pv 5 (by decide) (due_on hdue 5 rfl)
      have hc := tk4 (.slice (some ⟨b2, 0, none⟩) 1 1) (v60) (v63) w' (Eb2.out.below hI.bel (Nat.le_refl _)) (e60) (e63) (hg.below hI.bel (Nat.le_refl _))
      have HC := Lib.hid hc
      clear hc e60 e63
      refine wpOp_list rfl ?_
      go_wp2_with fail
      refine HC.out.mono ?_
      rintro r w2 ⟨rfl, hb⟩
      have HB := Lib.hid hb
      clear hb
      go_wp2_with fail
      exact hI.step (i := 6) _ (by decide) (by decide) rfl (by rw [kz]; decide) rfl HB.out
    | 7, ho, hfi, hdue =>
      have ho2 := Option.some.inj ho
      subst ho2
      have h64 : a.tmps[64]?.getD undef = .bool true := hI.pv 6 (by decide) (due_on hdue 6 rfl)
      refine wpOp_list rfl ?_
      go_wp2_with fail
      exact hI.step (i := 7) _ (by decide) (by decide) rfl (by rw [kz]; decide) rfl (Below.refl _ _)
    | 8, ho, hfi, hdue =>
      have ho2 := Option.some.inj ho
      subst ho2
      have h65 : a.tmps[65]?.getD undef = .bool true := hI.pv 7 (by decide) (due_on hdue 7 rfl)
      have g65 := slot_true h65
      have h1 : a.tmps[1]?.getD undef = .slice (some ⟨b1, 0, none⟩) 2 2 := (hI.kept 1 rfl).trans k1
      refine wpOp_list rfl ?_
      go_wp2_with fail
      exact hI.step (i := 8) _ (by decide) (by decide) rfl (by rw [kz]; decide) rfl (Below.refl _ _)
    | 9, ho, hfi, hdue =>
      have ho2 := Option.some.inj ho
      subst ho2
      have h65 : a.tmps[65]?.getD undef = .bool true := hI.pv 7 (by decide) (due_on hdue 7 rfl)
      have g65 := slot_true h65
      have h4 : a.tmps[4]?.getD undef = .pointer (some ⟨b4, 0, none⟩) := (hI.kept 4 rfl).trans k4
      have hO := (hI.bel.block b4 (heap_lt Kb4.out)).trans Kb4.out
      have c0 := block_cell (j := 0) hO rfl
      have c1 := block_cell (j := 1) hO rfl
      have c2 := block_cell (j := 2) hO rfl
      have c3 := block_cell (j := 3) hO rfl
      have c4 := block_cell (j := 4) hO rfl
      clear hO
      refine wpOp_list rfl ?_
      go_wp2_with fail
      exact hI.step (i := 9) _ (by decide) (by decide) rfl (by rw [kz]; decide) rfl (Below.refl _ _)
    | 10, ho, hfi, hdue =>
      have ho2 := Option.some.inj ho
      subst ho2
      have h65 : a.tmps[65]?.getD undef = .bool true := hI.pv 7 (by decide) (due_on hdue 7 rfl)
      have g65 := slot_true h65
      have h1 : a.tmps[1]?.getD undef = .slice (some ⟨b1, 0, none⟩) 2 2 := (hI.kept 1 rfl).trans k1
      refine wpOp_list rfl ?_
      go_wp2_with fail
      exact hI.step (i := 10) _ (by decide) (by decide) rfl (by rw [kz]; decide) rfl (Below.refl _ _)
    | 11, ho, hfi, hdue =>
      have ho2 := Option.some.inj ho
      subst ho2
      have h65 : a.tmps[65]?.getD undef = .bool true := hI.pv 7 (by decide) (due_on hdue 7 rfl)
      have g65 := slot_true h65
      have h68 : a.tmps[68]?.getD undef = .slice (some ⟨b1, 0, none⟩) 2 2 := hI.pv 10 (by decide) (due_on hdue 10 rfl)
      refine wpOp_list rfl ?_
      go_wp2_with fail
      exact hI.step (i := 11) _ (by decide) (by decide) rfl (by rw [kz]; decide) rfl (Below.refl _ _)
    | 12, ho, hfi, hdue =>
      have ho2 := Option.some.inj ho
      subst ho2
      have h65 : a.tmps[65]?.getD undef = .bool true := hI.pv 7 (by decide) (due_on hdue 7 rfl)
      have g65 := slot_true h65
      have h69 : a.tmps[69]?.getD undef = .pointer (some ⟨b1, 5, none⟩) := hI.pv 11 (by decide) (due_on hdue 11 rfl)
      have hO := (hI.bel.block b1 (heap_lt Kb1.out)).trans Kb1.out
      have c0 := block_cell (j := 5) hO rfl
      have c1 := block_cell (j := 6) hO rfl
      have c2 := block_cell (j := 7) hO rfl
      have c3 := block_cell (j := 8) hO rfl
      have c4 := block_cell (j := 9) hO rfl
      clear hO
      refine wpOp_list rfl ?_
      go_wp2_with fail
      exact hI.step (i := 12) _ (by decide) (by decide) rfl (by rw [kz]; decide) rfl (Below.refl _ _)
    | 13, ho, hfi, hdue =>
      have ho2 := Option.some.inj ho
      subst ho2
      have h65 : a.tmps[65]?.getD undef = .bool true := hI.pv 7 (by decide) (due_on hdue 7 rfl)
      have g65 := slot_true h65
      have h67 : a.tmps[67]?.getD undef = .agg #[.string ⟨#[97]⟩, .int .i64 1, .int .i64 448, .string ⟨#[]⟩, .string ⟨#[]⟩] := hI.pv 9 (by decide) (due_on hdue 9 rfl)
      have h70 : a.tmps[70]?.getD undef = .agg #[.string ⟨#[97, 47, 98]⟩, .int .i64 2, .int .i64 420, .string ⟨#[120]⟩, .string ⟨#[]⟩] := hI.pv 12 (by decide) (due_on hdue 12 rfl)
      refine wpOp_list rfl ?_
      go_wp2_with fail
      exact hI.step (i := 13) _ (by decide) (by decide) rfl (by rw [kz]; decide) (ents_block 2 (World.alloc_heap_new _ _) rfl rfl (by decide)) ((Below.refl _ _).alloc (Nat.le_refl _) _)
    | 14, ho, hfi, hdue =>
      have ho2 := Option.some.inj ho
      subst ho2
      have h65 : a.tmps[65]?.getD undef = .bool true := hI.pv 7 (by decide) (due_on hdue 7 rfl)
      have g65 := slot_true h65
      have h4 : a.tmps[4]?.getD undef = .pointer (some ⟨b4, 0, none⟩) := (hI.kept 4 rfl).trans k4
      have hO := (hI.bel.block b4 (heap_lt Kb4.out)).trans Kb4.out
      have c0 := block_cell (j := 0) hO rfl
      have c1 := block_cell (j := 1) hO rfl
      have c2 := block_cell (j := 2) hO rfl
      have c3 := block_cell (j := 3) hO rfl
      have c4 := block_cell (j := 4) hO rfl
      clear hO
      refine wpOp_list rfl ?_
      go_wp2_with fail
      exact hI.step (i := 14) _ (by decide) (by decide) rfl (by rw [kz]; decide) rfl (Below.refl _ _)
    | 15, ho, hfi, hdue =>
      have ho2 := Option.some.inj ho
      subst ho2
      have h65 : a.tmps[65]?.getD undef = .bool true := hI.pv 7 (by decide) (due_on hdue 7 rfl)
      have g65 := slot_true h65
      have h72 : a.tmps[72]?.getD undef = .agg #[.string ⟨#[97]⟩, .int .i64 1, .int .i64 448, .string ⟨#[]⟩, .string ⟨#[]⟩] := hI.pv 14 (by decide) (due_on hdue 14 rfl)
      refine wpOp_list rfl ?_
      go_wp2_with fail
      refine (laidD ⟨⟨#[97]⟩, 1, 448, ⟨#[]⟩, ⟨#[]⟩⟩ _).mono ?_
      rintro r w2 ⟨rfl, hb⟩
      have HB := Lib.hid hb
      clear hb
      go_wp2_with fail
      exact hI.step (i := 15) _ (by decide) (by decide) rfl (by rw [kz]; decide) rfl HB.out
    | 16, ho, hfi, hdue =>
      have ho2 := Option.some.inj ho
      subst ho2
      have h65 : a.tmps[65]?.getD undef = .bool true := hI.pv 7 (by decide) (due_on hdue 7 rfl)
      have g65 := slot_true h65
      have h73 : a.tmps[73]?.getD undef = .agg #[.string ⟨#[97]⟩, .bool false, .string ⟨#[97]⟩, .int .i64 1, .int .i64 448, .string ⟨#[]⟩, .string ⟨#[]⟩] := hI.pv 15 (by decide) (due_on hdue 15 rfl)
      refine wpOp_list rfl ?_
      go_wp2_with fail
      exact hI.step (i := 16) _ (by decide) (by decide) rfl (by rw [kz]; decide) (chgs_block 1 (World.alloc_heap_new _ _) rfl rfl (by decide)) ((Below.refl _ _).alloc (Nat.le_refl _) _)
    | 17, ho, hfi, hdue =>
      have ho2 := Option.some.inj ho
      subst ho2
      have h65 : a.tmps[65]?.getD undef = .bool true := hI.pv 7 (by decide) (due_on hdue 7 rfl)
      have g65 := slot_true h65
      have h66 : a.tmps[66]?.getD undef = .slice (some ⟨b1, 0, none⟩) 2 2 := hI.pv 8 (by decide) (due_on hdue 8 rfl)
      obtain ⟨v71, h71⟩ : ∃ v, a.tmps[71]?.getD undef = v := ⟨_, rfl⟩
      have e71 : EntsAt w' v71 [⟨⟨#[97]⟩, 1, 448, ⟨#[]⟩, ⟨#[]⟩⟩, ⟨⟨#[97, 47, 98]⟩, 2, 420, ⟨#[120]⟩, ⟨#[]⟩⟩] := by rw [← h71]; exact hI.pv 13 (by decide) (due_on hdue 13 rfl)
      obtain ⟨v74, h74⟩ : ∃ v, a.tmps[74]?.getD undef = v := ⟨_, rfl⟩
      have e74 : ChgsAt w' v74 [⟨⟨#[97]⟩, false, ⟨⟨#[97]⟩, 1, 448, ⟨#[]⟩, ⟨#[]⟩⟩⟩] := by rw [← h74]; exact hI.pv 16 (by decide) (due_on hdue 16 rfl)
      have hc := tk5 (.slice (some ⟨b1, 0, none⟩) 2 2) (v71) (v74) w' (Eb1.out.below hI.bel (Nat.le_refl _)) (e71) (e74) (hg.below hI.bel (Nat.le_refl _))
      have HC := Lib.hid hc
      clear hc e71 e74
      refine wpOp_list rfl ?_
      go_wp2_with fail
      refine HC.out.mono ?_
      rintro r w2 ⟨rfl, hb⟩
      have HB := Lib.hid hb
      clear hb
      go_wp2_with fail
      exact hI.step (i := 17) _ (by decide) (by decide) rfl (by rw [kz]; decide) rfl HB.out
    | 18, ho, hfi, hdue =>
      have ho2 := Option.some.inj ho
      subst ho2
      have h65 : a.tmps[65]?.getD undef = .bool true := hI.pv 7 (by decide) (due_on hdue 7 rfl)
      have h75 : a.tmps[75]?.getD undef = .bool true := hI.pv 17 (by decide) (due_on hdue 17 rfl)
      refine wpOp_list rfl ?_
      go_wp2_with fail
      exact hI.step (i := 18) _ (by decide) (by decide) rfl (by rw [kz]; decide) rfl (Below.refl _ _)
    | 19, ho, hfi, hdue =>
      have ho2 := Option.some.inj ho
      subst ho2
      have h76 : a.tmps[76]?.getD undef = .bool true := hI.pv 18 (by decide) (due_on hdue 18 rfl)
      refine wpOp_list rfl ?_
      go_wp2_with fail
      exact hI.step (i := 19) _ (by decide) (by decide) rfl (by rw [kz]; decide) rfl (Below.refl _ _)
    | 20, ho, hfi, hdue =>
      have ho2 := Option.some.inj ho
      subst ho2
      have h77 : a.tmps[77]?.getD undef = .bool true := hI.pv 19 (by decide) (due_on hdue 19 rfl)
      have g77 := slot_true h77
      have h1 : a.tmps[1]?.getD undef = .slice (some ⟨b1, 0, none⟩) 2 2 := (hI.kept 1 rfl).trans k1
      refine wpOp_list rfl ?_
      go_wp2_with fail
      exact hI.step (i := 20) _ (by decide) (by decide) rfl (by rw [kz]; decide) rfl (Below.refl _ _)
    | 21, ho, hfi, hdue =>
      have ho2 := Option.some.inj ho
      subst ho2
      have h77 : a.tmps[77]?.getD undef = .bool true := hI.pv 19 (by decide) (due_on hdue 19 rfl)
      have g77 := slot_true h77
      have h1 : a.tmps[1]?.getD undef = .slice (some ⟨b1, 0, none⟩) 2 2 := (hI.kept 1 rfl).trans k1
      refine wpOp_list rfl ?_
      go_wp2_with fail
      exact hI.step (i := 21) _ (by decide) (by decide) rfl (by rw [kz]; decide) rfl (Below.refl _ _)
    | 22, ho, hfi, hdue =>
      have ho2 := Option.some.inj ho
      subst ho2
      have h77 : a.tmps[77]?.getD undef = .bool true := hI.pv 19 (by decide) (due_on hdue 19 rfl)
      have g77 := slot_true h77
      have h78 : a.tmps[78]?.getD undef = .slice (some ⟨b1, 0, none⟩) 2 2 := hI.pv 20 (by decide) (due_on hdue 20 rfl)
      have h79 : a.tmps[79]?.getD undef = .slice (some ⟨b1, 0, none⟩) 2 2 := hI.pv 21 (by decide) (due_on hdue 21 rfl)
      have hc := tk6 (.slice (some ⟨b1, 0, none⟩) 2 2) (.slice (some ⟨b1, 0, none⟩) 2 2) (.slice none 0 0) w' (Eb1.out.below hI.bel (Nat.le_refl _)) (Eb1.out.below hI.bel (Nat.le_refl _)) (ItemsAt.nil _) (hg.below hI.bel (Nat.le_refl _))
      have HC := Lib.hid hc
      clear hc 
      refine wpOp_list rfl ?_
      go_wp2_with fail
      refine HC.out.mono ?_
      rintro r w2 ⟨rfl, hb⟩
      have HB := Lib.hid hb
      clear hb
      go_wp2_with fail
      exact hI.step (i := 22) _ (by decide) (by decide) rfl (by rw [kz]; decide) rfl HB.out
    | 23, ho, hfi, hdue =>
      have ho2 := Option.some.inj ho
      subst ho2
      have h77 : a.tmps[77]?.getD undef = .bool true := hI.pv 19 (by decide) (due_on hdue 19 rfl)
      have h80 : a.tmps[80]?.getD undef = .bool true := hI.pv 22 (by decide) (due_on hdue 22 rfl)
      refine wpOp_list rfl ?_
      go_wp2_with fail
      exact hI.step (i := 23) _ (by decide) (by decide) rfl (by rw [kz]; decide) rfl (Below.refl _ _)
    | 24, ho, hfi, hdue =>
      have ho2 := Option.some.inj ho
      subst ho2
      have h81 : a.tmps[81]?.getD undef = .bool true := hI.pv 23 (by decide) (due_on hdue 23 rfl)
      refine wpOp_list rfl ?_
      go_wp2_with fail
      exact hI.step (i := 24) _ (by decide) (by decide) rfl (by rw [kz]; decide) rfl (Below.refl _ _)
    | 25, ho, hfi, hdue =>
      have ho2 := Option.some.inj ho
      subst ho2
      have h82 : a.tmps[82]?.getD undef = .bool true := hI.pv 24 (by decide) (due_on hdue 24 rfl)
      have g82 := slot_true h82
      have h1 : a.tmps[1]?.getD undef = .slice (some ⟨b1, 0, none⟩) 2 2 := (hI.kept 1 rfl).trans k1
      refine wpOp_list rfl ?_
      go_wp2_with fail
      exact hI.step (i := 25) _ (by decide) (by decide) rfl (by rw [kz]; decide) rfl (Below.refl _ _)
    | 26, ho, hfi, hdue =>
      have ho2 := Option.some.inj ho
      subst ho2
      have h82 : a.tmps[82]?.getD undef = .bool true := hI.pv 24 (by decide) (due_on hdue 24 rfl)
      have g82 := slot_true h82
      have h1 : a.tmps[1]?.getD undef = .slice (some ⟨b1, 0, none⟩) 2 2 := (hI.kept 1 rfl).trans k1
      refine wpOp_list rfl ?_
      go_wp2_with fail
      exact hI.step (i := 26) _ (by decide) (by decide) rfl (by rw [kz]; decide) rfl (Below.refl _ _)
    | 27, ho, hfi, hdue =>
      have ho2 := Option.some.inj ho
      subst ho2
      have h82 : a.tmps[82]?.getD undef = .bool true := hI.pv 24 (by decide) (due_on hdue 24 rfl)
      have g82 := slot_true h82
      have h84 : a.tmps[84]?.getD undef = .slice (some ⟨b1, 0, none⟩) 2 2 := hI.pv 26 (by decide) (due_on hdue 26 rfl)
      refine wpOp_list rfl ?_
      go_wp2_with fail
      exact hI.step (i := 27) _ (by decide) (by decide) rfl (by rw [kz]; decide) rfl (Below.refl _ _)
    | 28, ho, hfi, hdue =>
      have ho2 := Option.some.inj ho
      subst ho2
      have h82 : a.tmps[82]?.getD undef = .bool true := hI.pv 24 (by decide) (due_on hdue 24 rfl)
      have g82 := slot_true h82
      have h85 : a.tmps[85]?.getD undef = .pointer (some ⟨b1, 0, none⟩) := hI.pv 27 (by decide) (due_on hdue 27 rfl)
      have hO := (hI.bel.block b1 (heap_lt Kb1.out)).trans Kb1.out
      have c0 := block_cell (j := 0) hO rfl
      have c1 := block_cell (j := 1) hO rfl
      have c2 := block_cell (j := 2) hO rfl
      have c3 := block_cell (j := 3) hO rfl
      have c4 := block_cell (j := 4) hO rfl
      clear hO
      refine wpOp_list rfl ?_
      go_wp2_with fail
      exact hI.step (i := 28) _ (by decide) (by decide) rfl (by rw [kz]; decide) rfl (Below.refl _ _)
    | 29, ho, hfi, hdue =>
      have ho2 := Option.some.inj ho
      subst ho2
      have h82 : a.tmps[82]?.getD undef = .bool true := hI.pv 24 (by decide) (due_on hdue 24 rfl)
      have g82 := slot_true h82
      have h86 : a.tmps[86]?.getD undef = .agg #[.string ⟨#[97]⟩, .int .i64 1, .int .i64 493, .string ⟨#[]⟩, .string ⟨#[]⟩] := hI.pv 28 (by decide) (due_on hdue 28 rfl)
      refine wpOp_list rfl ?_
      go_wp2_with fail
      refine (laidD ⟨⟨#[97]⟩, 1, 493, ⟨#[]⟩, ⟨#[]⟩⟩ _).mono ?_
      rintro r w2 ⟨rfl, hb⟩
      have HB := Lib.hid hb
      clear hb
      go_wp2_with fail
      exact hI.step (i := 29) _ (by decide) (by decide) rfl (by rw [kz]; decide) rfl HB.out
    | 30, ho, hfi, hdue =>
      have ho2 := Option.some.inj ho
      subst ho2
      have h82 : a.tmps[82]?.getD undef = .bool true := hI.pv 24 (by decide) (due_on hdue 24 rfl)
      have g82 := slot_true h82
      have h1 : a.tmps[1]?.getD undef = .slice (some ⟨b1, 0, none⟩) 2 2 := (hI.kept 1 rfl).trans k1
      refine wpOp_list rfl ?_
      go_wp2_with fail
      exact hI.step (i := 30) _ (by decide) (by decide) rfl (by rw [kz]; decide) rfl (Below.refl _ _)
    | 31, ho, hfi, hdue =>
      have ho2 := Option.some.inj ho
      subst ho2
      have h82 : a.tmps[82]?.getD undef = .bool true := hI.pv 24 (by decide) (due_on hdue 24 rfl)
      have g82 := slot_true h82
      have h88 : a.tmps[88]?.getD undef = .slice (some ⟨b1, 0, none⟩) 2 2 := hI.pv 30 (by decide) (due_on hdue 30 rfl)
      refine wpOp_list rfl ?_
      go_wp2_with fail
      exact hI.step (i := 31) _ (by decide) (by decide) rfl (by rw [kz]; decide) rfl (Below.refl _ _)
    | 32, ho, hfi, hdue =>
      have ho2 := Option.some.inj ho
      subst ho2
      have h82 : a.tmps[82]?.getD undef = .bool true := hI.pv 24 (by decide) (due_on hdue 24 rfl)
      have g82 := slot_true h82
      have h89 : a.tmps[89]?.getD undef = .pointer (some ⟨b1, 5, none⟩) := hI.pv 31 (by decide) (due_on hdue 31 rfl)
      have hO := (hI.bel.block b1 (heap_lt Kb1.out)).trans Kb1.out
      have c0 := block_cell (j := 5) hO rfl
      have c1 := block_cell (j := 6) hO rfl
      have c2 := block_cell (j := 7) hO rfl
      have c3 := block_cell (j := 8) hO rfl
      have c4 := block_cell (j := 9) hO rfl
      clear hO
      refine wpOp_list rfl ?_
      go_wp2_with fail
      exact hI.step (i := 32) _ (by decide) (by decide) rfl (by rw [kz]; decide) rfl (Below.refl _ _)
    | 33, ho, hfi, hdue =>
      have ho2 := Option.some.inj ho
      subst ho2
      have h82 : a.tmps[82]?.getD undef = .bool true := hI.pv 24 (by decide) (due_on hdue 24 rfl)
      have g82 := slot_true h82
      have h90 : a.tmps[90]?.getD undef = .agg #[.string ⟨#[97, 47, 98]⟩, .int .i64 2, .int .i64 420, .string ⟨#[120]⟩, .string ⟨#[]⟩] := hI.pv 32 (by decide) (due_on hdue 32 rfl)
      refine wpOp_list rfl ?_
      go_wp2_with fail
      refine (laidD ⟨⟨#[97, 47, 98]⟩, 2, 420, ⟨#[120]⟩, ⟨#[]⟩⟩ _).mono ?_
      rintro r w2 ⟨rfl, hb⟩
      have HB := Lib.hid hb
      clear hb
      go_wp2_with fail
      exact hI.step (i := 33) _ (by decide) (by decide) rfl (by rw [kz]; decide) rfl HB.out
    | 34, ho, hfi, hdue =>
      have ho2 := Option.some.inj ho
      subst ho2
      have h82 : a.tmps[82]?.getD undef = .bool true := hI.pv 24 (by decide) (due_on hdue 24 rfl)
      have g82 := slot_true h82
      have h87 : a.tmps[87]?.getD undef = .agg #[.string ⟨#[97]⟩, .bool false, .string ⟨#[97]⟩, .int .i64 1, .int .i64 493, .string ⟨#[]⟩, .string ⟨#[]⟩] := hI.pv 29 (by decide) (due_on hdue 29 rfl)
      have h91 : a.tmps[91]?.getD undef = .agg #[.string ⟨#[97, 47, 98]⟩, .bool false, .string ⟨#[97, 47, 98]⟩, .int .i64 2, .int .i64 420, .string ⟨#[120]⟩, .string ⟨#[]⟩] := hI.pv 33 (by decide) (due_on hdue 33 rfl)
      refine wpOp_list rfl ?_
      go_wp2_with fail
      exact hI.step (i := 34) _ (by decide) (by decide) rfl (by rw [kz]; decide) (chgs_block 2 (World.alloc_heap_new _ _) rfl rfl (by decide)) ((Below.refl _ _).alloc (Nat.le_refl _) _)
    | 35, ho, hfi, hdue =>
      have ho2 := Option.some.inj ho
      subst ho2
      have h82 : a.tmps[82]?.getD undef = .bool true := hI.pv 24 (by decide) (due_on hdue 24 rfl)
      have g82 := slot_true h82
      have h83 : a.tmps[83]?.getD undef = .slice (some ⟨b1, 0, none⟩) 2 2 := hI.pv 25 (by decide) (due_on hdue 25 rfl)
      obtain ⟨v92, h92⟩ : ∃ v, a.tmps[92]?.getD undef = v := ⟨_, rfl⟩
      have e92 : ChgsAt w' v92 [⟨⟨#[97]⟩, false, ⟨⟨#[97]⟩, 1, 493, ⟨#[]⟩, ⟨#[]⟩⟩⟩, ⟨⟨#[97, 47, 98]⟩, false, ⟨⟨#[97, 47, 98]⟩, 2, 420, ⟨#[120]⟩, ⟨#[]⟩⟩⟩] := by rw [← h92]; exact hI.pv 34 (by decide) (due_on hdue 34 rfl)
      have hc := tk7 (.slice none 0 0) (.slice (some ⟨b1, 0, none⟩) 2 2) (v92) w' (nil_ents' _) (Eb1.out.below hI.bel (Nat.le_refl _)) (e92) (hg.below hI.bel (Nat.le_refl _))
      have HC := Lib.hid hc
      clear hc e92
      refine wpOp_list rfl ?_
      go_wp2_with fail
      refine HC.out.mono ?_
      rintro r w2 ⟨rfl, hb⟩
      have HB := Lib.hid hb
      clear hb
      go_wp2_with fail
      exact hI.step (i := 35) _ (by decide) (by decide) rfl (by rw [kz]; decide) rfl HB.out
    | 36, ho, hfi, hdue =>
      have ho2 := Option.some.inj ho
      subst ho2
      have h82 : a.tmps[82]?.getD undef = .bool true := hI.pv 24 (by decide) (due_on hdue 24 rfl)
      have h93 : a.tmps[93]?.getD undef = .bool true := hI.pv 35 (by decide) (due_on hdue 35 rfl)
      refine wpOp_list rfl ?_
      go_wp2_with fail
      exact hI.step (i := 36) _ (by decide) (by decide) rfl (by rw [kz]; decide) rfl (Below.refl _ _)
    | 37, ho, hfi, hdue =>
      have ho2 := Option.some.inj ho
      subst ho2
      have h94 : a.tmps[94]?.getD undef = .bool true := hI.pv 36 (by decide) (due_on hdue 36 rfl)
      refine wpOp_list rfl ?_
      go_wp2_with fail
      exact hI.step (i := 37) _ (by decide) (by decide) rfl (by rw [kz]; decide) rfl (Below.refl _ _)
    | i + 38, ho, hfi, hdue => cases ho
  · intro f a w' hI hall
    exact HQ.out a w' hI.defers (hI.size.trans kz) ((hI.kept 0 rfl).trans k0) ((hI.kept 1 rfl).trans k1) ((hI.kept 2 rfl).trans k2) ((hI.kept 3 rfl).trans k3) ((hI.kept 4 rfl).trans k4) ((hI.kept 5 rfl).trans k5) (hI.pv 37 (by decide) (hall 37 (by decide))) ((below_drew (Below.refl _ _) : Below w.heap.size w w.drew).trans hI.bel)
end Go.Proofs.YtipfccfjniglbaaGreatDoor
