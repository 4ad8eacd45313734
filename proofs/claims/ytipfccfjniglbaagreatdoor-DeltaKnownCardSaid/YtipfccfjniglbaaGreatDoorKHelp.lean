/- The law DeltaKnown's helpers: told, refused. -/
import Derived.Test.YtipfccfjniglbaaGreatDoorDMakes
set_option linter.unusedSimpArgs false
set_option linter.unusedVariables false
namespace Go.Proofs.YtipfccfjniglbaaGreatDoor
open Go.RowKit Go.Maps Go.Shelf
open Go.Lib hiding intOf size_eq
set_option maxRecDepth 100000 in
set_option maxHeartbeats 2000000 in
theorem told_any (va vb vw : Value) (A B : List Ent) (M : List Chg) (w : World) (ha : EntsAt w va A) (hb : EntsAt w vb B) (hm : ChgsAt w vw M) (sa : Small A) (sb : Small B) (ca : (checkL A).1 = 0) (cb : (checkL B).1 = 0) (h : chgL A B = M) (hl : M.length ≤ 1099511627776) (hg : Handle w) :
    Calls Tryz.prog 33 #[va, vb, vw] w fun r w' => r = .returned (.bool true) ∧ Below w.heap.size w w' := by
  have HD := Lib.hid (diff_ok ha hb sa sb hg ca cb h)
  have HS := Lib.hid (fun (v : Value) (W : World) (hW : Below w.heap.size w W) (hv : ChgsAt W v M) => (same_chgs v vw M M W hv (ItemsAt.below hm hW (Nat.le_refl _)) hl hl).mono (R' := fun e w' => e = .returned (.bool true) ∧ Below W.heap.size W w') (fun e w' ⟨h1, q, h2, h3⟩ => ⟨by rw [h2, h3.2 rfl], h1⟩))
  clear ha hb hm sa sb ca cb h hg
  go_enter Tryz.func33, Tryz.ntmps33
  go_wp2_with fail
  refine HD.out.mono ?_
  rintro r w1 ⟨v, rfl, hr, hb1⟩
  have HL := Lib.hid (RowE.chgs hr)
  have HB := Lib.hid hb1
  clear hr hb1
  go_wp2_with fail
  refine (HS.out v w1 HB.out HL.out).mono ?_
  rintro r w2 ⟨rfl, hb2⟩
  have HB2 := Lib.hid (HB.out.trans (hb2.mono HB.out.size))
  clear hb2
  go_wp2_with fail
  go_ret
  exact ⟨rfl, HB2.out⟩
set_option maxRecDepth 100000 in
set_option maxHeartbeats 2000000 in
theorem refused_any (va vl : Value) (A : List Ent) (C : List Chg) (n at_ : Nat) (w : World) (ha : EntsAt w va A) (hc : ChgsAt w vl C) (sa : Small A) (sc : SmallC C) (hA : A.length ≤ 1048576) (hC : C.length ≤ 1048576) (h : applyL A C = .error (n, 1, at_)) (h1 : 1 ≤ n) (h2 : n ≤ 32) (hg : Handle w) :
    Calls Tryz.prog 37 #[va, .int .i64 (n : Int), .int .i64 (at_ : Int), vl] w fun r w' => r = .returned (.bool true) ∧ Below w.heap.size w w' := by
  have HD := Lib.hid (apply_no ha hc sa sc hA hC hg h)
  have HS := Lib.hid (fun (W : World) (hW : Below w.heap.size w W) => at_fault n ((1 : Nat) : Int) (at_ : Int) W h1 h2 (hg.below hW (Nat.le_refl _)))
  clear ha hc sa sc hA hC h hg h1 h2
  unfold fltV at HD HS
  go_enter Tryz.func37, Tryz.ntmps37
  go_wp2_with fail
  refine HD.out.mono ?_
  rintro r w1 ⟨rfl, hb1⟩
  have HB := Lib.hid hb1
  clear hb1
  go_wp2_with fail
  refine (HS.out w1 HB.out).mono ?_
  rintro r w2 ⟨rfl, hb2⟩
  have HB2 := Lib.hid (HB.out.trans (hb2.mono HB.out.size))
  clear hb2
  go_wp2_with fail
  go_ret
  exact ⟨rfl, HB2.out⟩
end Go.Proofs.YtipfccfjniglbaaGreatDoor
