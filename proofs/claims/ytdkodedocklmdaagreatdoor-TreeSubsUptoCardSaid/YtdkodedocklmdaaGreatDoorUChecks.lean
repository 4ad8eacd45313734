/- The walk of TreeChecks. -/
import Derived.Test.YtdkodedocklmdaaGreatDoorUWorks
import Derived.Test.YtdkodedocklmdaaGreatDoorUOne
set_option linter.unusedSimpArgs false
set_option linter.unusedVariables false
namespace Go.Proofs.YtdkodedocklmdaaGreatDoor
open Go.RowKit Go.Maps Go.Shelf
open Go.Lib hiding intOf size_eq
theorem oneNo_le (seen : List Ent) (e : Ent) : oneNo seen e ≤ 32 := by
  have hc : ∀ l, checkNo l ≤ 32 := fun l => by
    unfold checkNo
    split
    · omega
    split
    · omega
    split
    · omega
    · have := splitP_no (whiteout l)
      omega
  have hi : itselfNo e ≤ 32 := by
    unfold itselfNo
    have := hc e.path
    split <;> (try omega)
    split <;> (try omega)
    split <;> (try omega)
    split <;> (try omega)
    split <;> (try omega)
    split <;> omega
  have hu : upNo seen e.path ≤ 32 := by
    unfold upNo
    split
    · omega
    · split
      · omega
      · split <;> omega
  unfold oneNo
  split
  · exact hi
  · split
    · split
      · omega
      · split
        · omega
        · split
          · exact hu
          · split <;> omega
    · split
      · exact hu
      · split <;> omega
theorem checkGo_le : ∀ (l seen : List Ent), (checkGo seen l).1 ≤ 32
  | [], _ => Nat.zero_le _
  | e :: r, seen => by
    unfold checkGo
    split
    · exact oneNo_le seen e
    · exact checkGo_le r _
set_option maxRecDepth 100000 in
set_option maxHeartbeats 4000000 in
theorem treeChecks_any (v : Value) (L : List Ent) (w : World) (h : EntsAt w v L) (hb : Small L) (hS : ∀ x ∈ L, x.p.size ≤ 1099511627776 ∧ x.l.size ≤ 1099511627776 ∧ x.d.size ≤ 1099511627776) (hl : L.length ≤ 1048576) (hg : Handle w) :
    Calls Tryz.prog 3 #[v] w fun r w' => r = .returned (.bool true) ∧ Below w.heap.size w w' := by
  have hck := rcheck07_any v L w h hS (by omega)
  have hle : (checkL L).1 ≤ 32 := checkGo_le L []
  have hE := h
  have Hck := Lib.hid hck
  have HE := Lib.hid hE
  have Hb := Lib.hid hb
  have Hg := Lib.hid hg
  have hlent := fun (W : World) (hW : Below w.heap.size w W) => lent_any v L W (HE.out.below hW (Nat.le_refl _)) (by omega)
  have hat : ∀ W, Handle W → Calls Tryz.prog 13 #[errT L, .int .i64 ((checkL L).1 : Int), .int .i64 0, .int .i64 ((checkL L).2 : Int)] W fun r w' => r = .returned (.bool true) ∧ Below W.heap.size W w' := fun W hW => by
    unfold errT
    by_cases h0 : (checkL L).1 = 0
    · rw [if_pos h0, h0]
      exact (at_ok 0 ((checkL L).2 : Int) W).mono fun r w' ⟨h1, h2⟩ => ⟨h1, by rw [← h2]; exact Below.refl _ _⟩
    · rw [if_neg h0]
      exact at_fault (checkL L).1 0 ((checkL L).2 : Int) W (by omega) hle hW
  have hchk := fun (v' : Value) (W : World) (base : Nat) (hv : LentAt W base v' L) => tcheck_any v' L W hv.ents hb
  have hkept := fun (v' : Value) (W : World) (base : Nat) (hW : Below w.heap.size w W) (hv : LentAt W base v' L) => kept_any v' v L base W hv (HE.out.below hW (Nat.le_refl _)) hl
  obtain ⟨o, cap, rfl, _, _, _⟩ := h
  have Hlent := Lib.hid hlent
  have Hat := Lib.hid hat
  have Hchk := Lib.hid hchk
  have Hkept := Lib.hid hkept
  have HW := Lib.hid (fun W (hW : Below w.heap.size w W) => works07_any W (Hg.out.below hW (Nat.le_refl _)))
  generalize (checkL L).1 = N at *
  generalize (checkL L).2 = A at *
  obtain ⟨et, het⟩ : ∃ x, x = errT L := ⟨_, rfl⟩
  rw [← het] at Hat Hchk
  clear hck hlent hat hchk hkept het hle hE hb hS hg hl
  generalize L.length = n at *
  go_enter Tryz.func3, Tryz.ntmps3
  go_wp2_with (first
    | (go_at_call 11; refine Hck.out.mono ?_; rintro r w1 ⟨rfl, hb1⟩; have B1 := Lib.hid hb1; clear hb1)
    | (go_at_call 12; refine (Hlent.out w1 B1.out).mono ?_; rintro r w2 ⟨v', rfl, hv, hb2⟩
       have V2 := Lib.hid hv
       have B2 := Lib.hid (B1.out.trans (hb2.mono B1.out.size))
       clear hb2 hv)
    | (go_at_call 14; refine (Hchk.out v' w2 _ V2.out).mono ?_; rintro r w3 ⟨rfl, hb3⟩
       have V3 := Lib.hid (V2.out.below hb3 (Nat.le_refl _))
       have B3 := Lib.hid (B2.out.trans (hb3.mono B2.out.size))
       clear hb3)
    | (go_at_call 13; refine (Hat.out w3 (Hg.out.below B3.out (Nat.le_refl _))).mono ?_; rintro r w4 ⟨rfl, hb4⟩
       have V4 := Lib.hid (V3.out.below hb4 (Nat.le_refl _))
       have B4 := Lib.hid (B3.out.trans (hb4.mono B3.out.size))
       clear hb4)
    | (go_at_call 15; refine (Hkept.out v' w4 _ B4.out V4.out).mono ?_; rintro r w5 ⟨rfl, hb5⟩
       have B5 := Lib.hid (B4.out.trans (hb5.mono B4.out.size))
       clear hb5)
    | (go_at_call 16; refine (HW.out w5 B5.out).mono ?_; rintro r w6 ⟨rfl, hb6⟩
       have B6 := Lib.hid (B5.out.trans (hb6.mono B5.out.size))
       clear hb6))
  go_ret
  exact ⟨rfl, B6.out⟩
end Go.Proofs.YtdkodedocklmdaaGreatDoor
