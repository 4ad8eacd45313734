/- The law DeltaMakes: what is unlike in two trees, done to the first one, makes the second one. -/
import Derived.Test.YtipfccfjniglbaaGreatDoorDWorks
set_option linter.unusedSimpArgs false
set_option linter.unusedVariables false
namespace Go.Proofs.YtipfccfjniglbaaGreatDoor
open Go.RowKit Go.Maps Go.Shelf
open Go.Lib hiding intOf size_eq
theorem chg_small {A B : List Ent} (sa : Small A) (sb : Small B) : SmallC (chgL A B) := fun c hc => by
  rcases chg_from _ _ _ _ c hc with ⟨_, x, hx, rfl⟩ | ⟨_, y, hy, rfl⟩
  · exact ⟨(sa x hx).1, by show (0 : Nat) < _; decide, by show (0 : Nat) < _; decide, by show (0 : Nat) < _; decide⟩
  · exact ⟨(sb y hy).1, (sb y hy).1, (sb y hy).2.1, (sb y hy).2.2⟩
theorem chg_le (A B : List Ent) : (chgL A B).length ≤ A.length + B.length := chg_len _ _ _ _
theorem errT_ok {L : List Ent} (h : (checkL L).1 = 0) : errT L = .nilIface := if_pos h
theorem errT_no {L : List Ent} (h : (checkL L).1 ≠ 0) : errT L = fltV ((checkL L).1 : Int) 0 ((checkL L).2 : Int) := if_neg h
set_option maxRecDepth 100000 in
set_option maxHeartbeats 8000000 in
theorem deltaMakes_any (va vb : Value) (A B : List Ent) (w : World) (ha : EntsAt w va A) (hb : EntsAt w vb B) (sa : Small A) (sb : Small B) (la : A.length ≤ 1048576) (lb : B.length ≤ 1048576) (hg : Handle w) :
    Calls Tryz.prog 6 #[va, vb] w fun r w' => r = .returned (.bool true) ∧ Below w.heap.size w w' := by
  have HA := Lib.hid (fun W (hW : Below w.heap.size w W) => ha.below hW (Nat.le_refl _))
  have HB := Lib.hid (fun W (hW : Below w.heap.size w W) => hb.below hW (Nat.le_refl _))
  have Hg := Lib.hid (fun W (hW : Below w.heap.size w W) => hg.below hW (Nat.le_refl _))
  have HD := Lib.hid (diff_any va vb A B w ha hb sa sb (by omega) hg)
  have HCa := Lib.hid (fun W (hW : Below w.heap.size w W) => tcheck_any va A W (HA.out W hW) sa)
  have HCb := Lib.hid (fun W (hW : Below w.heap.size w W) => tcheck_any vb B W (HB.out W hW) sb)
  have HW := Lib.hid (fun W (hW : Below w.heap.size w W) => works10_any W (Hg.out W hW))
  by_cases ca : (checkL A).1 = 0
  · by_cases cb : (checkL B).1 = 0
    · have gA := good_of_check ca
      have gB := good_of_check cb
      rw [errT_ok ca] at HCa
      rw [errT_ok cb] at HCb
      have lA := gA.len
      have lB := gB.len
      have hlen := chg_le A B
      have HAp := Lib.hid (fun (vl : Value) (W : World) (hW : Below w.heap.size w W) (hl : ChgsAt W vl (chgL A B)) => apply_ok (HA.out W hW) hl sa (chg_small sa sb) la (by omega) (Hg.out W hW) (applyL_diff ca gA gB))
      have HS1 := Lib.hid (fun (v : Value) (W : World) (hW : Below w.heap.size w W) (hv : EntsAt W v B) => (same_ents v vb B B W hv (HB.out W hW) (by omega) (by omega)).mono (R' := fun e w' => e = .returned (.bool true) ∧ Below W.heap.size W w') (fun e w' ⟨h1, q, h2, h3⟩ => ⟨by rw [h2, h3.2 rfl], h1⟩))
      have hz : ((chgL A B).length : Int) = 0 ↔ A = B := by
        rw [← chgL_none gA gB]
        exact ⟨fun h => List.eq_nil_of_length_eq_zero (by omega), fun h => by rw [h]; rfl⟩
      obtain ⟨q, hq⟩ : ∃ q, (((chgL A B).length : Int) == 0) = q := ⟨_, rfl⟩
      have hqi : q = true ↔ A = B := by rw [← hq, ← hz]; simp
      have HS2 := Lib.hid (fun (W : World) (hW : Below w.heap.size w W) => (same_ents va vb A B W (HA.out W hW) (HB.out W hW) (by omega) (by omega)).mono (R' := fun e w' => e = .returned (.bool q) ∧ Below W.heap.size W w') (fun e w' ⟨h1, q2, h2, h3⟩ => ⟨by
        have : q2 = q := by
          cases q <;> cases q2 <;> simp_all
        rw [h2, this], h1⟩))
      have Ca := Lib.hid ca
      have Cb := Lib.hid cb
      obtain ⟨n, hn⟩ : ∃ n, n = (chgL A B).length := ⟨_, rfl⟩
      rw [← hn] at hq
      have Hn := Lib.hid hn
      clear ha hb hg sa sb ca cb gA gB hz hqi hn hlen lA lB
      go_enter Tryz.func6, Tryz.ntmps6
      go_wp2_with fail
      refine HD.out.mono ?_
      rintro r w1 ⟨hb1, v, e, rfl, hr⟩
      obtain ⟨rfl, hrow, _⟩ := hr.c Ca.out Cb.out
      have HL1 := Lib.hid (RowE.chgs hrow)
      have HB1 := Lib.hid hb1
      clear hr hrow hb1
      go_wp2_with fail
      refine (HCa.out w1 HB1.out).mono ?_
      rintro r w2 ⟨rfl, hb2⟩
      have HL2 := Lib.hid (ItemsAt.below HL1.out hb2 (Nat.le_refl _))
      have HB2 := Lib.hid (HB1.out.trans (hb2.mono HB1.out.size))
      clear hb2 HL1 HB1
      go_wp2_with fail
      refine (HCb.out w2 HB2.out).mono ?_
      rintro r w3 ⟨rfl, hb3⟩
      have HL3 := Lib.hid (ItemsAt.below HL2.out hb3 (Nat.le_refl _))
      have HB3 := Lib.hid (HB2.out.trans (hb3.mono HB2.out.size))
      clear hb3 HL2 HB2
      go_wp2_with fail
      refine (HAp.out _ w3 HB3.out HL3.out).mono ?_
      rintro r w4 ⟨v4, rfl, hr4, hb4⟩
      have HL4 := Lib.hid (ItemsAt.below HL3.out hb4 (Nat.le_refl _))
      have HC4 := Lib.hid hr4.ents
      have HB4 := Lib.hid (HB3.out.trans (hb4.mono HB3.out.size))
      clear hb4 hr4 HL3 HB3
      obtain ⟨ol, cl, rfl, _, _, _⟩ := HL4.out
      rw [← Hn.out]
      go_wp2_with fail
      refine (HS1.out _ w4 HB4.out HC4.out).mono ?_
      rintro r w5 ⟨rfl, hb5⟩
      have HB5 := Lib.hid (HB4.out.trans (hb5.mono HB4.out.size))
      clear hb5 HB4 HC4 HL4
      go_wp2_with fail
      refine (HS2.out w5 HB5.out).mono ?_
      rintro r w6 ⟨rfl, hb6⟩
      have HB6 := Lib.hid (HB5.out.trans (hb6.mono HB5.out.size))
      clear hb6 HB5
      go_wp2_with fail
      refine (HW.out w6 HB6.out).mono ?_
      rintro r w7 ⟨rfl, hb7⟩
      have HB7 := Lib.hid (HB6.out.trans (hb7.mono HB6.out.size))
      clear hb7 HB6
      go_wp2_with fail
      go_ret
      exact ⟨rfl, HB7.out⟩
    · rw [errT_ok ca] at HCa
      rw [errT_no cb] at HCb
      have Ca := Lib.hid ca
      have Cb := Lib.hid cb
      clear ha hb hg sa sb ca cb
      unfold fltV at HCb
      go_enter Tryz.func6, Tryz.ntmps6
      go_wp2_with fail
      refine HD.out.mono ?_
      rintro r w1 ⟨hb1, v, e, rfl, hr⟩
      obtain ⟨rfl, rfl⟩ := hr.b Ca.out Cb.out
      have HB1 := Lib.hid hb1
      clear hr hb1
      unfold fltV
      go_wp2_with fail
      refine (HCa.out w1 HB1.out).mono ?_
      rintro r w2 ⟨rfl, hb2⟩
      have HB2 := Lib.hid (HB1.out.trans (hb2.mono HB1.out.size))
      clear hb2 HB1
      go_wp2_with fail
      refine (HCb.out w2 HB2.out).mono ?_
      rintro r w3 ⟨rfl, hb3⟩
      have HB3 := Lib.hid (HB2.out.trans (hb3.mono HB2.out.size))
      clear hb3 HB2
      go_wp2_with fail
      refine (HW.out w3 HB3.out).mono ?_
      rintro r w7 ⟨rfl, hb7⟩
      have HB7 := Lib.hid (HB3.out.trans (hb7.mono HB3.out.size))
      clear hb7 HB3
      go_wp2_with fail
      go_ret
      exact ⟨rfl, HB7.out⟩
  · rw [errT_no ca] at HCa
    have Ca := Lib.hid ca
    clear ha hb hg sa sb ca
    unfold fltV at HCa
    go_enter Tryz.func6, Tryz.ntmps6
    go_wp2_with fail
    refine HD.out.mono ?_
    rintro r w1 ⟨hb1, v, e, rfl, hr⟩
    obtain ⟨rfl, rfl⟩ := hr.a Ca.out
    have HB1 := Lib.hid hb1
    clear hr hb1
    unfold fltV
    go_wp2_with fail
    refine (HCa.out w1 HB1.out).mono ?_
    rintro r w2 ⟨rfl, hb2⟩
    have HB2 := Lib.hid (HB1.out.trans (hb2.mono HB1.out.size))
    clear hb2 HB1
    go_wp2_with fail
    refine (HW.out w2 HB2.out).mono ?_
    rintro r w7 ⟨rfl, hb7⟩
    have HB7 := Lib.hid (HB2.out.trans (hb7.mono HB2.out.size))
    clear hb7 HB2
    go_wp2_with fail
    go_ret
    exact ⟨rfl, HB7.out⟩
end Go.Proofs.YtipfccfjniglbaaGreatDoor
