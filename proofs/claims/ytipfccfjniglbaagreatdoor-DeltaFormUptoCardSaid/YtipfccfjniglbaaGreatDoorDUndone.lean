/- The law DeltaUndone: done, undone, done again. -/
import Derived.Test.YtipfccfjniglbaaGreatDoorDMakes
set_option linter.unusedSimpArgs false
set_option linter.unusedVariables false
namespace Go.Proofs.YtipfccfjniglbaaGreatDoor
open Go.RowKit Go.Maps Go.Shelf
open Go.Lib hiding intOf size_eq
theorem itself_le (e : Ent) : itselfNo e ≤ 17 := by
  have : checkNo e.path ≤ 17 := by
    unfold checkNo
    have := split_no (whiteout e.path)
    repeat (first | omega | split)
  unfold itselfNo
  repeat (first | omega | split)
theorem up_le (L : List Ent) (p : List UInt8) : upNo L p ≤ 13 := by
  unfold upNo
  split
  · omega
  · split
    · omega
    · split <;> omega
theorem one_le (seen : List Ent) (e : Ent) : oneNo seen e ≤ 17 := by
  have h1 := itself_le e
  have h2 := up_le seen e.path
  unfold oneNo
  repeat (first | omega | split)
theorem go_le : ∀ (r seen : List Ent), (checkGo seen r).1 ≤ 17
  | [], _ => by show 0 ≤ 17; decide
  | e :: r, seen => by
    unfold checkGo
    split
    · exact one_le seen e
    · exact go_le r _
theorem check_le (L : List Ent) : (checkL L).1 ≤ 17 := go_le L []
theorem doL_err_le : ∀ (C : List Chg) (L : List Ent) (i n k : Nat), doL L C i = .error (n, k) → 1 ≤ n ∧ n ≤ 17
  | [], L, i, n, k, h => by cases h
  | c :: r, L, i, n, k, h => by
    unfold doL at h
    cases hd : doneL L c with
    | error m =>
      rw [hd] at h
      injection h with h
      injection h with h1 h2
      subst h1
      exact doneL_err hd
    | ok L' =>
      rw [hd] at h
      exact doL_err_le r L' (i + 1) n k h
theorem applyL_err {T : List Ent} {C : List Chg} {n ln at_ : Nat} (h : applyL T C = .error (n, ln, at_)) : 1 ≤ n ∧ n ≤ 32 := by
  have hc := check_le T
  unfold applyL at h
  split at h
  · injection h with h
    injection h with h1 h2
    omega
  · cases hd : doL T C 0 with
    | error x =>
      obtain ⟨m, k⟩ := x
      rw [hd] at h
      injection h with h
      injection h with h1 h2
      have := doL_err_le _ _ _ _ _ hd
      omega
    | ok L =>
      rw [hd] at h
      simp only [] at h
      split at h
      · injection h with h
        injection h with h1 h2
        omega
      · cases h
set_option maxRecDepth 100000 in
set_option maxHeartbeats 8000000 in
theorem deltaUndone_any (va vl : Value) (T : List Ent) (C : List Chg) (w : World) (ha : EntsAt w va T) (hc : ChgsAt w vl C) (sa : Small T) (sc : SmallC C) (la : T.length ≤ 1048576) (lc : C.length ≤ 1048576) (hg : Handle w) :
    Calls Tryz.prog 8 #[va, vl] w fun r w' => r = .returned (.bool true) ∧ Below w.heap.size w w' := by
  have HA := Lib.hid (fun W (hW : Below w.heap.size w W) => ha.below hW (Nat.le_refl _))
  have HC := Lib.hid (fun W (hW : Below w.heap.size w W) => ItemsAt.below hc hW (Nat.le_refl _))
  have Hg := Lib.hid (fun W (hW : Below w.heap.size w W) => hg.below hW (Nat.le_refl _))
  have HW := Lib.hid (fun W (hW : Below w.heap.size w W) => works10_any W (Hg.out W hW))
  cases hA : applyL T C with
  | error x =>
    obtain ⟨n, ln, at_⟩ := x
    obtain ⟨n1, n2⟩ := applyL_err hA
    have H1 := Lib.hid (apply_no ha hc sa sc la lc hg hA)
    have H2 := Lib.hid (fun W (hW : Below w.heap.size w W) => back_no (HA.out W hW) (HC.out W hW) sa sc la lc (Hg.out W hW) hA)
    have HN := Lib.hid (fun W => num_fault n (ln : Int) (at_ : Int) W n1 n2)
    unfold fltV at H1 H2 HN
    clear ha hc hg sa sc hA
    go_enter Tryz.func8, Tryz.ntmps8
    go_wp2_with fail
    refine H1.out.mono ?_
    rintro r w1 ⟨rfl, hb1⟩
    have HB1 := Lib.hid hb1
    clear hb1
    go_wp2_with fail
    refine (H2.out w1 HB1.out).mono ?_
    rintro r w2 ⟨rfl, hb2⟩
    have HB2 := Lib.hid (HB1.out.trans (hb2.mono HB1.out.size))
    clear hb2 HB1
    go_wp2_with fail
    refine (HN.out w2).mono ?_
    rintro r w3 ⟨rfl, hb3⟩
    have HB3 := Lib.hid (HB2.out.trans (hb3.mono HB2.out.size))
    clear hb3 HB2
    go_wp2_with fail
    refine (HN.out w3).mono ?_
    rintro r w4 ⟨rfl, hb4⟩
    have HB4 := Lib.hid (HB3.out.trans (hb4.mono HB3.out.size))
    clear hb4 HB3
    go_wp2_with fail
    refine (HW.out w4 HB4.out).mono ?_
    rintro r w5 ⟨rfl, hb5⟩
    have HB5 := Lib.hid (HB4.out.trans (hb5.mono HB4.out.size))
    clear hb5 HB4
    go_wp2_with fail
    go_ret
    exact ⟨rfl, HB5.out⟩
  | ok U =>
    obtain ⟨gT, gU⟩ := applyL_good (fun h => good_of_check h) hA
    have cT := gT.check
    have cU := gU.check
    have sU := gU.pre.small
    have lT := gT.len
    have lU := gU.len
    have e1 := applyL_diff (by rw [cU]) gU gT
    have e2 := applyL_diff (by rw [cT]) gT gU
    have len1 := chg_le U T
    have len2 := chg_le T U
    have H1 := Lib.hid (apply_ok ha hc sa sc la lc hg hA)
    have H2 := Lib.hid (fun W (hW : Below w.heap.size w W) => back_ok (HA.out W hW) (HC.out W hW) sa sc la lc (Hg.out W hW) hA rfl)
    have H3 := Lib.hid (fun v W (hv : EntsAt W v U) => (show Calls Tryz.prog 26 #[v] W fun r W' => r = .returned .nilIface ∧ Below W.heap.size W W' from (by have := tcheck_any v U W hv sU; rwa [errT_ok (by rw [cU])] at this)))
    have H4 := Lib.hid (fun v vm W (hW : Below w.heap.size w W) (hv : EntsAt W v U) (hm : ChgsAt W vm (chgL U T)) => apply_ok hv hm sU (chg_small sU sa) (by omega) (by omega) (Hg.out W hW) e1)
    have H5 := Lib.hid (fun v vm W (hW : Below w.heap.size w W) (hv : EntsAt W v U) (hm : ChgsAt W vm (chgL U T)) => back_ok hv hm sU (chg_small sU sa) (by omega) (by omega) (Hg.out W hW) e1 rfl)
    have H6 := Lib.hid (fun v W (hW : Below w.heap.size w W) (hv : EntsAt W v T) => (same_ents v va T T W hv (HA.out W hW) (by omega) (by omega)).mono (R' := fun e w' => e = .returned (.bool true) ∧ Below W.heap.size W w') (fun e w' ⟨h1, q, h2, h3⟩ => ⟨by rw [h2, h3.2 rfl], h1⟩))
    have H7 := Lib.hid (fun v vn W (hW : Below w.heap.size w W) (hv : EntsAt W v T) (hn : ChgsAt W vn (chgL T U)) => apply_ok hv hn sa (chg_small sa sU) (by omega) (by omega) (Hg.out W hW) e2)
    have H8 := Lib.hid (fun v v' W (hv : EntsAt W v U) (hv' : EntsAt W v' U) => (same_ents v v' U U W hv hv' (by omega) (by omega)).mono (R' := fun e w' => e = .returned (.bool true) ∧ Below W.heap.size W w') (fun e w' ⟨h1, q, h2, h3⟩ => ⟨by rw [h2, h3.2 rfl], h1⟩))
    clear ha hc hg sa sc hA gT gU cT cU sU lT lU e1 e2 len1 len2
    go_enter Tryz.func8, Tryz.ntmps8
    go_wp2_with fail
    refine H1.out.mono ?_
    rintro r w1 ⟨vu, rfl, hr, hb⟩
    have U1 := Lib.hid hr.ents
    have B1 := Lib.hid hb
    clear hr hb
    go_wp2_with fail
    refine (H2.out w1 B1.out).mono ?_
    rintro r w2 ⟨vm, rfl, hr, hb⟩
    have U2 := Lib.hid (U1.out.below hb (Nat.le_refl _))
    have M2 := Lib.hid (RowE.chgs hr)
    have B2 := Lib.hid (B1.out.trans (hb.mono B1.out.size))
    clear hr hb U1 B1
    go_wp2_with fail
    refine (H3.out vu w2 U2.out).mono ?_
    rintro r w3 ⟨rfl, hb⟩
    have U3 := Lib.hid (U2.out.below hb (Nat.le_refl _))
    have M3 := Lib.hid (ItemsAt.below M2.out hb (Nat.le_refl _))
    have B3 := Lib.hid (B2.out.trans (hb.mono B2.out.size))
    clear hb U2 M2 B2
    go_wp2_with fail
    refine (H4.out vu vm w3 B3.out U3.out M3.out).mono ?_
    rintro r w4 ⟨vv, rfl, hr, hb⟩
    have U4 := Lib.hid (U3.out.below hb (Nat.le_refl _))
    have M4 := Lib.hid (ItemsAt.below M3.out hb (Nat.le_refl _))
    have V4 := Lib.hid hr.ents
    have B4 := Lib.hid (B3.out.trans (hb.mono B3.out.size))
    clear hr hb U3 M3 B3
    go_wp2_with fail
    refine (H5.out vu vm w4 B4.out U4.out M4.out).mono ?_
    rintro r w5 ⟨vn, rfl, hr, hb⟩
    have U5 := Lib.hid (U4.out.below hb (Nat.le_refl _))
    have V5 := Lib.hid (V4.out.below hb (Nat.le_refl _))
    have N5 := Lib.hid (RowE.chgs hr)
    have B5 := Lib.hid (B4.out.trans (hb.mono B4.out.size))
    clear hr hb U4 M4 V4 B4
    go_wp2_with fail
    refine (H6.out vv w5 B5.out V5.out).mono ?_
    rintro r w6 ⟨rfl, hb⟩
    have U6 := Lib.hid (U5.out.below hb (Nat.le_refl _))
    have V6 := Lib.hid (V5.out.below hb (Nat.le_refl _))
    have N6 := Lib.hid (ItemsAt.below N5.out hb (Nat.le_refl _))
    have B6 := Lib.hid (B5.out.trans (hb.mono B5.out.size))
    clear hb U5 V5 N5 B5
    go_wp2_with fail
    refine (H7.out vv vn w6 B6.out V6.out N6.out).mono ?_
    rintro r w7 ⟨vw, rfl, hr, hb⟩
    have U7 := Lib.hid (U6.out.below hb (Nat.le_refl _))
    have W7 := Lib.hid hr.ents
    have B7 := Lib.hid (B6.out.trans (hb.mono B6.out.size))
    clear hr hb U6 V6 N6 B6
    go_wp2_with fail
    refine (H8.out vw vu w7 W7.out U7.out).mono ?_
    rintro r w8 ⟨rfl, hb⟩
    have B8 := Lib.hid (B7.out.trans (hb.mono B7.out.size))
    clear hb U7 W7 B7
    go_wp2_with fail
    refine (HW.out w8 B8.out).mono ?_
    rintro r w9 ⟨rfl, hb⟩
    have B9 := Lib.hid (B8.out.trans (hb.mono B8.out.size))
    clear hb B8
    go_wp2_with fail
    go_ret
    exact ⟨rfl, B9.out⟩
/-- changes of bounded size -/
theorem smallC_le {C : List Chg} (h : ∀ c ∈ C, c.p.size ≤ 1048576 ∧ c.e.p.size ≤ 1048576 ∧ c.e.d.size ≤ 1048576 ∧ c.e.l.size ≤ 1048576) : SmallC C := fun c hc =>
  ⟨Nat.lt_of_le_of_lt (h c hc).1 (by decide), Nat.lt_of_le_of_lt (h c hc).2.1 (by decide), Nat.lt_of_le_of_lt (h c hc).2.2.1 (by decide), Nat.lt_of_le_of_lt (h c hc).2.2.2 (by decide)⟩
end Go.Proofs.YtipfccfjniglbaaGreatDoor
