/- The law DeltaBacks. Printed by mklbacks.py. -/
import Derived.Test.YtipfccfjniglbaaGreatDoorJRel
import Derived.Test.YtipfccfjniglbaaGreatDoorDLawDiffs
set_option linter.unusedSimpArgs false
set_option linter.unusedVariables false
namespace Go.Proofs.YtipfccfjniglbaaGreatDoor
open Go.RowKit Go.Maps Go.Shelf
open Go.Lib hiding intOf size_eq
theorem backC_len (T : List Ent) (C : List Chg) : (backC T (applyL T C)).length ≤ 4096 + T.length := by
  cases h : applyL T C with
  | error x => exact Nat.zero_le _
  | ok L =>
    have h1 := (applyL_good (fun h => good_of_check h) h).2.len
    have h2 := chg_le L T
    show (chgL L T).length ≤ _
    omega
set_option maxRecDepth 100000 in
set_option maxHeartbeats 16000000 in
theorem deltaBacks_any (va vl : Value) (T : List Ent) (C : List Chg) (w : World) (ha : EntsAt w va T) (hc : ChgsAt w vl C) (sa : ∀ x ∈ T, x.p.size ≤ 1048576 ∧ x.d.size ≤ 1048576 ∧ x.l.size ≤ 1048576) (sc : ∀ c ∈ C, c.p.size ≤ 1048576 ∧ c.e.p.size ≤ 1048576 ∧ c.e.d.size ≤ 1048576 ∧ c.e.l.size ≤ 1048576) (la : T.length ≤ 1048576) (lc : C.length ≤ 1048576) (hg : Handle w) :
    Calls Tryz.prog 5 #[va, vl] w fun r w' => r = .returned (.bool true) ∧ Below w.heap.size w w' := by
  have HA := Lib.hid (fun W (hW : Below w.heap.size w W) => ha.below hW (Nat.le_refl _))
  have HC := Lib.hid (fun W (hW : Below w.heap.size w W) => ItemsAt.below hc hW (Nat.le_refl _))
  have Hg := Lib.hid (fun W (hW : Below w.heap.size w W) => hg.below hW (Nat.le_refl _))
  have hcl1 := backC_len T C
  obtain ⟨x1, hx1⟩ : ∃ x, x = applyN (applyL T C) := ⟨_, rfl⟩
  obtain ⟨C1, hC1⟩ : ∃ x, x = backC T (applyL T C) := ⟨_, rfl⟩
  have hR1 := fun W (hW : Below w.heap.size w W) => rback10_any va vl T C W (HA.out W hW) (HC.out W hW) sa sc la lc
  have hD1 := fun u v W (hu : EntsAt W u T) (hv : ChgsAt W v C) (hW : Below w.heap.size w W) => back_uni u v T C W hu hv (small_le sa) (smallC_le sc) la lc (Hg.out W hW)
  rw [← hx1, ← hC1] at hR1 hD1
  rw [← hC1] at hcl1
  have HR1 := Lib.hid hR1
  have HD1 := Lib.hid hD1
  have HLa := Lib.hid (fun W (hW : Below w.heap.size w W) => lent_any va T W (HA.out W hW) (by omega))
  have HLb := Lib.hid (fun W (hW : Below w.heap.size w W) => lentC_any vl C W (HC.out W hW) (by omega))
  have HKa := Lib.hid (fun v base W (hW : Below w.heap.size w W) (hv : LentAt W base v T) => kept_any v va T base W hv (HA.out W hW) la)
  have HKb := Lib.hid (fun v base W (hW : Below w.heap.size w W) (hv : LentC W base v C) => keptC_any v vl C base W hv (HC.out W hW) lc)
  have HS1 := Lib.hid (fun v1 v2 W (h1 : ChgsAt W v1 C1) (h2 : ChgsAt W v2 C1) => (same_chgs v1 v2 C1 C1 W h1 h2 (by omega) (by omega)).mono (R' := fun e w' => e = .returned (.bool true) ∧ Below W.heap.size W w') (fun e w' ⟨h1, q, h2, h3⟩ => ⟨by rw [h2, h3.2 rfl], h1⟩))
  have HSd := Lib.hid (fun e x W (h : ErrW e x) (hW : Below w.heap.size w W) => said10_any e x W h (Hg.out W hW))
  have HW := Lib.hid (fun W (hW : Below w.heap.size w W) => works10_any W (Hg.out W hW))
  obtain ⟨n1, hn1⟩ : ∃ n, n = C1.length := ⟨_, rfl⟩
  have HN1 := Lib.hid hn1
  have hm1 : n1 ≤ 4194304 := by omega
  unfold fltA at HR1 HSd
  clear ha hc hg sa sc hx1 hC1 hR1 hD1 hcl1 hn1
  go_enter Tryz.func5, Tryz.ntmps5
  go_wp2_with fail
  refine (HR1.out w (Below.refl _ _)).mono ?_
  rintro r w2 ⟨hb, v5, rfl, h5⟩
  have B2 := Lib.hid hb
  have P2 := Lib.hid h5
  clear hb h5
  go_wp2_with fail
  obtain ⟨w2b, hw2b⟩ : ∃ z, z = w2.alloc (.cells #[.int .i64 ((x1).1 : Int), .int .i64 ((x1).2.1 : Int), .int .i64 ((x1).2.2 : Int)] 25) := ⟨_, rfl⟩
  have hbb : Below w2.heap.size w2 w2b := by rw [hw2b]; exact (Below.refl _ _).alloc (Nat.le_refl _) _
  have F2b := Lib.hid (show w2b.heap[w2.heap.size]? = some (.cells #[.int .i64 ((x1).1 : Int), .int .i64 ((x1).2.1 : Int), .int .i64 ((x1).2.2 : Int)] 25 (0, 0)) by rw [hw2b]; exact World.alloc_heap_new _ _)
  have P2b := Lib.hid (ItemsAt.below P2.out hbb (Nat.le_refl _))
  have B2b := Lib.hid (B2.out.trans (hbb.mono B2.out.size))
  rw [← hw2b]
  generalize w2.heap.size = f1 at *
  clear hw2b hbb P2 B2
  go_wp2_with fail
  refine (HLa.out w2b B2b.out).mono ?_
  rintro r w3 ⟨v9, rfl, h9, hb⟩
  have F3 := Lib.hid ((hb.block f1 (heap_lt F2b.out)).trans F2b.out)
  have P3 := Lib.hid (ItemsAt.below P2b.out hb (Nat.le_refl _))
  have B3 := Lib.hid (B2b.out.trans (hb.mono B2b.out.size))
  have X3 := Lib.hid h9
  clear h9
  clear hb F2b P2b B2b
  go_wp2_with fail
  refine (HLb.out w3 B3.out).mono ?_
  rintro r w4 ⟨v10, rfl, h10, hb⟩
  have F4 := Lib.hid ((hb.block f1 (heap_lt F3.out)).trans F3.out)
  have P4 := Lib.hid (ItemsAt.below P3.out hb (Nat.le_refl _))
  have B4 := Lib.hid (B3.out.trans (hb.mono B3.out.size))
  have X4 := Lib.hid (X3.out.below hb (Nat.le_refl _))
  have Y4 := Lib.hid h10
  clear h10
  clear hb F3 P3 B3 X3
  have D4 := Lib.hid (Below.refl w4.heap.size w4)
  have X4k := X4
  have Y4k := Y4
  have Hw4 := Lib.hid B4.out.size
  go_wp2_with fail
  refine (HD1.out v9 v10 w4 X4.out.ents Y4.out.ents B4.out).mono ?_
  rintro r w5 ⟨hb, v11, e12, rfl, he12, hr11, hz11⟩
  have F5 := Lib.hid ((hb.block f1 (heap_lt F4.out)).trans F4.out)
  have P5 := Lib.hid (ItemsAt.below P4.out hb (Nat.le_refl _))
  have B5 := Lib.hid (B4.out.trans (hb.mono B4.out.size))
  have X5 := Lib.hid (X4.out.below hb (Nat.le_refl _))
  have Y5 := Lib.hid (Y4.out.below hb (Nat.le_refl _))
  have D5 := Lib.hid (D4.out.trans (hb.mono D4.out.size))
  have Hl45 := Lib.hid (show w4.heap.size ≤ w5.heap.size from hb.size)
  have R5 := Lib.hid hr11
  have E12 := Lib.hid he12
  have Z11 := Lib.hid hz11
  clear hr11 he12 hz11
  clear hb F4 P4 B4 X4 Y4 D4
  go_wp2_with fail
  refine (HD1.out v9 v10 w5 X5.out.ents Y5.out.ents B5.out).mono ?_
  rintro r w6 ⟨hb, v13, e14, rfl, he14, hr13, hz13⟩
  have F6 := Lib.hid ((hb.block f1 (heap_lt F5.out)).trans F5.out)
  have P6 := Lib.hid (ItemsAt.below P5.out hb (Nat.le_refl _))
  have B6 := Lib.hid (B5.out.trans (hb.mono B5.out.size))
  have X6 := Lib.hid (X5.out.below hb (Nat.le_refl _))
  have Y6 := Lib.hid (Y5.out.below hb (Nat.le_refl _))
  have D6 := Lib.hid (D5.out.trans (hb.mono D5.out.size))
  have R6 := Lib.hid (row_belowE R5.out hb)
  have S6 := Lib.hid hr13
  have E14 := Lib.hid he14
  have Z13 := Lib.hid hz13
  have U13 := Lib.hid (fun b h => (own_lo R5.out (b := b) h).2)
  clear hr13 he14 hz13
  clear hb F5 P5 B5 X5 Y5 D5 R5
  go_wp2_with (refine flt_load (by rfl) _ _ rfl f1 rfl [.int .i64 ((x1).1 : Int), .int .i64 ((x1).2.1 : Int), .int .i64 ((x1).2.2 : Int)] _ _ F6.out Tryz.underlying25 rfl (by kernel_rfl) ?_)
  refine (HSd.out e12 x1 w6 E12.out B6.out).mono ?_
  rintro r w8 ⟨rfl, hb⟩
  have F8 := Lib.hid ((hb.block f1 (heap_lt F6.out)).trans F6.out)
  have P8 := Lib.hid (ItemsAt.below P6.out hb (Nat.le_refl _))
  have B8 := Lib.hid (B6.out.trans (hb.mono B6.out.size))
  have X8 := Lib.hid (X6.out.below hb (Nat.le_refl _))
  have Y8 := Lib.hid (Y6.out.below hb (Nat.le_refl _))
  have D8 := Lib.hid (D6.out.trans (hb.mono D6.out.size))
  have R8 := Lib.hid (row_belowE R6.out hb)
  have S8 := Lib.hid (row_belowE S6.out hb)
  clear hb F6 P6 B6 X6 Y6 D6 R6 S6
  go_wp2_with (refine flt_load (by rfl) _ _ rfl f1 rfl [.int .i64 ((x1).1 : Int), .int .i64 ((x1).2.1 : Int), .int .i64 ((x1).2.2 : Int)] _ _ F8.out Tryz.underlying25 rfl (by kernel_rfl) ?_)
  refine (HSd.out e14 x1 w8 E14.out B8.out).mono ?_
  rintro r w9 ⟨rfl, hb⟩
  have F9 := Lib.hid ((hb.block f1 (heap_lt F8.out)).trans F8.out)
  have P9 := Lib.hid (ItemsAt.below P8.out hb (Nat.le_refl _))
  have B9 := Lib.hid (B8.out.trans (hb.mono B8.out.size))
  have X9 := Lib.hid (X8.out.below hb (Nat.le_refl _))
  have Y9 := Lib.hid (Y8.out.below hb (Nat.le_refl _))
  have D9 := Lib.hid (D8.out.trans (hb.mono D8.out.size))
  have R9 := Lib.hid (row_belowE R8.out hb)
  have S9 := Lib.hid (row_belowE S8.out hb)
  clear hb F8 P8 B8 X8 Y8 D8 R8 S8
  go_wp2_with fail
  refine (HS1.out v11 v5 w9 (RowE.chgs R9.out) P9.out).mono ?_
  rintro r w11 ⟨rfl, hb⟩
  have F11 := Lib.hid ((hb.block f1 (heap_lt F9.out)).trans F9.out)
  have P11 := Lib.hid (ItemsAt.below P9.out hb (Nat.le_refl _))
  have B11 := Lib.hid (B9.out.trans (hb.mono B9.out.size))
  have X11 := Lib.hid (X9.out.below hb (Nat.le_refl _))
  have Y11 := Lib.hid (Y9.out.below hb (Nat.le_refl _))
  have D11 := Lib.hid (D9.out.trans (hb.mono D9.out.size))
  have R11 := Lib.hid (row_belowE R9.out hb)
  have S11 := Lib.hid (row_belowE S9.out hb)
  clear hb F9 P9 B9 X9 Y9 D9 R9 S9
  go_wp2_with fail
  refine (HS1.out v13 v5 w11 (RowE.chgs S11.out) P11.out).mono ?_
  rintro r w13 ⟨rfl, hb⟩
  have F13 := Lib.hid ((hb.block f1 (heap_lt F11.out)).trans F11.out)
  have P13 := Lib.hid (ItemsAt.below P11.out hb (Nat.le_refl _))
  have B13 := Lib.hid (B11.out.trans (hb.mono B11.out.size))
  have X13 := Lib.hid (X11.out.below hb (Nat.le_refl _))
  have Y13 := Lib.hid (Y11.out.below hb (Nat.le_refl _))
  have D13 := Lib.hid (D11.out.trans (hb.mono D11.out.size))
  have R13 := Lib.hid (row_belowE R11.out hb)
  have S13 := Lib.hid (row_belowE S11.out hb)
  clear hb F11 P11 B11 X11 Y11 D11 R11 S11
  obtain ⟨o11, c11, rfl, i11, j11, _⟩ := RowE.chgs R13.out
  obtain ⟨o13, c13, rfl, i13, j13, _⟩ := RowE.chgs S13.out
  obtain ⟨wd, hwd⟩ : ∃ z, z = w13.alloc (.cells #[.slice o11 C1.length c11, .slice o13 C1.length c13] 23) := ⟨_, rfl⟩
  have hbd : Below w13.heap.size w13 wd := by rw [hwd]; exact (Below.refl _ _).alloc (Nat.le_refl _) _
  have hcd : wd.heap[w13.heap.size]? = some (.cells #[.slice o11 C1.length c11, .slice o13 C1.length c13] 23 (0, 0)) := by rw [hwd]; exact World.alloc_heap_new _ _
  have hDd := D13.out.trans (hbd.mono D13.out.size)
  have hl45 := Hl45.out
  have e11 : ApChanges.RowE wd w4.heap.size (.slice o11 C1.length c11) n1 C1 := apC HN1.out (row_belowE R13.out hbd) Z11.out (Nat.le_refl _)
  have e13 : ApChanges.RowE wd w4.heap.size (.slice o13 C1.length c13) n1 C1 := apC HN1.out (row_belowE S13.out hbd) Z13.out hl45
  have d12 : ∀ b, (Value.slice o11 C1.length c11).ownBlock = some b → (Value.slice o13 C1.length c13).ownBlock ≠ some b := fun b h1 h2 => by
    have h3 := U13.out b h1
    have h4 := (own_lo S13.out h2).1
    omega
  have happ : Calls Tryz.prog 15 #[.slice (some ⟨w13.heap.size, 0, none⟩) 2 2] wd fun r w' => r = .returned (.bool true) ∧ Below w4.heap.size wd w' := ApChanges.apart_any [(.slice o11 C1.length c11, n1), (.slice o13 C1.length c13, n1)] w13.heap.size w4.heap.size 2 wd (show 2 ≤ 200 by decide) (Nat.le_refl _) (by unfold maxLen; omega) hDd.size hcd
    (fun j x n hj => by
      match j, hj with
      | 0, hj => injection hj with hj; injection hj with e1 e2; subst e1; subst e2; exact ⟨_, e11⟩
      | 1, hj => injection hj with hj; injection hj with e1 e2; subst e1; subst e2; exact ⟨_, e13⟩)
    (fun j k x n x' n' hjk hj hk => by
      match j, k, hj, hk, hjk with
      | 0, 0, _, _, h => exact absurd rfl h
      | 1, 1, _, _, h => exact absurd rfl h
      | 0, 1, hj, hk, _ => injection hj with hj; injection hj with e1 e2; injection hk with hk; injection hk with e3 e4; subst e1 e3; exact d12
      | 1, 0, hj, hk, _ => injection hj with hj; injection hj with e1 e2; injection hk with hk; injection hk with e3 e4; subst e1 e3; exact fun b h1 h2 => d12 b h2 h1)
    (fun j x n hj => by
      match j, hj with
      | 0, hj => injection hj with hj; injection hj with e1 e2; omega
      | 1, hj => injection hj with hj; injection hj with e1 e2; omega)
  have Happ := Lib.hid happ
  have Hwd := Lib.hid hwd
  have hXd := Lib.hid (show Below w4.heap.size w4 wd from hDd)
  have hBd := Lib.hid (B13.out.trans (hbd.mono B13.out.size))
  clear happ hwd hcd hDd e11 e13 d12 R13 S13 Z11 Z13 U13 F13 P13 hbd i11 j11 i13 j13 hl45 X13 Y13 D13 B13
  go_wp2_with fail
  rw [← Hwd.out]
  refine Happ.out.mono ?_
  rintro r w14 ⟨rfl, hb⟩
  have D14 := Lib.hid (hXd.out.trans hb)
  have B14 := Lib.hid (hBd.out.trans (hb.mono (by have := Hw4.out; omega)))
  have X14 := Lib.hid (X4k.out.below D14.out (Nat.le_refl _))
  have Y14 := Lib.hid (Y4k.out.below D14.out (Nat.le_refl _))
  clear hb
  go_wp2_with fail
  refine (HKa.out v9 _ w14 B14.out X14.out).mono ?_
  rintro r w15 ⟨rfl, hb⟩
  have B15 := Lib.hid (B14.out.trans (hb.mono B14.out.size))
  have Y15 := Lib.hid (Y14.out.below hb (Nat.le_refl _))
  clear hb
  go_wp2_with fail
  refine (HKb.out v10 _ w15 B15.out Y15.out).mono ?_
  rintro r w16 ⟨rfl, hb⟩
  have B16 := Lib.hid (B15.out.trans (hb.mono B15.out.size))
  clear hb
  go_wp2_with fail
  refine (HW.out w16 B16.out).mono ?_
  rintro r w17 ⟨rfl, hb⟩
  have B17 := Lib.hid (B16.out.trans (hb.mono B16.out.size))
  clear hb
  go_wp2_with fail
  go_ret
  exact ⟨rfl, B17.out⟩
end Go.Proofs.YtipfccfjniglbaaGreatDoor
