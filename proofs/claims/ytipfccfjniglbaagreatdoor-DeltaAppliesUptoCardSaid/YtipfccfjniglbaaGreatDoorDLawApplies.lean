/- The law DeltaApplies. Printed by mklapp.py. -/
import Derived.Test.YtipfccfjniglbaaGreatDoorJRel
import Derived.Test.YtipfccfjniglbaaGreatDoorDLawDiffs
import Derived.Test.YtipfccfjniglbaaGreatDoorApEnts
set_option linter.unusedSimpArgs false
set_option linter.unusedVariables false
namespace Go.Proofs.YtipfccfjniglbaaGreatDoor
open Go.RowKit Go.Maps Go.Shelf
open Go.Lib hiding intOf size_eq
theorem applyE_len (T : List Ent) (C : List Chg) : (applyE (applyL T C)).length ≤ 4096 := by
  cases h : applyL T C with
  | error x => exact Nat.zero_le _
  | ok L => exact (applyL_good (fun h => good_of_check h) h).2.len
theorem apply_uni (va vl : Value) (T : List Ent) (C : List Chg) (w : World) (ha : EntsAt w va T) (hc : ChgsAt w vl C) (sa : Small T) (sc : SmallC C) (hlT : T.length ≤ 1048576) (hlC : C.length ≤ 1048576) (hg : Handle w) :
    Calls Tryz.prog 20 #[va, vl] w fun r w' => Below w.heap.size w w' ∧ ∃ v e, r = .returned (.tuple #[v, e]) ∧ ErrW e (applyN (applyL T C)) ∧ RowE w' w.heap.size v (applyE (applyL T C)) := by
  refine (apply_any va vl T C w ha hc sa sc hlT hlC hg).mono ?_
  rintro r w' ⟨h1, v, e, h2, h3⟩
  refine ⟨h1, v, e, h2, ?_⟩
  rcases applyN_err (T := T) (C := C) with ⟨L, hA⟩ | ⟨⟨n, ln, at_⟩, hA, n1, n2⟩
  · rw [hA]
    obtain ⟨h4, h5⟩ := h3.ok L hA
    exact ⟨.inl ⟨rfl, h4, rfl⟩, h5⟩
  · rw [hA]
    obtain ⟨h4, h5⟩ := h3.err n ln at_ hA
    subst h4
    exact ⟨.inr ⟨n1, n2, h5⟩, World.ownsRow_nil _ _ _ _⟩
theorem apE {W : World} {base B n : Nat} {v : Value} {L : List Ent} (hn : n = L.length) (h : RowE W B v L) (hB : base ≤ B) : ApEnts.RowE W base v n L := by
  subst hn
  exact ⟨ownsRow_base h hB, fun h1 => h1⟩
set_option maxRecDepth 100000 in
set_option maxHeartbeats 16000000 in
theorem deltaApplies_any (va vl : Value) (T : List Ent) (C : List Chg) (w : World) (ha : EntsAt w va T) (hc : ChgsAt w vl C) (sa : ∀ x ∈ T, x.p.size ≤ 1048576 ∧ x.d.size ≤ 1048576 ∧ x.l.size ≤ 1048576) (sc : ∀ c ∈ C, c.p.size ≤ 1048576 ∧ c.e.p.size ≤ 1048576 ∧ c.e.d.size ≤ 1048576 ∧ c.e.l.size ≤ 1048576) (la : T.length ≤ 1048576) (lc : C.length ≤ 1048576) (hg : Handle w) :
    Calls Tryz.prog 4 #[va, vl] w fun r w' => r = .returned (.bool true) ∧ Below w.heap.size w w' := by
  have HA := Lib.hid (fun W (hW : Below w.heap.size w W) => ha.below hW (Nat.le_refl _))
  have HC := Lib.hid (fun W (hW : Below w.heap.size w W) => ItemsAt.below hc hW (Nat.le_refl _))
  have Hg := Lib.hid (fun W (hW : Below w.heap.size w W) => hg.below hW (Nat.le_refl _))
  have hcl1 := applyE_len T C
  have hcl2 := applyE_len T []
  obtain ⟨x1, hx1⟩ : ∃ x, x = applyN (applyL T C) := ⟨_, rfl⟩
  obtain ⟨L1, hL1⟩ : ∃ x, x = applyE (applyL T C) := ⟨_, rfl⟩
  obtain ⟨x2, hx2⟩ : ∃ x, x = applyN (applyL T []) := ⟨_, rfl⟩
  obtain ⟨L2, hL2⟩ : ∃ x, x = applyE (applyL T []) := ⟨_, rfl⟩
  have sc0 : ∀ c ∈ ([] : List Chg), c.p.size ≤ 1048576 ∧ c.e.p.size ≤ 1048576 ∧ c.e.d.size ≤ 1048576 ∧ c.e.l.size ≤ 1048576 := fun c h => by cases h
  have hR1 := fun W (hW : Below w.heap.size w W) => rapply10_any va vl T C W (HA.out W hW) (HC.out W hW) sa sc la lc
  have hR2 := fun W (hW : Below w.heap.size w W) => rapply10_any va (.slice none 0 0) T [] W (HA.out W hW) (ItemsAt.nil W) sa sc0 la (by decide)
  have hD1 := fun u v W (hu : EntsAt W u T) (hv : ChgsAt W v C) (hW : Below w.heap.size w W) => apply_uni u v T C W hu hv (small_le sa) (smallC_le sc) la lc (Hg.out W hW)
  have hD2 := fun u W (hu : EntsAt W u T) (hW : Below w.heap.size w W) => apply_uni u (.slice none 0 0) T [] W hu (ItemsAt.nil W) (small_le sa) (smallC_le sc0) la (by decide) (Hg.out W hW)
  rw [← hx1, ← hL1] at hR1 hD1
  rw [← hx2, ← hL2] at hR2 hD2
  rw [← hL1] at hcl1
  rw [← hL2] at hcl2
  have HR1 := Lib.hid hR1
  have HD1 := Lib.hid hD1
  have HR2 := Lib.hid hR2
  have HD2 := Lib.hid hD2
  have HLa := Lib.hid (fun W (hW : Below w.heap.size w W) => lent_any va T W (HA.out W hW) (by omega))
  have HLb := Lib.hid (fun W (hW : Below w.heap.size w W) => lentC_any vl C W (HC.out W hW) (by omega))
  have HKa := Lib.hid (fun v base W (hW : Below w.heap.size w W) (hv : LentAt W base v T) => kept_any v va T base W hv (HA.out W hW) la)
  have HKb := Lib.hid (fun v base W (hW : Below w.heap.size w W) (hv : LentC W base v C) => keptC_any v vl C base W hv (HC.out W hW) lc)
  have HS1 := Lib.hid (fun v1 v2 W (h1 : EntsAt W v1 L1) (h2 : EntsAt W v2 L1) => (same_ents v1 v2 L1 L1 W h1 h2 (by omega) (by omega)).mono (R' := fun e w' => e = .returned (.bool true) ∧ Below W.heap.size W w') (fun e w' ⟨h1, q, h2, h3⟩ => ⟨by rw [h2, h3.2 rfl], h1⟩))
  have HS2 := Lib.hid (fun v1 v2 W (h1 : EntsAt W v1 L2) (h2 : EntsAt W v2 L2) => (same_ents v1 v2 L2 L2 W h1 h2 (by omega) (by omega)).mono (R' := fun e w' => e = .returned (.bool true) ∧ Below W.heap.size W w') (fun e w' ⟨h1, q, h2, h3⟩ => ⟨by rw [h2, h3.2 rfl], h1⟩))
  have HSd := Lib.hid (fun e x W (h : ErrW e x) (hW : Below w.heap.size w W) => said10_any e x W h (Hg.out W hW))
  have HW := Lib.hid (fun W (hW : Below w.heap.size w W) => works10_any W (Hg.out W hW))
  obtain ⟨n1, hn1⟩ : ∃ n, n = L1.length := ⟨_, rfl⟩
  obtain ⟨n2, hn2⟩ : ∃ n, n = L2.length := ⟨_, rfl⟩
  have HN1 := Lib.hid hn1
  have HN2 := Lib.hid hn2
  have hm1 : n1 ≤ 4194304 := by omega
  have hm2 : n2 ≤ 4194304 := by omega
  unfold fltA at HR1 HR2 HSd
  clear ha hc hg sa sc sc0 hx1 hx2 hL1 hL2 hR1 hR2 hD1 hD2 hcl1 hcl2 hn1 hn2
  go_enter Tryz.func4, Tryz.ntmps4
  go_wp2_with fail
  refine (HR1.out w (Below.refl _ _)).mono ?_
  rintro r w2 ⟨hb, v5, rfl, h5⟩
  have B2 := Lib.hid hb
  have P2 := Lib.hid h5
  clear hb h5
  go_wp2_with fail
  obtain ⟨w2b, hw2b⟩ : ∃ z, z = w2.alloc (.cells #[.int .i64 ((x1).1 : Int), .int .i64 ((x1).2.1 : Int), .int .i64 ((x1).2.2 : Int)] 25) := ⟨_, rfl⟩
  have hbb : Below w2.heap.size w2 w2b := by rw [hw2b]; exact (Below.refl _ _).alloc (Nat.le_refl _) _
  have F2b := Lib.hid (show w2b.heap[w2.heap.size]? = some (.cells #[.int .i64 ((x1).1 : Int), .int .i64 ((x1).2.1 : Int), .int .i64 ((x1).2.2 : Int)] 25 (0, 0)) by rw [hw2b]; exact World.alloc_heap_new _ _)
  have P2b := Lib.hid (P2.out.below hbb (Nat.le_refl _))
  have B2b := Lib.hid (B2.out.trans (hbb.mono B2.out.size))
  rw [← hw2b]
  generalize w2.heap.size = f1 at *
  clear hw2b hbb P2 B2
  go_wp2_with fail
  refine (HLa.out w2b B2b.out).mono ?_
  rintro r w3 ⟨v9, rfl, h9, hb⟩
  have F3 := Lib.hid ((hb.block f1 (heap_lt F2b.out)).trans F2b.out)
  have P3 := Lib.hid (P2b.out.below hb (Nat.le_refl _))
  have B3 := Lib.hid (B2b.out.trans (hb.mono B2b.out.size))
  have X3 := Lib.hid h9
  clear h9
  clear hb F2b P2b B2b
  go_wp2_with fail
  refine (HLb.out w3 B3.out).mono ?_
  rintro r w4 ⟨v10, rfl, h10, hb⟩
  have F4 := Lib.hid ((hb.block f1 (heap_lt F3.out)).trans F3.out)
  have P4 := Lib.hid (P3.out.below hb (Nat.le_refl _))
  have B4 := Lib.hid (B3.out.trans (hb.mono B3.out.size))
  have X4 := Lib.hid (X3.out.below hb (Nat.le_refl _))
  have Y4 := Lib.hid h10
  clear h10
  clear hb F3 P3 B3 X3
  have D4 := Lib.hid (Below.refl w4.heap.size w4)
  have X4k := X4
  have Y4k := Y4
  have Hw4 := Lib.hid B4.out.size
  go_wp2_with fail
  refine (HD1.out v9 v10 w4 X4.out.ents Y4.out.ents B4.out).mono ?_
  rintro r w5 ⟨hb, v11, e12, rfl, he12, hr11⟩
  have F5 := Lib.hid ((hb.block f1 (heap_lt F4.out)).trans F4.out)
  have P5 := Lib.hid (P4.out.below hb (Nat.le_refl _))
  have B5 := Lib.hid (B4.out.trans (hb.mono B4.out.size))
  have X5 := Lib.hid (X4.out.below hb (Nat.le_refl _))
  have Y5 := Lib.hid (Y4.out.below hb (Nat.le_refl _))
  have D5 := Lib.hid (D4.out.trans (hb.mono D4.out.size))
  have Hl45 := Lib.hid (show w4.heap.size ≤ w5.heap.size from hb.size)
  have R5 := Lib.hid hr11
  have E12 := Lib.hid he12
  clear hr11 he12
  clear hb F4 P4 B4 X4 Y4 D4
  go_wp2_with fail
  refine (HD1.out v9 v10 w5 X5.out.ents Y5.out.ents B5.out).mono ?_
  rintro r w6 ⟨hb, v13, e14, rfl, he14, hr13⟩
  have F6 := Lib.hid ((hb.block f1 (heap_lt F5.out)).trans F5.out)
  have P6 := Lib.hid (P5.out.below hb (Nat.le_refl _))
  have B6 := Lib.hid (B5.out.trans (hb.mono B5.out.size))
  have X6 := Lib.hid (X5.out.below hb (Nat.le_refl _))
  have Y6 := Lib.hid (Y5.out.below hb (Nat.le_refl _))
  have D6 := Lib.hid (D5.out.trans (hb.mono D5.out.size))
  have R6 := Lib.hid (row_belowE R5.out hb)
  have S6 := Lib.hid hr13
  have E14 := Lib.hid he14
  have L56 := Lib.hid (show w5.heap.size ≤ w6.heap.size from hb.size)
  have U13 := Lib.hid (fun b h => (own_lo R5.out (b := b) h).2)
  clear hr13 he14
  clear hb F5 P5 B5 X5 Y5 D5 R5
  go_wp2_with fail
  refine (HD2.out v9 w6 X6.out.ents B6.out).mono ?_
  rintro r w7 ⟨hb, v15, e16, rfl, he16, hr15⟩
  have F7 := Lib.hid ((hb.block f1 (heap_lt F6.out)).trans F6.out)
  have P7 := Lib.hid (P6.out.below hb (Nat.le_refl _))
  have B7 := Lib.hid (B6.out.trans (hb.mono B6.out.size))
  have X7 := Lib.hid (X6.out.below hb (Nat.le_refl _))
  have Y7 := Lib.hid (Y6.out.below hb (Nat.le_refl _))
  have D7 := Lib.hid (D6.out.trans (hb.mono D6.out.size))
  have R7 := Lib.hid (row_belowE R6.out hb)
  have S7 := Lib.hid (row_belowE S6.out hb)
  have T7 := Lib.hid hr15
  have E16 := Lib.hid he16
  have U15 := Lib.hid (fun b h => (own_lo S6.out (b := b) h).2)
  clear hr15 he16
  clear hb F6 P6 B6 X6 Y6 D6 R6 S6
  go_wp2_with fail
  refine (HR2.out w7 B7.out).mono ?_
  rintro r w7a ⟨hb, v17, rfl, h17⟩
  have F7a := Lib.hid ((hb.block f1 (heap_lt F7.out)).trans F7.out)
  have P7a := Lib.hid (P7.out.below hb (Nat.le_refl _))
  have B7a := Lib.hid (B7.out.trans (hb.mono B7.out.size))
  have X7a := Lib.hid (X7.out.below hb (Nat.le_refl _))
  have Y7a := Lib.hid (Y7.out.below hb (Nat.le_refl _))
  have D7a := Lib.hid (D7.out.trans (hb.mono D7.out.size))
  have R7a := Lib.hid (row_belowE R7.out hb)
  have S7a := Lib.hid (row_belowE S7.out hb)
  have T7a := Lib.hid (row_belowE T7.out hb)
  have Q7a := Lib.hid h17
  clear h17
  clear hb F7 P7 B7 X7 Y7 D7 R7 S7 T7
  go_wp2_with (refine flt_load (by rfl) _ _ rfl f1 rfl [.int .i64 ((x1).1 : Int), .int .i64 ((x1).2.1 : Int), .int .i64 ((x1).2.2 : Int)] _ _ ((((Below.refl w7a.heap.size w7a).alloc (Nat.le_refl _) _).block f1 (heap_lt F7a.out)).trans F7a.out) Tryz.underlying25 rfl (by kernel_rfl) ?_)
  obtain ⟨w7b, hw7b⟩ : ∃ z, z = w7a.alloc (.cells #[.int .i64 ((x2).1 : Int), .int .i64 ((x2).2.1 : Int), .int .i64 ((x2).2.2 : Int)] 25) := ⟨_, rfl⟩
  have hb : Below w7a.heap.size w7a w7b := by rw [hw7b]; exact (Below.refl _ _).alloc (Nat.le_refl _) _
  have G7b := Lib.hid (show w7b.heap[w7a.heap.size]? = some (.cells #[.int .i64 ((x2).1 : Int), .int .i64 ((x2).2.1 : Int), .int .i64 ((x2).2.2 : Int)] 25 (0, 0)) by rw [hw7b]; exact World.alloc_heap_new _ _)
  have F7b := Lib.hid ((hb.block f1 (heap_lt F7a.out)).trans F7a.out)
  have P7b := Lib.hid (P7a.out.below hb (Nat.le_refl _))
  have B7b := Lib.hid (B7a.out.trans (hb.mono B7a.out.size))
  have X7b := Lib.hid (X7a.out.below hb (Nat.le_refl _))
  have Y7b := Lib.hid (Y7a.out.below hb (Nat.le_refl _))
  have D7b := Lib.hid (D7a.out.trans (hb.mono D7a.out.size))
  have R7b := Lib.hid (row_belowE R7a.out hb)
  have S7b := Lib.hid (row_belowE S7a.out hb)
  have T7b := Lib.hid (row_belowE T7a.out hb)
  have Q7b := Lib.hid (Q7a.out.below hb (Nat.le_refl _))
  rw [← hw7b]
  generalize w7a.heap.size = f2 at *
  clear hw7b hb F7a P7a B7a X7a Y7a D7a R7a S7a T7a Q7a
  refine (HSd.out e12 x1 w7b E12.out B7b.out).mono ?_
  rintro r w8 ⟨rfl, hb⟩
  have F8 := Lib.hid ((hb.block f1 (heap_lt F7b.out)).trans F7b.out)
  have P8 := Lib.hid (P7b.out.below hb (Nat.le_refl _))
  have B8 := Lib.hid (B7b.out.trans (hb.mono B7b.out.size))
  have X8 := Lib.hid (X7b.out.below hb (Nat.le_refl _))
  have Y8 := Lib.hid (Y7b.out.below hb (Nat.le_refl _))
  have D8 := Lib.hid (D7b.out.trans (hb.mono D7b.out.size))
  have R8 := Lib.hid (row_belowE R7b.out hb)
  have S8 := Lib.hid (row_belowE S7b.out hb)
  have T8 := Lib.hid (row_belowE T7b.out hb)
  have Q8 := Lib.hid (Q7b.out.below hb (Nat.le_refl _))
  have G8 := Lib.hid ((hb.block f2 (heap_lt G7b.out)).trans G7b.out)
  clear hb F7b P7b B7b X7b Y7b D7b R7b S7b T7b Q7b G7b
  go_wp2_with (refine flt_load (by rfl) _ _ rfl f1 rfl [.int .i64 ((x1).1 : Int), .int .i64 ((x1).2.1 : Int), .int .i64 ((x1).2.2 : Int)] _ _ F8.out Tryz.underlying25 rfl (by kernel_rfl) ?_)
  refine (HSd.out e14 x1 w8 E14.out B8.out).mono ?_
  rintro r w9 ⟨rfl, hb⟩
  have F9 := Lib.hid ((hb.block f1 (heap_lt F8.out)).trans F8.out)
  have P9 := Lib.hid (P8.out.below hb (Nat.le_refl _))
  have B9 := Lib.hid (B8.out.trans (hb.mono B8.out.size))
  have X9 := Lib.hid (X8.out.below hb (Nat.le_refl _))
  have Y9 := Lib.hid (Y8.out.below hb (Nat.le_refl _))
  have D9 := Lib.hid (D8.out.trans (hb.mono D8.out.size))
  have R9 := Lib.hid (row_belowE R8.out hb)
  have S9 := Lib.hid (row_belowE S8.out hb)
  have T9 := Lib.hid (row_belowE T8.out hb)
  have Q9 := Lib.hid (Q8.out.below hb (Nat.le_refl _))
  have G9 := Lib.hid ((hb.block f2 (heap_lt G8.out)).trans G8.out)
  clear hb F8 P8 B8 X8 Y8 D8 R8 S8 T8 Q8 G8
  go_wp2_with (refine flt_load (by rfl) _ _ rfl f2 rfl [.int .i64 ((x2).1 : Int), .int .i64 ((x2).2.1 : Int), .int .i64 ((x2).2.2 : Int)] _ _ G9.out Tryz.underlying25 rfl (by kernel_rfl) ?_)
  refine (HSd.out e16 x2 w9 E16.out B9.out).mono ?_
  rintro r w10 ⟨rfl, hb⟩
  have F10 := Lib.hid ((hb.block f1 (heap_lt F9.out)).trans F9.out)
  have P10 := Lib.hid (P9.out.below hb (Nat.le_refl _))
  have B10 := Lib.hid (B9.out.trans (hb.mono B9.out.size))
  have X10 := Lib.hid (X9.out.below hb (Nat.le_refl _))
  have Y10 := Lib.hid (Y9.out.below hb (Nat.le_refl _))
  have D10 := Lib.hid (D9.out.trans (hb.mono D9.out.size))
  have R10 := Lib.hid (row_belowE R9.out hb)
  have S10 := Lib.hid (row_belowE S9.out hb)
  have T10 := Lib.hid (row_belowE T9.out hb)
  have Q10 := Lib.hid (Q9.out.below hb (Nat.le_refl _))
  have G10 := Lib.hid ((hb.block f2 (heap_lt G9.out)).trans G9.out)
  clear hb F9 P9 B9 X9 Y9 D9 R9 S9 T9 Q9 G9
  go_wp2_with fail
  refine (HS1.out v11 v5 w10 (RowE.ents R10.out) P10.out).mono ?_
  rintro r w11 ⟨rfl, hb⟩
  have F11 := Lib.hid ((hb.block f1 (heap_lt F10.out)).trans F10.out)
  have P11 := Lib.hid (P10.out.below hb (Nat.le_refl _))
  have B11 := Lib.hid (B10.out.trans (hb.mono B10.out.size))
  have X11 := Lib.hid (X10.out.below hb (Nat.le_refl _))
  have Y11 := Lib.hid (Y10.out.below hb (Nat.le_refl _))
  have D11 := Lib.hid (D10.out.trans (hb.mono D10.out.size))
  have R11 := Lib.hid (row_belowE R10.out hb)
  have S11 := Lib.hid (row_belowE S10.out hb)
  have T11 := Lib.hid (row_belowE T10.out hb)
  have Q11 := Lib.hid (Q10.out.below hb (Nat.le_refl _))
  have G11 := Lib.hid ((hb.block f2 (heap_lt G10.out)).trans G10.out)
  clear hb F10 P10 B10 X10 Y10 D10 R10 S10 T10 Q10 G10
  go_wp2_with fail
  refine (HS1.out v13 v5 w11 (RowE.ents S11.out) P11.out).mono ?_
  rintro r w12 ⟨rfl, hb⟩
  have F12 := Lib.hid ((hb.block f1 (heap_lt F11.out)).trans F11.out)
  have P12 := Lib.hid (P11.out.below hb (Nat.le_refl _))
  have B12 := Lib.hid (B11.out.trans (hb.mono B11.out.size))
  have X12 := Lib.hid (X11.out.below hb (Nat.le_refl _))
  have Y12 := Lib.hid (Y11.out.below hb (Nat.le_refl _))
  have D12 := Lib.hid (D11.out.trans (hb.mono D11.out.size))
  have R12 := Lib.hid (row_belowE R11.out hb)
  have S12 := Lib.hid (row_belowE S11.out hb)
  have T12 := Lib.hid (row_belowE T11.out hb)
  have Q12 := Lib.hid (Q11.out.below hb (Nat.le_refl _))
  have G12 := Lib.hid ((hb.block f2 (heap_lt G11.out)).trans G11.out)
  clear hb F11 P11 B11 X11 Y11 D11 R11 S11 T11 Q11 G11
  go_wp2_with fail
  refine (HS2.out v15 v17 w12 (RowE.ents T12.out) Q12.out).mono ?_
  rintro r w13 ⟨rfl, hb⟩
  have F13 := Lib.hid ((hb.block f1 (heap_lt F12.out)).trans F12.out)
  have P13 := Lib.hid (P12.out.below hb (Nat.le_refl _))
  have B13 := Lib.hid (B12.out.trans (hb.mono B12.out.size))
  have X13 := Lib.hid (X12.out.below hb (Nat.le_refl _))
  have Y13 := Lib.hid (Y12.out.below hb (Nat.le_refl _))
  have D13 := Lib.hid (D12.out.trans (hb.mono D12.out.size))
  have R13 := Lib.hid (row_belowE R12.out hb)
  have S13 := Lib.hid (row_belowE S12.out hb)
  have T13 := Lib.hid (row_belowE T12.out hb)
  have Q13 := Lib.hid (Q12.out.below hb (Nat.le_refl _))
  have G13 := Lib.hid ((hb.block f2 (heap_lt G12.out)).trans G12.out)
  clear hb F12 P12 B12 X12 Y12 D12 R12 S12 T12 Q12 G12
  obtain ⟨o11, c11, rfl, i11, j11, _⟩ := RowE.ents R13.out
  obtain ⟨o13, c13, rfl, i13, j13, _⟩ := RowE.ents S13.out
  obtain ⟨o15, c15, rfl, i15, j15, _⟩ := RowE.ents T13.out
  obtain ⟨wd, hwd⟩ : ∃ z, z = w13.alloc (.cells #[.slice o11 L1.length c11, .slice o13 L1.length c13, .slice o15 L2.length c15] 22) := ⟨_, rfl⟩
  have hbd : Below w13.heap.size w13 wd := by rw [hwd]; exact (Below.refl _ _).alloc (Nat.le_refl _) _
  have hcd : wd.heap[w13.heap.size]? = some (.cells #[.slice o11 L1.length c11, .slice o13 L1.length c13, .slice o15 L2.length c15] 22 (0, 0)) := by rw [hwd]; exact World.alloc_heap_new _ _
  have hDd := D13.out.trans (hbd.mono D13.out.size)
  have hl45 := Hl45.out
  have hl56 := L56.out
  have e11 : ApEnts.RowE wd w4.heap.size (.slice o11 L1.length c11) n1 L1 := apE HN1.out (row_belowE R13.out hbd) (Nat.le_refl _)
  have e13 : ApEnts.RowE wd w4.heap.size (.slice o13 L1.length c13) n1 L1 := apE HN1.out (row_belowE S13.out hbd) hl45
  have e15 : ApEnts.RowE wd w4.heap.size (.slice o15 L2.length c15) n2 L2 := apE HN2.out (row_belowE T13.out hbd) (by omega)
  have d12 : ∀ b, (Value.slice o11 L1.length c11).ownBlock = some b → (Value.slice o13 L1.length c13).ownBlock ≠ some b := fun b h1 h2 => by
    have h3 := U13.out b h1
    have h4 := (own_lo S13.out h2).1
    omega
  have d13 : ∀ b, (Value.slice o11 L1.length c11).ownBlock = some b → (Value.slice o15 L2.length c15).ownBlock ≠ some b := fun b h1 h2 => by
    have h3 := U13.out b h1
    have h4 := (own_lo T13.out h2).1
    omega
  have d23 : ∀ b, (Value.slice o13 L1.length c13).ownBlock = some b → (Value.slice o15 L2.length c15).ownBlock ≠ some b := fun b h1 h2 => by
    have h3 := U15.out b h1
    have h4 := (own_lo T13.out h2).1
    omega
  have happ : Calls Tryz.prog 22 #[.slice (some ⟨w13.heap.size, 0, none⟩) 3 3] wd fun r w' => r = .returned (.bool true) ∧ Below w4.heap.size wd w' := ApEnts.apart_any [(.slice o11 L1.length c11, n1), (.slice o13 L1.length c13, n1), (.slice o15 L2.length c15, n2)] w13.heap.size w4.heap.size 3 wd (show 3 ≤ 200 by decide) (Nat.le_refl _) (by unfold maxLen; omega) hDd.size hcd
    (fun j x n hj => by
      match j, hj with
      | 0, hj => injection hj with hj; injection hj with e1 e2; subst e1; subst e2; exact ⟨_, e11⟩
      | 1, hj => injection hj with hj; injection hj with e1 e2; subst e1; subst e2; exact ⟨_, e13⟩
      | 2, hj => injection hj with hj; injection hj with e1 e2; subst e1; subst e2; exact ⟨_, e15⟩)
    (fun j k x n x' n' hjk hj hk => by
      match j, k, hj, hk, hjk with
      | 0, 0, _, _, h => exact absurd rfl h
      | 1, 1, _, _, h => exact absurd rfl h
      | 2, 2, _, _, h => exact absurd rfl h
      | 0, 1, hj, hk, _ => injection hj with hj; injection hj with e1 e2; injection hk with hk; injection hk with e3 e4; subst e1 e3; exact d12
      | 0, 2, hj, hk, _ => injection hj with hj; injection hj with e1 e2; injection hk with hk; injection hk with e3 e4; subst e1 e3; exact d13
      | 1, 2, hj, hk, _ => injection hj with hj; injection hj with e1 e2; injection hk with hk; injection hk with e3 e4; subst e1 e3; exact d23
      | 1, 0, hj, hk, _ => injection hj with hj; injection hj with e1 e2; injection hk with hk; injection hk with e3 e4; subst e1 e3; exact fun b h1 h2 => d12 b h2 h1
      | 2, 0, hj, hk, _ => injection hj with hj; injection hj with e1 e2; injection hk with hk; injection hk with e3 e4; subst e1 e3; exact fun b h1 h2 => d13 b h2 h1
      | 2, 1, hj, hk, _ => injection hj with hj; injection hj with e1 e2; injection hk with hk; injection hk with e3 e4; subst e1 e3; exact fun b h1 h2 => d23 b h2 h1)
    (fun j x n hj => by
      match j, hj with
      | 0, hj => injection hj with hj; injection hj with e1 e2; omega
      | 1, hj => injection hj with hj; injection hj with e1 e2; omega
      | 2, hj => injection hj with hj; injection hj with e1 e2; omega)
  have Happ := Lib.hid happ
  have Hwd := Lib.hid hwd
  have Xd := Lib.hid (X13.out.below hbd (Nat.le_refl _))
  have hXd := Lib.hid (show Below w4.heap.size w4 wd from hDd)
  have hBd := Lib.hid (B13.out.trans (hbd.mono B13.out.size))
  clear happ hwd hcd hDd e11 e13 e15 d12 d13 d23 R13 S13 T13 U13 U15 F13 G13 P13 Q13 hbd i11 j11 i13 j13 i15 j15 hl45 hl56 Xd X13 Y13 D13 B13
  go_wp2_with fail
  rw [← Hwd.out]
  refine Happ.out.mono ?_
  rintro r w14 ⟨rfl, hb⟩
  have D14 := Lib.hid (hXd.out.trans hb)
  have B14 := Lib.hid (hBd.out.trans (hb.mono (by have := Hw4.out; omega)))
  have X14 := Lib.hid (X4k.out.below D14.out (Nat.le_refl _))
  have Y14 := Lib.hid (Y4k.out.below D14.out (Nat.le_refl _))
  clear hb
  go_wp2_with fail
  refine (HKa.out v9 _ w14 B14.out X14.out).mono ?_
  rintro r w15 ⟨rfl, hb⟩
  have B15 := Lib.hid (B14.out.trans (hb.mono B14.out.size))
  have Y15 := Lib.hid (Y14.out.below hb (Nat.le_refl _))
  clear hb
  go_wp2_with fail
  refine (HKb.out v10 _ w15 B15.out Y15.out).mono ?_
  rintro r w16 ⟨rfl, hb⟩
  have B16 := Lib.hid (B15.out.trans (hb.mono B15.out.size))
  clear hb
  go_wp2_with fail
  refine (HW.out w16 B16.out).mono ?_
  rintro r w17 ⟨rfl, hb⟩
  have B17 := Lib.hid (B16.out.trans (hb.mono B16.out.size))
  clear hb
  go_wp2_with fail
  go_ret
  exact ⟨rfl, B17.out⟩
end Go.Proofs.YtipfccfjniglbaaGreatDoor
