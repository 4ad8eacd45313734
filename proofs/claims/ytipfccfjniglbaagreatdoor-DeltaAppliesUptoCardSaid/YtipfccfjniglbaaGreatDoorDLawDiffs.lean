/- The law DeltaDiffs. Printed by mkldiffs.py. -/
import Derived.Test.YtipfccfjniglbaaGreatDoorJRef
import Derived.Test.YtipfccfjniglbaaGreatDoorApChanges
set_option linter.unusedSimpArgs false
set_option linter.unusedVariables false
namespace Go.Proofs.YtipfccfjniglbaaGreatDoor
open Go.RowKit Go.Maps Go.Shelf
open Go.Lib hiding intOf size_eq
theorem small_le {L : List Ent} (h : ∀ x ∈ L, x.p.size ≤ 1048576 ∧ x.d.size ≤ 1048576 ∧ x.l.size ≤ 1048576) : Small L := fun x hx => ⟨Nat.lt_of_le_of_lt (h x hx).1 (by decide), Nat.lt_of_le_of_lt (h x hx).2.1 (by decide), Nat.lt_of_le_of_lt (h x hx).2.2 (by decide)⟩
theorem sizes_le {L : List Ent} (h : ∀ x ∈ L, x.p.size ≤ 1048576 ∧ x.d.size ≤ 1048576 ∧ x.l.size ≤ 1048576) : ∀ x ∈ L, x.p.size ≤ 1099511627776 ∧ x.l.size ≤ 1099511627776 ∧ x.d.size ≤ 1099511627776 := fun x hx => ⟨Nat.le_trans (h x hx).1 (by decide), Nat.le_trans (h x hx).2.2 (by decide), Nat.le_trans (h x hx).2.1 (by decide)⟩
theorem apC {W : World} {base B n : Nat} {v : Value} {C : List Chg} (hn : n = C.length) (h : W.ownsRow B 54 7 v C.length (C.flatMap chgC)) (h0 : C = [] → v = .slice none 0 0) (hB : base ≤ B) : ApChanges.RowE W base v n C := by
  subst hn
  exact ⟨ownsRow_base h hB, fun h1 => h0 (List.eq_nil_of_length_eq_zero h1)⟩
theorem own_lo {W : World} {base size n b : Nat} {e : TypeId} {v : Value} {xs : List Value} (h : W.ownsRow base e size v n xs) (hb : v.ownBlock = some b) : base ≤ b ∧ b < W.heap.size := World.ownsRow.lt h b hb
theorem flt_load {P : Program} {ops : Array Oper} {rest : List Oper} {o : Oper} {a : Act} {w : World} {Q : Exit → Act → World → Prop} (hw : Region.wanted o (yielded ops a.tmps) = true) (ty : TypeId) (x : Operand) (ho : o.op = .load ty x)
    (g : Nat) (hx : a.eval x = .pointer (some ⟨g, 0, none⟩)) (cs : List Value) (d : TypeDesc) (t : TypeId) (hc : w.heap[g]? = some (.cells cs.toArray t (0, 0)))
    (hu : P.underlying ty = some d) (hd : (match d with | .struct _ | .array _ _ => true | _ => false) = true) (hi : (P.info? ty).map (·.size) = some cs.length)
    (h : wpList P ops Q rest (a.put o.dst (.agg cs.toArray)) w) : wpList P ops Q (o :: rest) a w :=
  wpList_load_wanted hw ty x ho _ hx cs d (item_cells hc) hu hd hi h
set_option maxRecDepth 100000 in
set_option maxHeartbeats 16000000 in
theorem deltaDiffs_any (va vb : Value) (A B : List Ent) (w : World) (ha : EntsAt w va A) (hb : EntsAt w vb B) (sa : ∀ x ∈ A, x.p.size ≤ 1048576 ∧ x.d.size ≤ 1048576 ∧ x.l.size ≤ 1048576) (sb : ∀ x ∈ B, x.p.size ≤ 1048576 ∧ x.d.size ≤ 1048576 ∧ x.l.size ≤ 1048576) (la : A.length ≤ 1048576) (lb : B.length ≤ 1048576) (hg : Handle w) :
    Calls Tryz.prog 3 #[va, vb] w fun r w' => r = .returned (.bool true) ∧ Below w.heap.size w w' := by
  have HA := Lib.hid (fun W (hW : Below w.heap.size w W) => ha.below hW (Nat.le_refl _))
  have HB := Lib.hid (fun W (hW : Below w.heap.size w W) => hb.below hW (Nat.le_refl _))
  have Hg := Lib.hid (fun W (hW : Below w.heap.size w W) => hg.below hW (Nat.le_refl _))
  have hcl1 := diffC_len A B
  have hcl2 := diffC_len B A
  obtain ⟨x1, hx1⟩ : ∃ x, x = diffN A B := ⟨_, rfl⟩
  obtain ⟨x2, hx2⟩ : ∃ x, x = diffN B A := ⟨_, rfl⟩
  obtain ⟨C1, hC1⟩ : ∃ x, x = diffC A B := ⟨_, rfl⟩
  obtain ⟨C2, hC2⟩ : ∃ x, x = diffC B A := ⟨_, rfl⟩
  have hR1 := fun W (hW : Below w.heap.size w W) => rdiff10_any va vb A B W (HA.out W hW) (HB.out W hW) (sizes_le sa) (sizes_le sb) (by omega) (by omega)
  have hR2 := fun W (hW : Below w.heap.size w W) => rdiff10_any vb va B A W (HB.out W hW) (HA.out W hW) (sizes_le sb) (sizes_le sa) (by omega) (by omega)
  have hD1 := fun u v W (hu : EntsAt W u A) (hv : EntsAt W v B) (hW : Below w.heap.size w W) => diff_uni u v A B W hu hv (small_le sa) (small_le sb) (by omega) (Hg.out W hW)
  have hD2 := fun u v W (hu : EntsAt W u B) (hv : EntsAt W v A) (hW : Below w.heap.size w W) => diff_uni u v B A W hu hv (small_le sb) (small_le sa) (by omega) (Hg.out W hW)
  rw [← hx1, ← hC1] at hR1 hD1
  rw [← hx2, ← hC2] at hR2 hD2
  rw [← hC1] at hcl1
  rw [← hC2] at hcl2
  have HR1 := Lib.hid hR1
  have HR2 := Lib.hid hR2
  have HD1 := Lib.hid hD1
  have HD2 := Lib.hid hD2
  have HLa := Lib.hid (fun W (hW : Below w.heap.size w W) => lent_any va A W (HA.out W hW) (by omega))
  have HLb := Lib.hid (fun W (hW : Below w.heap.size w W) => lent_any vb B W (HB.out W hW) (by omega))
  have HKa := Lib.hid (fun v base W (hW : Below w.heap.size w W) (hv : LentAt W base v A) => kept_any v va A base W hv (HA.out W hW) la)
  have HKb := Lib.hid (fun v base W (hW : Below w.heap.size w W) (hv : LentAt W base v B) => kept_any v vb B base W hv (HB.out W hW) lb)
  have HS1 := Lib.hid (fun v1 v2 W (h1 : ChgsAt W v1 C1) (h2 : ChgsAt W v2 C1) => (same_chgs v1 v2 C1 C1 W h1 h2 (by omega) (by omega)).mono (R' := fun e w' => e = .returned (.bool true) ∧ Below W.heap.size W w') (fun e w' ⟨h1, q, h2, h3⟩ => ⟨by rw [h2, h3.2 rfl], h1⟩))
  have HS2 := Lib.hid (fun v1 v2 W (h1 : ChgsAt W v1 C2) (h2 : ChgsAt W v2 C2) => (same_chgs v1 v2 C2 C2 W h1 h2 (by omega) (by omega)).mono (R' := fun e w' => e = .returned (.bool true) ∧ Below W.heap.size W w') (fun e w' ⟨h1, q, h2, h3⟩ => ⟨by rw [h2, h3.2 rfl], h1⟩))
  have HSd := Lib.hid (fun e x W (h : ErrW e x) (hW : Below w.heap.size w W) => said10_any e x W h (Hg.out W hW))
  have HW := Lib.hid (fun W (hW : Below w.heap.size w W) => works10_any W (Hg.out W hW))
  obtain ⟨n1, hn1⟩ : ∃ n, n = C1.length := ⟨_, rfl⟩
  obtain ⟨n2, hn2⟩ : ∃ n, n = C2.length := ⟨_, rfl⟩
  have HN1 := Lib.hid hn1
  have HN2 := Lib.hid hn2
  have hm1 : n1 ≤ 4194304 := by omega
  have hm2 : n2 ≤ 4194304 := by omega
  unfold fltA at HR1 HR2 HSd
  clear ha hb hg sa sb hx1 hx2 hC1 hC2 hR1 hR2 hD1 hD2 hcl1 hcl2 hn1 hn2
  go_enter Tryz.func3, Tryz.ntmps3
  go_wp2_with fail
  refine (HR1.out w (Below.refl _ _)).mono ?_
  rintro r w1 ⟨hb, v5, rfl, h5⟩
  have B1 := Lib.hid hb
  have P1 := Lib.hid h5
  clear hb h5
  go_wp2_with fail
  refine (HR2.out _ (B1.out.alloc B1.out.size (.cells #[.int .i64 ((x1).1 : Int), .int .i64 ((x1).2.1 : Int), .int .i64 ((x1).2.2 : Int)] 25))).mono ?_
  rintro r w2 ⟨hb, v7, rfl, h7⟩
  have F2 := Lib.hid ((hb.block w1.heap.size (by simp)).trans (World.alloc_heap_new w1 (.cells #[.int .i64 ((x1).1 : Int), .int .i64 ((x1).2.1 : Int), .int .i64 ((x1).2.2 : Int)] 25)))
  have P2 := Lib.hid (ItemsAt.below (ChgsAt.new P1.out _) hb (Nat.le_refl _))
  have Q2 := Lib.hid h7
  have B2 := Lib.hid ((B1.out.alloc B1.out.size (.cells #[.int .i64 ((x1).1 : Int), .int .i64 ((x1).2.1 : Int), .int .i64 ((x1).2.2 : Int)] 25)).trans (hb.mono (by rw [World.size_alloc]; have := B1.out.size; omega)))
  generalize w1.heap.size = f1 at *
  clear hb h7 P1 B1
  go_wp2_with fail
  obtain ⟨w2b, hw2b⟩ : ∃ z, z = w2.alloc (.cells #[.int .i64 ((x2).1 : Int), .int .i64 ((x2).2.1 : Int), .int .i64 ((x2).2.2 : Int)] 25) := ⟨_, rfl⟩
  have hbb : Below w2.heap.size w2 w2b := by rw [hw2b]; exact (Below.refl _ _).alloc (Nat.le_refl _) _
  have F2b := Lib.hid ((hbb.block f1 (heap_lt F2.out)).trans F2.out)
  have G2b := Lib.hid (show w2b.heap[w2.heap.size]? = some (.cells #[.int .i64 ((x2).1 : Int), .int .i64 ((x2).2.1 : Int), .int .i64 ((x2).2.2 : Int)] 25 (0, 0)) by rw [hw2b]; exact World.alloc_heap_new _ _)
  have P2b := Lib.hid (ItemsAt.below P2.out hbb (Nat.le_refl _))
  have Q2b := Lib.hid (ItemsAt.below Q2.out hbb (Nat.le_refl _))
  have B2b := Lib.hid (B2.out.trans (hbb.mono B2.out.size))
  rw [← hw2b]
  generalize w2.heap.size = f2 at *
  clear hw2b hbb F2 P2 Q2 B2
  go_wp2_with fail
  refine (HLa.out w2b B2b.out).mono ?_
  rintro r w3 ⟨v9, rfl, h9, hb⟩
  have F3 := Lib.hid ((hb.block f1 (heap_lt F2b.out)).trans F2b.out)
  have G3 := Lib.hid ((hb.block f2 (heap_lt G2b.out)).trans G2b.out)
  have P3 := Lib.hid (ItemsAt.below P2b.out hb (Nat.le_refl _))
  have Q3 := Lib.hid (ItemsAt.below Q2b.out hb (Nat.le_refl _))
  have B3 := Lib.hid (B2b.out.trans (hb.mono B2b.out.size))
  have X3 := Lib.hid h9
  have b9 := B2b.out.size
  clear h9
  clear hb F2b G2b P2b Q2b B2b
  go_wp2_with fail
  refine (HLb.out w3 B3.out).mono ?_
  rintro r w4 ⟨v10, rfl, h10, hb⟩
  have F4 := Lib.hid ((hb.block f1 (heap_lt F3.out)).trans F3.out)
  have G4 := Lib.hid ((hb.block f2 (heap_lt G3.out)).trans G3.out)
  have P4 := Lib.hid (ItemsAt.below P3.out hb (Nat.le_refl _))
  have Q4 := Lib.hid (ItemsAt.below Q3.out hb (Nat.le_refl _))
  have B4 := Lib.hid (B3.out.trans (hb.mono B3.out.size))
  have X4 := Lib.hid (X3.out.below hb (Nat.le_refl _))
  have Y4 := Lib.hid h10
  clear h10
  clear hb F3 G3 P3 Q3 B3 X3
  have D4 := Lib.hid (Below.refl w4.heap.size w4)
  have X4k := X4
  have Y4k := Y4
  have Hw4 := Lib.hid B4.out.size
  go_wp2_with fail
  refine (HD1.out v9 v10 w4 X4.out.ents Y4.out.ents B4.out).mono ?_
  rintro r w5 ⟨hb, v11, e12, rfl, he12, hr11, hz11⟩
  have F5 := Lib.hid ((hb.block f1 (heap_lt F4.out)).trans F4.out)
  have G5 := Lib.hid ((hb.block f2 (heap_lt G4.out)).trans G4.out)
  have P5 := Lib.hid (ItemsAt.below P4.out hb (Nat.le_refl _))
  have Q5 := Lib.hid (ItemsAt.below Q4.out hb (Nat.le_refl _))
  have B5 := Lib.hid (B4.out.trans (hb.mono B4.out.size))
  have X5 := Lib.hid (X4.out.below hb (Nat.le_refl _))
  have Y5 := Lib.hid (Y4.out.below hb (Nat.le_refl _))
  have D5 := Lib.hid (D4.out.trans (hb.mono D4.out.size))
  have Hl45 := Lib.hid (show w4.heap.size ≤ w5.heap.size from hb.size)
  have R5 := Lib.hid hr11
  have E12 := Lib.hid he12
  have Z11 := Lib.hid hz11
  clear hr11 he12 hz11
  clear hb F4 G4 P4 Q4 B4 X4 Y4 D4
  go_wp2_with fail
  refine (HD1.out v9 v10 w5 X5.out.ents Y5.out.ents B5.out).mono ?_
  rintro r w6 ⟨hb, v13, e14, rfl, he14, hr13, hz13⟩
  have F6 := Lib.hid ((hb.block f1 (heap_lt F5.out)).trans F5.out)
  have G6 := Lib.hid ((hb.block f2 (heap_lt G5.out)).trans G5.out)
  have P6 := Lib.hid (ItemsAt.below P5.out hb (Nat.le_refl _))
  have Q6 := Lib.hid (ItemsAt.below Q5.out hb (Nat.le_refl _))
  have B6 := Lib.hid (B5.out.trans (hb.mono B5.out.size))
  have X6 := Lib.hid (X5.out.below hb (Nat.le_refl _))
  have Y6 := Lib.hid (Y5.out.below hb (Nat.le_refl _))
  have D6 := Lib.hid (D5.out.trans (hb.mono D5.out.size))
  have R6 := Lib.hid (row_belowE R5.out hb)
  have S6 := Lib.hid hr13
  have E14 := Lib.hid he14
  have Z13 := Lib.hid hz13
  have l56 := D5.out.size
  have L56 := Lib.hid (show w5.heap.size ≤ w6.heap.size from hb.size)
  have U13 := Lib.hid (fun b h => (own_lo R5.out (b := b) h).2)
  clear hr13 he14 hz13
  clear hb F5 G5 P5 Q5 B5 X5 Y5 D5 R5
  go_wp2_with fail
  refine (HD2.out v10 v9 w6 Y6.out.ents X6.out.ents B6.out).mono ?_
  rintro r w7 ⟨hb, v15, e16, rfl, he16, hr15, hz15⟩
  have F7 := Lib.hid ((hb.block f1 (heap_lt F6.out)).trans F6.out)
  have G7 := Lib.hid ((hb.block f2 (heap_lt G6.out)).trans G6.out)
  have P7 := Lib.hid (ItemsAt.below P6.out hb (Nat.le_refl _))
  have Q7 := Lib.hid (ItemsAt.below Q6.out hb (Nat.le_refl _))
  have B7 := Lib.hid (B6.out.trans (hb.mono B6.out.size))
  have X7 := Lib.hid (X6.out.below hb (Nat.le_refl _))
  have Y7 := Lib.hid (Y6.out.below hb (Nat.le_refl _))
  have D7 := Lib.hid (D6.out.trans (hb.mono D6.out.size))
  have R7 := Lib.hid (row_belowE R6.out hb)
  have S7 := Lib.hid (row_belowE S6.out hb)
  have T7 := Lib.hid hr15
  have E16 := Lib.hid he16
  have Z15 := Lib.hid hz15
  have l67 := D6.out.size
  have U15 := Lib.hid (fun b h => (own_lo S6.out (b := b) h).2)
  have L67 := Lib.hid (show w6.heap.size ≤ w7.heap.size from hb.size)
  clear hr15 he16 hz15
  clear hb F6 G6 P6 Q6 B6 X6 Y6 D6 R6 S6
  go_wp2_with (refine flt_load (by rfl) _ _ rfl f1 rfl [.int .i64 ((x1).1 : Int), .int .i64 ((x1).2.1 : Int), .int .i64 ((x1).2.2 : Int)] _ _ F7.out Tryz.underlying25 rfl (by kernel_rfl) ?_)
  refine (HSd.out e12 x1 w7 E12.out B7.out).mono ?_
  rintro r w8 ⟨rfl, hb⟩
  have F8 := Lib.hid ((hb.block f1 (heap_lt F7.out)).trans F7.out)
  have G8 := Lib.hid ((hb.block f2 (heap_lt G7.out)).trans G7.out)
  have P8 := Lib.hid (ItemsAt.below P7.out hb (Nat.le_refl _))
  have Q8 := Lib.hid (ItemsAt.below Q7.out hb (Nat.le_refl _))
  have B8 := Lib.hid (B7.out.trans (hb.mono B7.out.size))
  have X8 := Lib.hid (X7.out.below hb (Nat.le_refl _))
  have Y8 := Lib.hid (Y7.out.below hb (Nat.le_refl _))
  have D8 := Lib.hid (D7.out.trans (hb.mono D7.out.size))
  have R8 := Lib.hid (row_belowE R7.out hb)
  have S8 := Lib.hid (row_belowE S7.out hb)
  have T8 := Lib.hid (row_belowE T7.out hb)
  clear hb F7 G7 P7 Q7 B7 X7 Y7 D7 R7 S7 T7
  go_wp2_with (refine flt_load (by rfl) _ _ rfl f1 rfl [.int .i64 ((x1).1 : Int), .int .i64 ((x1).2.1 : Int), .int .i64 ((x1).2.2 : Int)] _ _ F8.out Tryz.underlying25 rfl (by kernel_rfl) ?_)
  refine (HSd.out e14 x1 w8 E14.out B8.out).mono ?_
  rintro r w9 ⟨rfl, hb⟩
  have F9 := Lib.hid ((hb.block f1 (heap_lt F8.out)).trans F8.out)
  have G9 := Lib.hid ((hb.block f2 (heap_lt G8.out)).trans G8.out)
  have P9 := Lib.hid (ItemsAt.below P8.out hb (Nat.le_refl _))
  have Q9 := Lib.hid (ItemsAt.below Q8.out hb (Nat.le_refl _))
  have B9 := Lib.hid (B8.out.trans (hb.mono B8.out.size))
  have X9 := Lib.hid (X8.out.below hb (Nat.le_refl _))
  have Y9 := Lib.hid (Y8.out.below hb (Nat.le_refl _))
  have D9 := Lib.hid (D8.out.trans (hb.mono D8.out.size))
  have R9 := Lib.hid (row_belowE R8.out hb)
  have S9 := Lib.hid (row_belowE S8.out hb)
  have T9 := Lib.hid (row_belowE T8.out hb)
  clear hb F8 G8 P8 Q8 B8 X8 Y8 D8 R8 S8 T8
  go_wp2_with (refine flt_load (by rfl) _ _ rfl f2 rfl [.int .i64 ((x2).1 : Int), .int .i64 ((x2).2.1 : Int), .int .i64 ((x2).2.2 : Int)] _ _ G9.out Tryz.underlying25 rfl (by kernel_rfl) ?_)
  refine (HSd.out e16 x2 w9 E16.out B9.out).mono ?_
  rintro r w10 ⟨rfl, hb⟩
  have F10 := Lib.hid ((hb.block f1 (heap_lt F9.out)).trans F9.out)
  have G10 := Lib.hid ((hb.block f2 (heap_lt G9.out)).trans G9.out)
  have P10 := Lib.hid (ItemsAt.below P9.out hb (Nat.le_refl _))
  have Q10 := Lib.hid (ItemsAt.below Q9.out hb (Nat.le_refl _))
  have B10 := Lib.hid (B9.out.trans (hb.mono B9.out.size))
  have X10 := Lib.hid (X9.out.below hb (Nat.le_refl _))
  have Y10 := Lib.hid (Y9.out.below hb (Nat.le_refl _))
  have D10 := Lib.hid (D9.out.trans (hb.mono D9.out.size))
  have R10 := Lib.hid (row_belowE R9.out hb)
  have S10 := Lib.hid (row_belowE S9.out hb)
  have T10 := Lib.hid (row_belowE T9.out hb)
  clear hb F9 G9 P9 Q9 B9 X9 Y9 D9 R9 S9 T9
  go_wp2_with fail
  refine (HS1.out v11 v5 w10 (RowE.chgs R10.out) P10.out).mono ?_
  rintro r w11 ⟨rfl, hb⟩
  have F11 := Lib.hid ((hb.block f1 (heap_lt F10.out)).trans F10.out)
  have G11 := Lib.hid ((hb.block f2 (heap_lt G10.out)).trans G10.out)
  have P11 := Lib.hid (ItemsAt.below P10.out hb (Nat.le_refl _))
  have Q11 := Lib.hid (ItemsAt.below Q10.out hb (Nat.le_refl _))
  have B11 := Lib.hid (B10.out.trans (hb.mono B10.out.size))
  have X11 := Lib.hid (X10.out.below hb (Nat.le_refl _))
  have Y11 := Lib.hid (Y10.out.below hb (Nat.le_refl _))
  have D11 := Lib.hid (D10.out.trans (hb.mono D10.out.size))
  have R11 := Lib.hid (row_belowE R10.out hb)
  have S11 := Lib.hid (row_belowE S10.out hb)
  have T11 := Lib.hid (row_belowE T10.out hb)
  clear hb F10 G10 P10 Q10 B10 X10 Y10 D10 R10 S10 T10
  go_wp2_with fail
  refine (HS1.out v13 v5 w11 (RowE.chgs S11.out) P11.out).mono ?_
  rintro r w12 ⟨rfl, hb⟩
  have F12 := Lib.hid ((hb.block f1 (heap_lt F11.out)).trans F11.out)
  have G12 := Lib.hid ((hb.block f2 (heap_lt G11.out)).trans G11.out)
  have P12 := Lib.hid (ItemsAt.below P11.out hb (Nat.le_refl _))
  have Q12 := Lib.hid (ItemsAt.below Q11.out hb (Nat.le_refl _))
  have B12 := Lib.hid (B11.out.trans (hb.mono B11.out.size))
  have X12 := Lib.hid (X11.out.below hb (Nat.le_refl _))
  have Y12 := Lib.hid (Y11.out.below hb (Nat.le_refl _))
  have D12 := Lib.hid (D11.out.trans (hb.mono D11.out.size))
  have R12 := Lib.hid (row_belowE R11.out hb)
  have S12 := Lib.hid (row_belowE S11.out hb)
  have T12 := Lib.hid (row_belowE T11.out hb)
  clear hb F11 G11 P11 Q11 B11 X11 Y11 D11 R11 S11 T11
  go_wp2_with fail
  refine (HS2.out v15 v7 w12 (RowE.chgs T12.out) Q12.out).mono ?_
  rintro r w13 ⟨rfl, hb⟩
  have F13 := Lib.hid ((hb.block f1 (heap_lt F12.out)).trans F12.out)
  have G13 := Lib.hid ((hb.block f2 (heap_lt G12.out)).trans G12.out)
  have P13 := Lib.hid (ItemsAt.below P12.out hb (Nat.le_refl _))
  have Q13 := Lib.hid (ItemsAt.below Q12.out hb (Nat.le_refl _))
  have B13 := Lib.hid (B12.out.trans (hb.mono B12.out.size))
  have X13 := Lib.hid (X12.out.below hb (Nat.le_refl _))
  have Y13 := Lib.hid (Y12.out.below hb (Nat.le_refl _))
  have D13 := Lib.hid (D12.out.trans (hb.mono D12.out.size))
  have R13 := Lib.hid (row_belowE R12.out hb)
  have S13 := Lib.hid (row_belowE S12.out hb)
  have T13 := Lib.hid (row_belowE T12.out hb)
  clear hb F12 G12 P12 Q12 B12 X12 Y12 D12 R12 S12 T12
  obtain ⟨o11, c11, rfl, i11, j11, _⟩ := RowE.chgs R13.out
  obtain ⟨o13, c13, rfl, i13, j13, _⟩ := RowE.chgs S13.out
  obtain ⟨o15, c15, rfl, i15, j15, _⟩ := RowE.chgs T13.out
  obtain ⟨wd, hwd⟩ : ∃ z, z = w13.alloc (.cells #[.slice o11 C1.length c11, .slice o13 C1.length c13, .slice o15 C2.length c15] 23) := ⟨_, rfl⟩
  have hbd : Below w13.heap.size w13 wd := by rw [hwd]; exact (Below.refl _ _).alloc (Nat.le_refl _) _
  have hcd : wd.heap[w13.heap.size]? = some (.cells #[.slice o11 C1.length c11, .slice o13 C1.length c13, .slice o15 C2.length c15] 23 (0, 0)) := by rw [hwd]; exact World.alloc_heap_new _ _
  have hDd := D13.out.trans (hbd.mono D13.out.size)
  have hl45 := Hl45.out
  have hl56 := L56.out
  have hl67 := L67.out
  have e11 : ApChanges.RowE wd w4.heap.size (.slice o11 C1.length c11) n1 C1 := apC HN1.out (row_belowE R13.out hbd) Z11.out (Nat.le_refl _)
  have e13 : ApChanges.RowE wd w4.heap.size (.slice o13 C1.length c13) n1 C1 := apC HN1.out (row_belowE S13.out hbd) Z13.out hl45
  have e15 : ApChanges.RowE wd w4.heap.size (.slice o15 C2.length c15) n2 C2 := apC HN2.out (row_belowE T13.out hbd) Z15.out (by omega)
  have d12 : ∀ b, (Value.slice o11 C1.length c11).ownBlock = some b → (Value.slice o13 C1.length c13).ownBlock ≠ some b := fun b h1 h2 => by
    have h3 := U13.out b h1
    have h4 := (own_lo S13.out h2).1
    omega
  have d13 : ∀ b, (Value.slice o11 C1.length c11).ownBlock = some b → (Value.slice o15 C2.length c15).ownBlock ≠ some b := fun b h1 h2 => by
    have h3 := U13.out b h1
    have h4 := (own_lo T13.out h2).1
    omega
  have d23 : ∀ b, (Value.slice o13 C1.length c13).ownBlock = some b → (Value.slice o15 C2.length c15).ownBlock ≠ some b := fun b h1 h2 => by
    have h3 := U15.out b h1
    have h4 := (own_lo T13.out h2).1
    omega
  have happ : Calls Tryz.prog 15 #[.slice (some ⟨w13.heap.size, 0, none⟩) 3 3] wd fun r w' => r = .returned (.bool true) ∧ Below w4.heap.size wd w' := ApChanges.apart_any [(.slice o11 C1.length c11, n1), (.slice o13 C1.length c13, n1), (.slice o15 C2.length c15, n2)] w13.heap.size w4.heap.size 3 wd (show 3 ≤ 200 by decide) (Nat.le_refl _) (by unfold maxLen; omega) hDd.size hcd
    (fun j x n hj => by
      match j, hj with
      | 0, hj => injection hj with hj; injection hj with e1 e2; subst e1; subst e2; exact ⟨_, e11⟩
      | 1, hj => injection hj with hj; injection hj with e1 e2; subst e1; subst e2; exact ⟨_, e13⟩
      | 2, hj => injection hj with hj; injection hj with e1 e2; subst e1; subst e2; exact ⟨_, e15⟩)
    (fun j k x n x' n' hjk hj hk => by
      match j, k, hj, hk, hjk with
      | 0, 0, _, _, h => exact absurd rfl h
      | 1, 1, _, _, h => exact absurd rfl h
      | 2, 2, _, _, h => exact absurd rfl h
      | 0, 1, hj, hk, _ => injection hj with hj; injection hj with e1 e2; injection hk with hk; injection hk with e3 e4; subst e1 e3; exact d12
      | 0, 2, hj, hk, _ => injection hj with hj; injection hj with e1 e2; injection hk with hk; injection hk with e3 e4; subst e1 e3; exact d13
      | 1, 2, hj, hk, _ => injection hj with hj; injection hj with e1 e2; injection hk with hk; injection hk with e3 e4; subst e1 e3; exact d23
      | 1, 0, hj, hk, _ => injection hj with hj; injection hj with e1 e2; injection hk with hk; injection hk with e3 e4; subst e1 e3; exact fun b h1 h2 => d12 b h2 h1
      | 2, 0, hj, hk, _ => injection hj with hj; injection hj with e1 e2; injection hk with hk; injection hk with e3 e4; subst e1 e3; exact fun b h1 h2 => d13 b h2 h1
      | 2, 1, hj, hk, _ => injection hj with hj; injection hj with e1 e2; injection hk with hk; injection hk with e3 e4; subst e1 e3; exact fun b h1 h2 => d23 b h2 h1)
    (fun j x n hj => by
      match j, hj with
      | 0, hj => injection hj with hj; injection hj with e1 e2; omega
      | 1, hj => injection hj with hj; injection hj with e1 e2; omega
      | 2, hj => injection hj with hj; injection hj with e1 e2; omega)
  have Happ := Lib.hid happ
  have Hwd := Lib.hid hwd
  have Xd := Lib.hid (X13.out.below hbd (Nat.le_refl _))
  have hXd := Lib.hid (show Below w4.heap.size w4 wd from hDd)
  have hBd := Lib.hid (B13.out.trans (hbd.mono B13.out.size))
  have X4x := X4k
  clear happ hwd hcd hDd e11 e13 e15 d12 d13 d23 R13 S13 T13 Z11 Z13 Z15 U13 U15 F13 G13 P13 Q13 hbd i11 j11 i13 j13 i15 j15 hl45 hl56 hl67 Xd X13 Y13 D13 B13
  go_wp2_with fail
  rw [← Hwd.out]
  refine Happ.out.mono ?_
  rintro r w14 ⟨rfl, hb⟩
  have D14 := Lib.hid (hXd.out.trans hb)
  have B14 := Lib.hid (hBd.out.trans (hb.mono (by have := Hw4.out; omega)))
  have X14 := Lib.hid (X4k.out.below D14.out (Nat.le_refl _))
  have Y14 := Lib.hid (Y4k.out.below D14.out (Nat.le_refl _))
  clear hb
  go_wp2_with fail
  refine (HKa.out v9 _ w14 B14.out X14.out).mono ?_
  rintro r w15 ⟨rfl, hb⟩
  have B15 := Lib.hid (B14.out.trans (hb.mono B14.out.size))
  have Y15 := Lib.hid (Y14.out.below hb (Nat.le_refl _))
  clear hb
  go_wp2_with fail
  refine (HKb.out v10 _ w15 B15.out Y15.out).mono ?_
  rintro r w16 ⟨rfl, hb⟩
  have B16 := Lib.hid (B15.out.trans (hb.mono B15.out.size))
  clear hb
  go_wp2_with fail
  refine (HW.out w16 B16.out).mono ?_
  rintro r w17 ⟨rfl, hb⟩
  have B17 := Lib.hid (B16.out.trans (hb.mono B16.out.size))
  clear hb
  go_wp2_with fail
  go_ret
  exact ⟨rfl, B17.out⟩
end Go.Proofs.YtipfccfjniglbaaGreatDoor
