/- The law DeltaForm. Printed by mkform.py. -/
import Derived.Test.YtipfccfjniglbaaGreatDoorJRef
import Derived.Test.YtipfccfjniglbaaGreatDoorDMakes
set_option linter.unusedSimpArgs false
set_option linter.unusedVariables false
namespace Go.Proofs.YtipfccfjniglbaaGreatDoor
open Go.RowKit Go.Maps Go.Shelf Go.Sort
open Go.Lib hiding intOf size_eq
theorem wpList_neq_wanted {P : Program} {ops : Array Oper} {rest : List Oper} {o : Oper} {a : Act} {w : World} {Q : Exit → Act → World → Prop} (hw : Region.wanted o (yielded ops a.tmps) = true) (ty t2 : TypeId) (x y : Operand) (ho : o.op = .binOp .neq ty x y t2)
    (xs ys : Array Value) (hx : a.eval x = .agg xs) (hy : a.eval y = .agg ys) (q : Bool) (hm : P.eqGuardType P.depth ty = false) (hr : (binOp .neq ty (.agg xs) (.agg ys)).run P w = .ok (.bool q) w)
    (h : wpList P ops Q rest (a.put o.dst (.bool q)) w) : wpList P ops Q (o :: rest) a w := by
  refine wpList_step fun K hK => ?_
  rw [if_pos hw]
  unfold Oper.wp execOp
  simp only [ho, hx, hy, Sem.run_bind, run_eqGuard_agg w .neq ty x y xs ys hm, Result.andThen_ok, hr, Sem.run_pure]
  exact hK _ _ h
theorem wpList_build_wanted {P : Program} {ops : Array Oper} {rest : List Oper} {o : Oper} {a : Act} {w : World} {Q : Exit → Act → World → Prop} (hw : Region.wanted o (yielded ops a.tmps) = true) (ty : TypeId) (ho : o.op = .build ty #[])
    (cells : Array Value) (hb : P.built ty [] = some cells)
    (h : wpList P ops Q rest (a.put o.dst (.agg cells)) w) : wpList P ops Q (o :: rest) a w := by
  refine wpList_step fun K hK => ?_
  rw [if_pos hw]
  have hr : (Instr.build ty #[]).run P w = .ok (.agg cells) w := run_build w ty #[] cells hb
  unfold Oper.wp execOp
  simp only [ho, Array.map_empty, Sem.run_bind, hr, Result.andThen_ok, Sem.run_pure]
  exact hK _ _ h
theorem neq_zero (w : World) : (binOp .neq 52 (.agg #[.string ⟨#[]⟩, .int .i64 0, .int .i64 0, .string ⟨#[]⟩, .string ⟨#[]⟩]) (.agg #[.string ⟨#[]⟩, .int .i64 0, .int .i64 0, .string ⟨#[]⟩, .string ⟨#[]⟩])).run Tryz.prog w = .ok (.bool false) w :=
  neq_ent entZ entZ w
set_option maxRecDepth 100000 in
set_option maxHeartbeats 4000000 in
theorem there_any (v : Value) (L : List Ent) (x : Ent) (w : World) (h : EntsAt w v L) (hx : x ∈ L) (hl : L.length ≤ 1099511627776) :
    Calls Tryz.prog 28 #[v, .string x.p] w fun r w' => r = .returned (.bool true) ∧ w = w' := by
  obtain ⟨j, hj⟩ := List.mem_iff_getElem?.1 hx
  obtain ⟨o, cap, rfl, hlc, hcm, hcells⟩ := h
  obtain ⟨n, hn⟩ : ∃ n, n = L.length := ⟨_, rfl⟩
  rw [← hn] at hlc hl ⊢
  have hjn : j < n := by rw [hn]; exact (List.getElem?_eq_some_iff.1 hj).1
  have Hcells := Lib.hid hcells
  have Hn := Lib.hid hn
  have Hj := Lib.hid hj
  clear hcells hn hj hx
  obtain ⟨q, hq⟩ : ∃ q, q = x.p := ⟨_, rfl⟩
  rw [← hq]
  have Hq := Lib.hid hq
  clear hq
  go_enter Tryz.func28, Tryz.ntmps28
  go_wp2
  go_loopw [5] (fun iv wr => ∃ (k : Nat), iv = .int .i64 (k : Int) ∧ k ≤ j ∧ wr = w) (fun iv _ => n - (intOf iv).toNat)
  case atStart => exact ⟨0, rfl, Nat.zero_le _, rfl⟩
  case round =>
    obtain ⟨k, rfl, hk, rfl⟩ := hrel
    have hlt : k < n := by omega
    obtain ⟨e, hek⟩ : ∃ e, L[k]? = some e := ⟨_, List.getElem?_eq_getElem (by rw [← Hn.out]; exact hlt)⟩
    obtain ⟨a, rfl, hal, hcs⟩ := Hcells.out k e hek
    have hcw : wr.cell? (a.add (k * 5)) = some (.string e.p) := by rw [← add_zero' (a.add (k * 5))]; exact hcs 0 _ rfl
    have Hek := Lib.hid hek
    clear hek hcs Hcells
    by_cases hpq : e.path = q.data.toList
    · have b1 : (e.p.toList == q.toList) = true := eqB_t (by rw [toList_data]; exact hpq)
      clear hpq
      go_wp2
      go_ret
      exact ⟨rfl, rfl⟩
    · have b1 : (e.p.toList == q.toList) = false := eqB_f (by rw [toList_data]; exact hpq)
      have hkj : k ≠ j := fun hkj => by
        subst hkj
        have := Hek.out.symm.trans Hj.out
        injection this with this
        subst this
        rw [Hq.out] at hpq
        exact hpq rfl
      clear hpq
      go_wp2
      go_roundw
      case rel => exact ⟨k + 1, by go_num, by omega, trivial⟩
      case measure => simp [intOf]; omega
attribute [local irreducible] wpQuiet
attribute [local irreducible] wpStill
set_option maxRecDepth 100000 in
set_option maxHeartbeats 16000000 in
theorem deltaForm_any (va vb : Value) (A B : List Ent) (w : World) (ha : EntsAt w va A) (hb : EntsAt w vb B) (sa : Small A) (sb : Small B) (la : A.length ≤ 1048576) (lb : B.length ≤ 1048576) (hg : Handle w) :
    Calls Tryz.prog 7 #[va, vb] w fun r w' => r = .returned (.bool true) ∧ Below w.heap.size w w' := by
  have HA := Lib.hid (fun W (hW : Below w.heap.size w W) => ha.below hW (Nat.le_refl _))
  have HB := Lib.hid (fun W (hW : Below w.heap.size w W) => hb.below hW (Nat.le_refl _))
  have Hg := Lib.hid (fun W (hW : Below w.heap.size w W) => hg.below hW (Nat.le_refl _))
  have HD := Lib.hid (diff_any va vb A B w ha hb sa sb (by omega) hg)
  have HW := Lib.hid (fun W (hW : Below w.heap.size w W) => works10_any W (Hg.out W hW))
  have HTa := Lib.hid (fun (x : Ent) (hx : x ∈ A) W (hW : Below w.heap.size w W) => there_any va A x W (HA.out W hW) hx (by omega))
  have HTb := Lib.hid (fun (x : Ent) (hx : x ∈ B) W (hW : Below w.heap.size w W) => there_any vb B x W (HB.out W hW) hx (by omega))
  by_cases ca : (checkL A).1 = 0
  · by_cases cb : (checkL B).1 = 0
    · have gA := good_of_check ca
      have gB := good_of_check cb
      have hform := chgL_form gA gB
      have hlen := chg_le A B
      have hsc := chg_small sa sb
      have Ca := Lib.hid ca
      have Cb := Lib.hid cb
      have hfrom : ∀ c ∈ chgL A B, (c.g = true ∧ ∃ x ∈ A, c = goneOf x) ∨ (c.g = false ∧ ∃ y ∈ B, c = layOf y) := chg_from _ _ _ _
      obtain ⟨C, hC⟩ : ∃ C, C = chgL A B := ⟨_, rfl⟩
      have HC := Lib.hid hC
      rw [← hC] at hform hlen hsc hfrom
      have Hform := Lib.hid (fun (i j : Nat) c d (hij : i < j) (h1 : C[i]? = some c) (h2 : C[j]? = some d) => (show CRel c d from by
        obtain ⟨hi, rfl⟩ := List.getElem?_eq_some_iff.1 h1
        obtain ⟨hj, rfl⟩ := List.getElem?_eq_some_iff.1 h2
        exact List.pairwise_iff_getElem.1 hform i j hi hj hij))
      have Hfrom := Lib.hid hfrom
      have Hsc := Lib.hid hsc
      obtain ⟨oa, cca, rfl, hac, ham, hacells⟩ := ha
      obtain ⟨ob, ccb, rfl, hbc, hbm, hbcells⟩ := hb
      obtain ⟨na, hna⟩ : ∃ n, n = A.length := ⟨_, rfl⟩
      obtain ⟨nb, hnb⟩ : ∃ n, n = B.length := ⟨_, rfl⟩
      obtain ⟨n, hn⟩ : ∃ n, n = C.length := ⟨_, rfl⟩
      rw [← hna] at hac HD HTa hlen la ⊢
      rw [← hnb] at hbc HD HTb hlen lb ⊢
      rw [← hn] at hlen
      have Hn := Lib.hid hn
      have hnm : n ≤ 2097152 := by omega
      have hle : ¬ ((n : Int) > (na : Int) + (nb : Int)) := by omega
      have hle2 : (n : Int) ≤ (na : Int) + (nb : Int) := by omega
      clear hg sa sb ca cb gA gB hform hsc hfrom hC hacells hbcells hna hnb hn HA HB
      go_enter Tryz.func7, Tryz.ntmps7
      go_wp2_with fail
      refine HD.out.mono ?_
      rintro r w1 ⟨hb1, v, e, rfl, hr⟩
      obtain ⟨rfl, hrow, _⟩ := hr.c Ca.out Cb.out
      rw [← HC.out] at hrow
      obtain ⟨ol, cl, rfl, hlc, hlm, hlcells⟩ := RowE.chgs hrow
      rw [← Hn.out] at hlc ⊢
      have HB1 := Lib.hid hb1
      have HL := Lib.hid hlcells
      clear hr hrow hb1 hlcells HD HC Ca Cb
      go_wp2_with fail
      go_loopw [7] (fun iv wr => ∃ (k : Nat), iv = .int .i64 (k : Int) ∧ k ≤ n ∧ Below w1.heap.size w1 wr) (fun iv _ => n - (intOf iv).toNat)
      case atStart => exact ⟨0, rfl, Nat.zero_le _, Below.refl _ _⟩
      case round =>
        obtain ⟨k, rfl, hk, hbr⟩ := hrel
        have Hbr := Lib.hid hbr
        clear hbr
        by_cases hlt : k < n
        · obtain ⟨c, hck⟩ : ∃ c, C[k]? = some c := ⟨_, List.getElem?_eq_getElem (by rw [← Hn.out]; exact hlt)⟩
          have Hck := Lib.hid hck
          have hs := (Hsc.out c (List.mem_of_getElem? hck)).1
          obtain ⟨a, rfl, hal, hcs⟩ := HL.out k c hck
          have Hget := Lib.hid (fun (i : Nat) (d : Chg) (hd : C[i]? = some d) (W : World) (hW : Below w1.heap.size w1 W) => (show ∀ j x, (chgC d)[j]? = some x → W.cell? ((a.add (i * 7)).add j) = some x from fun j x hx => by
            obtain ⟨a2, e2, hal2, hcs2⟩ := HL.out i d hd
            injection e2 with e2
            subst e2
            have := hcs2 j x hx
            unfold World.cell? at this ⊢
            rw [hW.block _ (by rw [gadd_block, gadd_block]; exact hal2)]
            exact this))
          have Hcw := Lib.hid (Hget.out k c hck wr Hbr.out)
          have hfr := Hfrom.out c (List.mem_of_getElem? hck)
          clear hck hcs hal
          obtain ⟨w2, hw2⟩ : ∃ z, z = wr.alloc (.cells #[.string c.p, .bool c.g, .string c.e.p, .int .i64 c.e.k, .int .i64 c.e.m, .string c.e.d, .string c.e.l] 54) := ⟨_, rfl⟩
          have hb2 : Below w1.heap.size w1 w2 := by rw [hw2]; exact Hbr.out.alloc Hbr.out.size _
          have hc2 : w2.heap[wr.heap.size]? = some (.cells (chgC c).toArray 54 (0, 0)) := by rw [hw2]; exact World.alloc_heap_new wr _
          have Hc2 := Lib.hid hc2
          have HB2 := Lib.hid hb2
          have Hw2 := Lib.hid hw2
          clear hb2 hc2 hw2
          go_upto_region 10 with (refine wpList_load_items rfl _ _ rfl (a.add (k * 7)) rfl [.string c.p, .bool c.g, .string c.e.p, .int .i64 c.e.k, .int .i64 c.e.m, .string c.e.d, .string c.e.l] _ Hcw.out Tryz.underlying54 rfl (by kernel_rfl) ?_)
          rw [← Hw2.out]
          generalize wr.heap.size = g at *
          clear Hw2 Hcw Hbr
          by_cases hk0 : k = 0
          · subst hk0
            rcases hfr with ⟨hgc, hx⟩ | ⟨hgc, hx⟩
            · obtain ⟨x, hxA, rfl⟩ := hx
              have hc := Hc2.out
              have k0 : w2.cell? ⟨g, 0, none⟩ = some (.string x.p) := block_cell (j := 0) hc rfl
              have k1 : w2.cell? ⟨g, 1, none⟩ = some (.bool true) := block_cell (j := 1) hc rfl
              have K2 := Lib.hid (show ∀ j u, ([.string ⟨#[]⟩, .int .i64 0, .int .i64 0, .string ⟨#[]⟩, .string ⟨#[]⟩] : List Value)[j]? = some u → w2.cell? ((⟨g, 2, none⟩ : Addr).add j) = some u from fun j u hj => by
                have h5 : j < 5 := (List.getElem?_eq_some_iff.1 hj).1
                have h6 : w2.cell? ⟨g, 2 + j, none⟩ = some u := by
                  refine block_cell (j := 2 + j) hc ?_
                  rw [← hj]
                  match j, h5 with
                  | 0, _ => rfl
                  | 1, _ => rfl
                  | 2, _ => rfl
                  | 3, _ => rfl
                  | 4, _ => rfl
                unfold Addr.add
                split
                · rename_i h0; subst h0; exact h6
                · exact h6)
              have HT := Lib.hid (HTa.out x hxA w2 (HB1.out.trans (HB2.out.mono HB1.out.size)))
              clear hc
              go_wp2_with (refine wpList_load_wanted (by rfl) 52 _ rfl ⟨g, 2, none⟩ rfl [.string ⟨#[]⟩, .int .i64 0, .int .i64 0, .string ⟨#[]⟩, .string ⟨#[]⟩] _ K2.out Tryz.underlying52 rfl (by kernel_rfl) ?_
                           simp only [Act.put, List.setIfInBounds_toArray, List.set_cons_zero, List.set_cons_succ]
                           refine wpList_build_wanted (by rfl) 52 rfl #[.string ⟨#[]⟩, .int .i64 0, .int .i64 0, .string ⟨#[]⟩, .string ⟨#[]⟩] (by kernel_rfl) ?_
                           simp only [Act.put, List.setIfInBounds_toArray, List.set_cons_zero, List.set_cons_succ]
                           refine wpList_neq_wanted (by rfl) 52 _ _ _ rfl #[.string ⟨#[]⟩, .int .i64 0, .int .i64 0, .string ⟨#[]⟩, .string ⟨#[]⟩] #[.string ⟨#[]⟩, .int .i64 0, .int .i64 0, .string ⟨#[]⟩, .string ⟨#[]⟩] rfl rfl false (by kernel_rfl) (neq_zero _) ?_
                           simp only [Act.put, List.setIfInBounds_toArray, List.set_cons_zero, List.set_cons_succ])
              refine HT.out.mono ?_
              rintro r wt ⟨rfl, rfl⟩
              go_wp2_with fail
              have hWs := HB2.out.size
              go_loopw [10] (fun kv wr => ∃ (j : Nat), kv = .int .i64 (j : Int) ∧ j ≤ 0 ∧ Below w2.heap.size w2 wr) (fun kv _ => 0 - (intOf kv).toNat)
              case atStart => exact ⟨0, rfl, Nat.zero_le _, Below.refl _ _⟩
              case round =>
                obtain ⟨j, rfl, hj, hbz⟩ := hrel
                have HBz := Lib.hid (HB2.out.trans (hbz.mono hWs))
                have Hz := Lib.hid hbz
                have Hcz := Lib.hid ((hbz.block g (heap_lt Hc2.out)).trans Hc2.out)
                clear hbz
                by_cases hjk : j < 0
                · exact absurd hjk (Nat.not_lt_zero _)
                · obtain rfl : j = 0 := by omega
                  go_wp2_with fail
                  go_roundw
                  case rel => exact ⟨0 + 1, by go_num, by omega, HBz.out⟩
                  case measure => simp [intOf]; omega
            · obtain ⟨x, hxB, rfl⟩ := hx
              have hc := Hc2.out
              have k0 : w2.cell? ⟨g, 0, none⟩ = some (.string x.p) := block_cell (j := 0) hc rfl
              have k1 : w2.cell? ⟨g, 1, none⟩ = some (.bool false) := block_cell (j := 1) hc rfl
              have k2 : w2.cell? ⟨g, 2, none⟩ = some (.string x.p) := block_cell (j := 2) hc rfl
              have HT := Lib.hid (HTb.out x hxB w2 (HB1.out.trans (HB2.out.mono HB1.out.size)))
              have b1 : (x.p.toList == x.p.toList) = true := by simp
              clear hc
              go_wp2_with (go_at_call 28; refine HT.out.mono ?_; rintro r wt ⟨rfl, rfl⟩)
              have hWs := HB2.out.size
              go_loopw [10] (fun kv wr => ∃ (j : Nat), kv = .int .i64 (j : Int) ∧ j ≤ 0 ∧ Below w2.heap.size w2 wr) (fun kv _ => 0 - (intOf kv).toNat)
              case atStart => exact ⟨0, rfl, Nat.zero_le _, Below.refl _ _⟩
              case round =>
                obtain ⟨j, rfl, hj, hbz⟩ := hrel
                have HBz := Lib.hid (HB2.out.trans (hbz.mono hWs))
                have Hz := Lib.hid hbz
                have Hcz := Lib.hid ((hbz.block g (heap_lt Hc2.out)).trans Hc2.out)
                clear hbz
                by_cases hjk : j < 0
                · exact absurd hjk (Nat.not_lt_zero _)
                · obtain rfl : j = 0 := by omega
                  go_wp2_with fail
                  go_roundw
                  case rel => exact ⟨0 + 1, by go_num, by omega, HBz.out⟩
                  case measure => simp [intOf]; omega
          · obtain ⟨k', hk'⟩ : ∃ k', k = k' + 1 := ⟨k - 1, by omega⟩
            have hsub : (k : Int) - 1 = (k' : Int) := by omega
            have hwr : IntKind.i64.wrap (k' : Int) = (k' : Int) := by rw [IntKind.wrap_i64]; omega
            have hpos : (0 : Int) < (k : Int) := by omega
            have hkk : k' < k := by omega
            have hkn' : k' < n := by omega
            clear hk'
            obtain ⟨p, hpk⟩ : ∃ p, C[k']? = some p := ⟨_, List.getElem?_eq_getElem (by rw [← Hn.out]; omega)⟩
            have hps := (Hsc.out p (List.mem_of_getElem? hpk)).1
            have hrel := (Hform.out k' k p c hkk hpk Hck.out).1
            have Hpw := Hget.out k' p hpk
            obtain ⟨m, hm⟩ : ∃ m, compareP p.path c.path = m := ⟨_, rfl⟩
            have cM := fun d os => Calls.regrown_of ((compare_any p.p c.p (grow (redrawn w2 d) os) (by omega) (by omega)).mono (R' := fun e w' => e = .returned (.int .i64 m) ∧ Below (grow (redrawn w2 d) os).heap.size (grow (redrawn w2 d) os) w') (fun e w' ⟨h1, h2⟩ => ⟨by rw [h1, ← hm]; rfl, by obtain ⟨q, rfl⟩ := h2; exact below_drewN (Below.refl _ _) _⟩))
            have CM := Lib.hid cM
            have x1 : ∀ d os, (grow (redrawn w2 d) os).cell? (a.add (k' * 7)) = some (.string p.p) := fun d os => cell_regrown (by rw [← add_zero' (a.add (k' * 7))]; exact Hpw w2 HB2.out 0 _ rfl) d os
            have x2 : ∀ d os, (grow (redrawn w2 d) os).cell? ⟨g, 0, none⟩ = some (.string c.p) := fun d os => cell_regrown (block_cell (j := 0) Hc2.out rfl) d os
            have Hp2 := Lib.hid Hpw
            have Hm := Lib.hid hm
            have Hrel := Lib.hid hrel
            clear cM hm hrel hpk Hpw
            go_wp2_with fail
            refine wp_region_quiet_below (by kernel_rfl) (by kernel_rfl) ?_
            repeat (quiet_step (exact CM.out _ _))
            refine wpQuiet_nil ?_
            intro w3 hwf
            have h23 : Below w2.heap.size w2 w3 := by obtain ⟨q, hq⟩ := hwf; rw [hq]; exact below_regrown w2 _ _
            have hc3 := (h23.block g (heap_lt Hc2.out)).trans Hc2.out
            have HB3 := Lib.hid (HB2.out.trans (h23.mono HB2.out.size))
            have p1 : w3.cell? ⟨(a.add (k' * 7)).block, (a.add (k' * 7)).off + 1, none⟩ = some (.bool p.g) := Hp2.out w3 HB3.out 1 _ rfl
            have Hc3 := Lib.hid hc3
            have hc1 : w3.cell? ⟨g, 1, none⟩ = some (.bool c.g) := block_cell (j := 1) hc3 rfl
            clear x1 x2 hwf h23 hc3 CM Hc2 HB2 Hp2
            rcases Hrel.out with hlt0 | ⟨he, hg1, hg2⟩
            · have m1 : m < 0 := by rw [← Hm.out]; exact hlt0
              have m2 : ¬ (0 < m) := by omega
              have m3 : m ≤ 0 := by omega
              have m4 : ¬ (m = 0) := by omega
              have m5 : (m == 0) = false := by simp [m4]
              clear hlt0 Hm Hrel
              rcases hfr with ⟨hgc, hx⟩ | ⟨hgc, hx⟩
              · obtain ⟨x, hxA, rfl⟩ := hx
                have hc := Hc3.out
                have k0 : w3.cell? ⟨g, 0, none⟩ = some (.string x.p) := block_cell (j := 0) hc rfl
                have k1 : w3.cell? ⟨g, 1, none⟩ = some (.bool true) := block_cell (j := 1) hc rfl
                have K2 := Lib.hid (show ∀ j u, ([.string ⟨#[]⟩, .int .i64 0, .int .i64 0, .string ⟨#[]⟩, .string ⟨#[]⟩] : List Value)[j]? = some u → w3.cell? ((⟨g, 2, none⟩ : Addr).add j) = some u from fun j u hj => by
                  have h5 : j < 5 := (List.getElem?_eq_some_iff.1 hj).1
                  have h6 : w3.cell? ⟨g, 2 + j, none⟩ = some u := by
                    refine block_cell (j := 2 + j) hc ?_
                    rw [← hj]
                    match j, h5 with
                    | 0, _ => rfl
                    | 1, _ => rfl
                    | 2, _ => rfl
                    | 3, _ => rfl
                    | 4, _ => rfl
                  unfold Addr.add
                  split
                  · rename_i h0; subst h0; exact h6
                  · exact h6)
                have HT := Lib.hid (HTa.out x hxA w3 (HB1.out.trans (HB3.out.mono HB1.out.size)))
                clear hc
                go_wp2_with (refine wpList_load_wanted (by rfl) 52 _ rfl ⟨g, 2, none⟩ rfl [.string ⟨#[]⟩, .int .i64 0, .int .i64 0, .string ⟨#[]⟩, .string ⟨#[]⟩] _ K2.out Tryz.underlying52 rfl (by kernel_rfl) ?_
                             simp only [Act.put, List.setIfInBounds_toArray, List.set_cons_zero, List.set_cons_succ]
                             refine wpList_build_wanted (by rfl) 52 rfl #[.string ⟨#[]⟩, .int .i64 0, .int .i64 0, .string ⟨#[]⟩, .string ⟨#[]⟩] (by kernel_rfl) ?_
                             simp only [Act.put, List.setIfInBounds_toArray, List.set_cons_zero, List.set_cons_succ]
                             refine wpList_neq_wanted (by rfl) 52 _ _ _ rfl #[.string ⟨#[]⟩, .int .i64 0, .int .i64 0, .string ⟨#[]⟩, .string ⟨#[]⟩] #[.string ⟨#[]⟩, .int .i64 0, .int .i64 0, .string ⟨#[]⟩, .string ⟨#[]⟩] rfl rfl false (by kernel_rfl) (neq_zero _) ?_
                             simp only [Act.put, List.setIfInBounds_toArray, List.set_cons_zero, List.set_cons_succ])
                refine HT.out.mono ?_
                rintro r wt ⟨rfl, rfl⟩
                go_wp2_with fail
                have hWs := HB3.out.size
                go_loopw [10] (fun kv wr => ∃ (j : Nat), kv = .int .i64 (j : Int) ∧ j ≤ k ∧ Below w3.heap.size w3 wr) (fun kv _ => k - (intOf kv).toNat)
                case atStart => exact ⟨0, rfl, Nat.zero_le _, Below.refl _ _⟩
                case round =>
                  obtain ⟨j, rfl, hj, hbz⟩ := hrel
                  have HBz := Lib.hid (HB3.out.trans (hbz.mono hWs))
                  have Hz := Lib.hid hbz
                  have Hcz := Lib.hid ((hbz.block g (heap_lt Hc3.out)).trans Hc3.out)
                  clear hbz
                  by_cases hjk : j < k
                  · obtain ⟨d, hdj⟩ : ∃ d, C[j]? = some d := ⟨_, List.getElem?_eq_getElem (by rw [← Hn.out]; omega)⟩
                    have hjn : j < n := by omega
                    have hxs : x.p.size < 1152921504606846976 := hs
                    have hds := (Hsc.out d (List.mem_of_getElem? hdj)).1
                    have Hrd := Lib.hid (Hform.out j k d _ hjk hdj Hck.out).2
                    have hdw := Hget.out j d hdj wr HBz.out
                    have x1 : ∀ e os, (grow (redrawn wr e) os).cell? ⟨(a.add (j * 7)).block, (a.add (j * 7)).off + 1, none⟩ = some (.bool d.g) := fun e os => cell_regrown (hdw 1 _ rfl) e os
                    have x2 : ∀ e os, (grow (redrawn wr e) os).cell? (a.add (j * 7)) = some (.string d.p) := fun e os => cell_regrown (by rw [← add_zero' (a.add (j * 7))]; exact hdw 0 _ rfl) e os
                    have x3 : ∀ e os, (grow (redrawn wr e) os).cell? ⟨g, 0, none⟩ = some (.string x.p) := fun e os => cell_regrown (block_cell (j := 0) Hcz.out rfl) e os
                    obtain ⟨q, hq⟩ : ∃ q, belowP d.path x.path = q := ⟨_, rfl⟩
                    have cB := fun e os => Calls.regrown_of ((below_any d.p x.p (grow (redrawn wr e) os) (by omega) (by omega)).mono (R' := fun r w' => r = .returned (.bool q) ∧ Below (grow (redrawn wr e) os).heap.size (grow (redrawn wr e) os) w') (fun r w' ⟨h1, h2⟩ => ⟨by rw [h1, ← hq]; rfl, by subst h2; exact Below.refl _ _⟩))
                    have CB := Lib.hid cB
                    obtain ⟨dg, hdg⟩ : ∃ q, d.g = q := ⟨_, rfl⟩
                    rw [hdg] at x1
                    have Hdg := Lib.hid hdg
                    have Hq := Lib.hid hq
                    clear cB hdw hdj hdg hq
                    cases dg with
                    | false =>
                      go_wp2_with fail
                      refine wp_region_quiet_below (by kernel_rfl) (by kernel_rfl) ?_
                      iterate 6 (quiet_step (fail))
                      iterate 8 (refine quiet_skip (by rfl) ?_; simp only [Act.put, List.setIfInBounds_toArray, List.set_cons_zero, List.set_cons_succ])
                      iterate 2 (quiet_step (fail))
                      iterate 5 (refine quiet_skip (by rfl) ?_; simp only [Act.put, List.setIfInBounds_toArray, List.set_cons_zero, List.set_cons_succ])
                      quiet_step (fail)
                      refine wpQuiet_nil ?_
                      intro wf hwf
                      have Bf := Lib.hid (show Below w3.heap.size w3 wf by obtain ⟨q, hq⟩ := hwf; rw [hq]; exact Hz.out.trans ((below_regrown wr _ _).mono Hz.out.size))
                      clear x1 x2 x3 hwf
                      go_wp2_with fail
                      go_roundw
                      case rel => exact ⟨j + 1, by go_num, by omega, Bf.out⟩
                      case measure => simp [intOf]; omega
                    | true =>
                      obtain rfl : q = false := by rw [← Hq.out]; exact Hrd.out Hdg.out rfl
                      go_wp2_with fail
                      refine wp_region_quiet_below (by kernel_rfl) (by kernel_rfl) ?_
                      iterate 6 (quiet_step (fail))
                      iterate 10 (quiet_step (exact CB.out _ _))
                      iterate 5 (refine quiet_skip (by rfl) ?_; simp only [Act.put, List.setIfInBounds_toArray, List.set_cons_zero, List.set_cons_succ])
                      quiet_step (fail)
                      refine wpQuiet_nil ?_
                      intro wf hwf
                      have Bf := Lib.hid (show Below w3.heap.size w3 wf by obtain ⟨q, hq⟩ := hwf; rw [hq]; exact Hz.out.trans ((below_regrown wr _ _).mono Hz.out.size))
                      clear x1 x2 x3 hwf
                      go_wp2_with fail
                      go_roundw
                      case rel => exact ⟨j + 1, by go_num, by omega, Bf.out⟩
                      case measure => simp [intOf]; omega
                  · obtain rfl : j = k := by omega
                    go_wp2_with fail
                    go_roundw
                    case rel => exact ⟨j + 1, by go_num, by omega, HBz.out⟩
                    case measure => simp [intOf]; omega
              · obtain ⟨x, hxB, rfl⟩ := hx
                have hc := Hc3.out
                have k0 : w3.cell? ⟨g, 0, none⟩ = some (.string x.p) := block_cell (j := 0) hc rfl
                have k1 : w3.cell? ⟨g, 1, none⟩ = some (.bool false) := block_cell (j := 1) hc rfl
                have k2 : w3.cell? ⟨g, 2, none⟩ = some (.string x.p) := block_cell (j := 2) hc rfl
                have HT := Lib.hid (HTb.out x hxB w3 (HB1.out.trans (HB3.out.mono HB1.out.size)))
                have b1 : (x.p.toList == x.p.toList) = true := by simp
                clear hc
                go_wp2_with (go_at_call 28; refine HT.out.mono ?_; rintro r wt ⟨rfl, rfl⟩)
                have hWs := HB3.out.size
                go_loopw [10] (fun kv wr => ∃ (j : Nat), kv = .int .i64 (j : Int) ∧ j ≤ k ∧ Below w3.heap.size w3 wr) (fun kv _ => k - (intOf kv).toNat)
                case atStart => exact ⟨0, rfl, Nat.zero_le _, Below.refl _ _⟩
                case round =>
                  obtain ⟨j, rfl, hj, hbz⟩ := hrel
                  have HBz := Lib.hid (HB3.out.trans (hbz.mono hWs))
                  have Hz := Lib.hid hbz
                  have Hcz := Lib.hid ((hbz.block g (heap_lt Hc3.out)).trans Hc3.out)
                  clear hbz
                  by_cases hjk : j < k
                  · obtain ⟨d, hdj⟩ : ∃ d, C[j]? = some d := ⟨_, List.getElem?_eq_getElem (by rw [← Hn.out]; omega)⟩
                    have hjn : j < n := by omega
                    have hxs : x.p.size < 1152921504606846976 := hs
                    have hds := (Hsc.out d (List.mem_of_getElem? hdj)).1
                    have Hrd := Lib.hid (Hform.out j k d _ hjk hdj Hck.out).2
                    have hdw := Hget.out j d hdj wr HBz.out
                    have x1 : ∀ e os, (grow (redrawn wr e) os).cell? ⟨(a.add (j * 7)).block, (a.add (j * 7)).off + 1, none⟩ = some (.bool d.g) := fun e os => cell_regrown (hdw 1 _ rfl) e os
                    have x2 : ∀ e os, (grow (redrawn wr e) os).cell? (a.add (j * 7)) = some (.string d.p) := fun e os => cell_regrown (by rw [← add_zero' (a.add (j * 7))]; exact hdw 0 _ rfl) e os
                    have x3 : ∀ e os, (grow (redrawn wr e) os).cell? ⟨g, 0, none⟩ = some (.string x.p) := fun e os => cell_regrown (block_cell (j := 0) Hcz.out rfl) e os
                    obtain ⟨q, hq⟩ : ∃ q, belowP d.path x.path = q := ⟨_, rfl⟩
                    have cB := fun e os => Calls.regrown_of ((below_any d.p x.p (grow (redrawn wr e) os) (by omega) (by omega)).mono (R' := fun r w' => r = .returned (.bool q) ∧ Below (grow (redrawn wr e) os).heap.size (grow (redrawn wr e) os) w') (fun r w' ⟨h1, h2⟩ => ⟨by rw [h1, ← hq]; rfl, by subst h2; exact Below.refl _ _⟩))
                    have CB := Lib.hid cB
                    obtain ⟨dg, hdg⟩ : ∃ q, d.g = q := ⟨_, rfl⟩
                    rw [hdg] at x1
                    have Hdg := Lib.hid hdg
                    have Hq := Lib.hid hq
                    clear cB hdw hdj hdg hq
                    have CT := Lib.hid (fun e os => Calls.regrown_of ((HTb.out x hxB (grow (redrawn wr e) os) ((HB1.out.trans (HBz.out.mono HB1.out.size)).trans ((below_regrown wr e os).mono (HB1.out.trans (HBz.out.mono HB1.out.size)).size))).mono (R' := fun r w' => r = .returned (.bool true) ∧ Below (grow (redrawn wr e) os).heap.size (grow (redrawn wr e) os) w') (fun r w' ⟨h1, h2⟩ => ⟨h1, by subst h2; exact Below.refl _ _⟩)))
                    cases dg with
                    | false =>
                      go_wp2_with fail
                      refine wp_region_quiet_below (by kernel_rfl) (by kernel_rfl) ?_
                      iterate 6 (quiet_step (fail))
                      iterate 8 (refine quiet_skip (by rfl) ?_; simp only [Act.put, List.setIfInBounds_toArray, List.set_cons_zero, List.set_cons_succ])
                      iterate 2 (quiet_step (fail))
                      iterate 5 (refine quiet_skip (by rfl) ?_; simp only [Act.put, List.setIfInBounds_toArray, List.set_cons_zero, List.set_cons_succ])
                      quiet_step (fail)
                      refine wpQuiet_nil ?_
                      intro wf hwf
                      have Bf := Lib.hid (show Below w3.heap.size w3 wf by obtain ⟨q, hq⟩ := hwf; rw [hq]; exact Hz.out.trans ((below_regrown wr _ _).mono Hz.out.size))
                      clear x1 x2 x3 hwf
                      go_wp2_with fail
                      go_roundw
                      case rel => exact ⟨j + 1, by go_num, by omega, Bf.out⟩
                      case measure => simp [intOf]; omega
                    | true =>
                      cases q with
                      | false =>
                        go_wp2_with fail
                        refine wp_region_quiet_below (by kernel_rfl) (by kernel_rfl) ?_
                        iterate 6 (quiet_step (fail))
                        iterate 10 (quiet_step (exact CB.out _ _))
                        iterate 5 (refine quiet_skip (by rfl) ?_; simp only [Act.put, List.setIfInBounds_toArray, List.set_cons_zero, List.set_cons_succ])
                        quiet_step (fail)
                        refine wpQuiet_nil ?_
                        intro wf hwf
                        have Bf := Lib.hid (show Below w3.heap.size w3 wf by obtain ⟨q, hq⟩ := hwf; rw [hq]; exact Hz.out.trans ((below_regrown wr _ _).mono Hz.out.size))
                        clear x1 x2 x3 hwf
                        go_wp2_with fail
                        go_roundw
                        case rel => exact ⟨j + 1, by go_num, by omega, Bf.out⟩
                        case measure => simp [intOf]; omega
                      | true =>
                        go_wp2_with fail
                        refine wp_region_quiet_below (by kernel_rfl) (by kernel_rfl) ?_
                        iterate 6 (quiet_step (fail))
                        iterate 16 (quiet_step (first | exact CB.out _ _ | exact CT.out _ _))
                        refine wpQuiet_nil ?_
                        intro wf hwf
                        have Bf := Lib.hid (show Below w3.heap.size w3 wf by obtain ⟨q, hq⟩ := hwf; rw [hq]; exact Hz.out.trans ((below_regrown wr _ _).mono Hz.out.size))
                        clear x1 x2 x3 hwf
                        go_wp2_with fail
                        go_roundw
                        case rel => exact ⟨j + 1, by go_num, by omega, Bf.out⟩
                        case measure => simp [intOf]; omega
                  · obtain rfl : j = k := by omega
                    go_wp2_with fail
                    go_roundw
                    case rel => exact ⟨j + 1, by go_num, by omega, HBz.out⟩
                    case measure => simp [intOf]; omega
            · obtain rfl : m = 0 := by rw [← Hm.out]; exact compareP_zero.2 he
              rw [hg1] at p1
              rw [hg2] at hc1
              clear he hg1 Hm Hrel
              rcases hfr with ⟨hgc, hx⟩ | ⟨hgc, hx⟩
              · rw [hg2] at hgc; cases hgc
              · obtain ⟨x, hxB, rfl⟩ := hx
                have hc := Hc3.out
                have k0 : w3.cell? ⟨g, 0, none⟩ = some (.string x.p) := block_cell (j := 0) hc rfl
                have k1 : w3.cell? ⟨g, 1, none⟩ = some (.bool false) := block_cell (j := 1) hc rfl
                have k2 : w3.cell? ⟨g, 2, none⟩ = some (.string x.p) := block_cell (j := 2) hc rfl
                have HT := Lib.hid (HTb.out x hxB w3 (HB1.out.trans (HB3.out.mono HB1.out.size)))
                have b1 : (x.p.toList == x.p.toList) = true := by simp
                clear hc
                go_wp2_with (go_at_call 28; refine HT.out.mono ?_; rintro r wt ⟨rfl, rfl⟩)
                have hWs := HB3.out.size
                go_loopw [10] (fun kv wr => ∃ (j : Nat), kv = .int .i64 (j : Int) ∧ j ≤ k ∧ Below w3.heap.size w3 wr) (fun kv _ => k - (intOf kv).toNat)
                case atStart => exact ⟨0, rfl, Nat.zero_le _, Below.refl _ _⟩
                case round =>
                  obtain ⟨j, rfl, hj, hbz⟩ := hrel
                  have HBz := Lib.hid (HB3.out.trans (hbz.mono hWs))
                  have Hz := Lib.hid hbz
                  have Hcz := Lib.hid ((hbz.block g (heap_lt Hc3.out)).trans Hc3.out)
                  clear hbz
                  by_cases hjk : j < k
                  · obtain ⟨d, hdj⟩ : ∃ d, C[j]? = some d := ⟨_, List.getElem?_eq_getElem (by rw [← Hn.out]; omega)⟩
                    have hjn : j < n := by omega
                    have hxs : x.p.size < 1152921504606846976 := hs
                    have hds := (Hsc.out d (List.mem_of_getElem? hdj)).1
                    have Hrd := Lib.hid (Hform.out j k d _ hjk hdj Hck.out).2
                    have hdw := Hget.out j d hdj wr HBz.out
                    have x1 : ∀ e os, (grow (redrawn wr e) os).cell? ⟨(a.add (j * 7)).block, (a.add (j * 7)).off + 1, none⟩ = some (.bool d.g) := fun e os => cell_regrown (hdw 1 _ rfl) e os
                    have x2 : ∀ e os, (grow (redrawn wr e) os).cell? (a.add (j * 7)) = some (.string d.p) := fun e os => cell_regrown (by rw [← add_zero' (a.add (j * 7))]; exact hdw 0 _ rfl) e os
                    have x3 : ∀ e os, (grow (redrawn wr e) os).cell? ⟨g, 0, none⟩ = some (.string x.p) := fun e os => cell_regrown (block_cell (j := 0) Hcz.out rfl) e os
                    obtain ⟨q, hq⟩ : ∃ q, belowP d.path x.path = q := ⟨_, rfl⟩
                    have cB := fun e os => Calls.regrown_of ((below_any d.p x.p (grow (redrawn wr e) os) (by omega) (by omega)).mono (R' := fun r w' => r = .returned (.bool q) ∧ Below (grow (redrawn wr e) os).heap.size (grow (redrawn wr e) os) w') (fun r w' ⟨h1, h2⟩ => ⟨by rw [h1, ← hq]; rfl, by subst h2; exact Below.refl _ _⟩))
                    have CB := Lib.hid cB
                    obtain ⟨dg, hdg⟩ : ∃ q, d.g = q := ⟨_, rfl⟩
                    rw [hdg] at x1
                    have Hdg := Lib.hid hdg
                    have Hq := Lib.hid hq
                    clear cB hdw hdj hdg hq
                    have CT := Lib.hid (fun e os => Calls.regrown_of ((HTb.out x hxB (grow (redrawn wr e) os) ((HB1.out.trans (HBz.out.mono HB1.out.size)).trans ((below_regrown wr e os).mono (HB1.out.trans (HBz.out.mono HB1.out.size)).size))).mono (R' := fun r w' => r = .returned (.bool true) ∧ Below (grow (redrawn wr e) os).heap.size (grow (redrawn wr e) os) w') (fun r w' ⟨h1, h2⟩ => ⟨h1, by subst h2; exact Below.refl _ _⟩)))
                    cases dg with
                    | false =>
                      go_wp2_with fail
                      refine wp_region_quiet_below (by kernel_rfl) (by kernel_rfl) ?_
                      iterate 6 (quiet_step (fail))
                      iterate 8 (refine quiet_skip (by rfl) ?_; simp only [Act.put, List.setIfInBounds_toArray, List.set_cons_zero, List.set_cons_succ])
                      iterate 2 (quiet_step (fail))
                      iterate 5 (refine quiet_skip (by rfl) ?_; simp only [Act.put, List.setIfInBounds_toArray, List.set_cons_zero, List.set_cons_succ])
                      quiet_step (fail)
                      refine wpQuiet_nil ?_
                      intro wf hwf
                      have Bf := Lib.hid (show Below w3.heap.size w3 wf by obtain ⟨q, hq⟩ := hwf; rw [hq]; exact Hz.out.trans ((below_regrown wr _ _).mono Hz.out.size))
                      clear x1 x2 x3 hwf
                      go_wp2_with fail
                      go_roundw
                      case rel => exact ⟨j + 1, by go_num, by omega, Bf.out⟩
                      case measure => simp [intOf]; omega
                    | true =>
                      cases q with
                      | false =>
                        go_wp2_with fail
                        refine wp_region_quiet_below (by kernel_rfl) (by kernel_rfl) ?_
                        iterate 6 (quiet_step (fail))
                        iterate 10 (quiet_step (exact CB.out _ _))
                        iterate 5 (refine quiet_skip (by rfl) ?_; simp only [Act.put, List.setIfInBounds_toArray, List.set_cons_zero, List.set_cons_succ])
                        quiet_step (fail)
                        refine wpQuiet_nil ?_
                        intro wf hwf
                        have Bf := Lib.hid (show Below w3.heap.size w3 wf by obtain ⟨q, hq⟩ := hwf; rw [hq]; exact Hz.out.trans ((below_regrown wr _ _).mono Hz.out.size))
                        clear x1 x2 x3 hwf
                        go_wp2_with fail
                        go_roundw
                        case rel => exact ⟨j + 1, by go_num, by omega, Bf.out⟩
                        case measure => simp [intOf]; omega
                      | true =>
                        go_wp2_with fail
                        refine wp_region_quiet_below (by kernel_rfl) (by kernel_rfl) ?_
                        iterate 6 (quiet_step (fail))
                        iterate 16 (quiet_step (first | exact CB.out _ _ | exact CT.out _ _))
                        refine wpQuiet_nil ?_
                        intro wf hwf
                        have Bf := Lib.hid (show Below w3.heap.size w3 wf by obtain ⟨q, hq⟩ := hwf; rw [hq]; exact Hz.out.trans ((below_regrown wr _ _).mono Hz.out.size))
                        clear x1 x2 x3 hwf
                        go_wp2_with fail
                        go_roundw
                        case rel => exact ⟨j + 1, by go_num, by omega, Bf.out⟩
                        case measure => simp [intOf]; omega
                  · obtain rfl : j = k := by omega
                    go_wp2_with fail
                    go_roundw
                    case rel => exact ⟨j + 1, by go_num, by omega, HBz.out⟩
                    case measure => simp [intOf]; omega
        · obtain rfl : k = n := by omega
          go_wp2_with fail
          refine (HW.out wr (HB1.out.trans (Hbr.out.mono HB1.out.size))).mono ?_
          rintro r w7 ⟨rfl, hb7⟩
          have HB7 := Lib.hid ((HB1.out.trans (Hbr.out.mono HB1.out.size)).trans (hb7.mono (HB1.out.trans (Hbr.out.mono HB1.out.size)).size))
          clear hb7
          go_wp2_with fail
          go_ret
          exact ⟨rfl, HB7.out⟩
    · have Ca := Lib.hid ca
      have Cb := Lib.hid cb
      clear ha hb hg sa sb ca cb
      go_enter Tryz.func7, Tryz.ntmps7
      go_wp2_with fail
      refine HD.out.mono ?_
      rintro r w1 ⟨hb1, v, e, rfl, hr⟩
      obtain ⟨rfl, rfl⟩ := hr.b Ca.out Cb.out
      have HB1 := Lib.hid hb1
      clear hr hb1
      unfold fltV
      go_wp2_with fail
      refine (HW.out w1 HB1.out).mono ?_
      rintro r w7 ⟨rfl, hb7⟩
      have HB7 := Lib.hid (HB1.out.trans (hb7.mono HB1.out.size))
      clear hb7 HB1
      go_wp2_with fail
      go_ret
      exact ⟨rfl, HB7.out⟩
  · have Ca := Lib.hid ca
    clear ha hb hg sa sb ca
    go_enter Tryz.func7, Tryz.ntmps7
    go_wp2_with fail
    refine HD.out.mono ?_
    rintro r w1 ⟨hb1, v, e, rfl, hr⟩
    obtain ⟨rfl, rfl⟩ := hr.a Ca.out
    have HB1 := Lib.hid hb1
    clear hr hb1
    unfold fltV
    go_wp2_with fail
    refine (HW.out w1 HB1.out).mono ?_
    rintro r w7 ⟨rfl, hb7⟩
    have HB7 := Lib.hid (HB1.out.trans (hb7.mono HB1.out.size))
    clear hb7 HB1
    go_wp2_with fail
    go_ret
    exact ⟨rfl, HB7.out⟩
end Go.Proofs.YtipfccfjniglbaaGreatDoor
