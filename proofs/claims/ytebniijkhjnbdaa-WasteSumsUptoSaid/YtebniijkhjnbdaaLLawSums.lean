/- The walk of WasteSums. -/
import Derived.Test.YtebniijkhjnbdaaLWorks
import Derived.Test.YtebniijkhjnbdaaLAlike
import Derived.Test.YtebniijkhjnbdaaLSumP
import Derived.Test.YtebniijkhjnbdaaCompare
set_option linter.unusedSimpArgs false
set_option linter.unusedVariables false
set_option exponentiation.threshold 3000
namespace Go.Proofs.Ytebniijkhjnbdaa
open Go.RowKit Go.Maps
open Go.Lib hiding intOf size_eq
theorem Try.infoChange : (Try.prog.info? 43).map (fun i => (i.zero, i.size, i.bytes)) = some (some (.agg #[.string ⟨#[]⟩, .bool false, .string ⟨#[]⟩, .int .i64 0, .int .i64 0, .string ⟨#[]⟩, .string ⟨#[]⟩]), 7, 88) := by kernel_rfl
theorem Try.infoRow : (Try.prog.info? 38).map (fun i => (i.zero, i.size, i.bytes)) = some (some (.slice none 0 0), 1, 24) := by kernel_rfl
/-- the wastes: in the block b, in the world W -/
def WasteIn (W : World) (b : Nat) (T le : Int) (sc me sp : Nat) (vw : Value) : Prop := W.heap[b]? = some (.cells #[.int .i64 T, .int .i64 le, .float .f64 sc, .float .f64 me, .float .f64 sp, vw] 27 (0, 0))
theorem WasteIn.below {w W : World} {B b : Nat} {T le : Int} {sc me sp : Nat} {vw : Value} (h : WasteIn w b T le sc me sp vw) (hb : Below B w W) (hB : w.heap.size ≤ B) : WasteIn W b T le sc me sp vw := (hb.block b (by have := heap_lt h; omega)).trans h
theorem WasteIn.cells {W : World} {b : Nat} {T le : Int} {sc me sp : Nat} {vw : Value} (h : WasteIn W b T le sc me sp vw) :
    W.cell? ⟨b, 0, none⟩ = some (.int .i64 T) ∧ W.cell? ⟨b, 1, none⟩ = some (.int .i64 le) ∧ W.cell? ⟨b, 2, none⟩ = some (.float .f64 sc) ∧ W.cell? ⟨b, 3, none⟩ = some (.float .f64 me) ∧ W.cell? ⟨b, 4, none⟩ = some (.float .f64 sp) ∧ W.cell? ⟨b, 5, none⟩ = some vw := by
  unfold WasteIn at h
  exact ⟨block_cell h rfl, block_cell h rfl, block_cell h rfl, block_cell h rfl, block_cell h rfl, block_cell h rfl⟩
/-- a loss's cells as the walk writes their addresses -/
theorem lost_cells {W : World} {a : Addr} {x : LostB} (h : ∀ j v, (lostC x)[j]? = some v → W.cell? (a.add j) = some v) :
    W.cell? a = some (.string x.p) ∧ W.cell? ⟨a.block, a.off + 1, none⟩ = some (.int .i64 (x.t : Int)) ∧ W.cell? ⟨a.block, a.off + 2, none⟩ = some (.int .i64 (x.b : Int)) := by
  refine ⟨h 0 _ rfl, ?_, ?_⟩
  · rw [← gadd_ne a (by decide)]; exact h 1 _ rfl
  · rw [← gadd_ne a (by decide)]; exact h 2 _ rfl
def sumB (l : List Cw) (i : Nat) : Nat := (((worstR l).take i).map (·.b)).sum
theorem sumB_step {l : List Cw} {i : Nat} {x : LostN} (h : (worstR l)[i]? = some x) : sumB l (i + 1) = sumB l i + x.b := by
  unfold sumB
  rw [← gtake h, List.map_append, List.sum_append]
  simp
theorem sumB_le (l : List Cw) (i : Nat) : sumB l i ≤ totalR l := by
  have h := worst_sum l
  have e : ((worstR l).map (·.b)).sum = sumB l i + (((worstR l).drop i).map (·.b)).sum := by
    unfold sumB
    rw [← List.sum_append, ← List.map_append, List.take_append_drop]
  omega
section
variable {P : Program} {ops : Array Oper} {w : World}
theorem still_skip {Q : Act → Prop} {a : Act} {o : Oper} {rest : List Oper} (hw : Region.wanted o (yielded ops a.tmps) = false) (h : wpStill P ops w Q rest (a.put o.dst undef)) : wpStill P ops w Q (o :: rest) a :=
  wpStill_step fun K hK => by rw [hw]; exact hK _ h
theorem list_skip {Q : Exit → Act → World → Prop} {a : Act} {o : Oper} {rest : List Oper} (hw : Region.wanted o (yielded ops a.tmps) = false) (h : wpList P ops Q rest (a.put o.dst undef) w) : wpList P ops Q (o :: rest) a w :=
  wpList_step fun K hK => by rw [hw]; exact hK _ _ h
theorem still_run {Q : Act → Prop} {a : Act} {o : Oper} {rest : List Oper} (v : Value) (hw : Region.wanted o (yielded ops a.tmps) = true) (hr : (execOp a.eval o).run P w = .ok (.value v) w) (h : wpStill P ops w Q rest (a.put o.dst v)) : wpStill P ops w Q (o :: rest) a :=
  wpStill_step fun K hK => by
    rw [if_pos hw]
    unfold Oper.still
    rw [hr]
    exact ⟨rfl, hK _ h⟩
end
theorem each_len : ∀ D : List Chg, (D.flatMap fun c => [[c], []]).length = D.length * 2
  | [] => rfl
  | c :: D => by rw [List.flatMap_cons, List.length_append, each_len D, List.length_cons]; simp; omega
theorem flatC_one (LL : List (List Chg)) : flatC [LL.flatten] = flatC LL := by unfold flatC; simp
theorem flatC_each (LL : List (List Chg)) : flatC (LL.flatten.flatMap fun c => [[c], []]) = flatC LL := by unfold flatC; rw [each_flat]
theorem flat_step {LL : List (List Chg)} {q : Nat} {L : List Chg} (h : LL[q]? = some L) : (LL.take (q + 1)).flatten = (LL.take q).flatten ++ L := by
  rw [← gtake h, List.flatten_append]
  simp
theorem flat_bound {LL : List (List Chg)} {q k : Nat} {L : List Chg} {c : Chg} (h : LL[q]? = some L) (hc : L[k]? = some c) : ((LL.take q).flatten ++ L.take k).length < (flatC LL).length := by
  obtain ⟨R, hR⟩ := flatC_split h
  have hk := (List.getElem?_eq_some_iff.1 hc).1
  rw [hR]
  unfold flatC
  simp only [List.length_append, List.length_map, List.length_take]
  omega
theorem crowd_flat : ∀ LL : List (List Chg), LL.flatten.length + LL.length = crowdN LL
  | [] => rfl
  | L :: LL => by
    have e : crowdN (L :: LL) = (L.length + 1) + crowdN LL := by unfold crowdN; rw [List.map_cons, List.sum_cons]
    rw [e, List.flatten_cons, List.length_append, List.length_cons, ← crowd_flat LL]
    omega
/-- the look hangs on the changes alone -/
theorem look_same {v : Value} {LL' : List (List Chg)} {W : World} {fl : List Cw} {T le wn : Nat} {szs : List Nat} {sc me sp : Nat} (h : DeltasAt W v LL') (hf : flatC LL' = fl) (hT : T = totalR fl) (hle : le = leastR fl) (hwn : wn = (worstR fl).length)
    (hn : LL'.length ≤ 1048576) (hm : fl.length ≤ 1048576) (ht : totalR fl ≤ 1048576) (hp : ∀ L ∈ LL', ∀ c ∈ L, c.p.size ≤ 1048576) (hv : LookV T le szs sc me sp) :
    Calls Try.prog 10 #[v] W fun r w' => ∃ (o : Option Addr) (c me' sp' : Nat), r = .returned (.agg #[.int .i64 (T : Int), .int .i64 (le : Int), .float .f64 sc, .float .f64 me', .float .f64 sp', .slice o wn c]) ∧
      ItemsAt lostC 3 w' (.slice o wn c) ((worstR fl).map LostN.by) ∧ Below W.heap.size W w' := by
  subst hf
  refine (look_any v LL' W h hn hm ht hp).mono ?_
  rintro r w' ⟨vw, sc', me', sp', rfl, hv', hrow, hb⟩
  have hit : ItemsAt lostC 3 w' vw ((worstR (flatC LL')).map LostN.by) := items_of_row lostC_len (by simpa using hrow)
  obtain ⟨o, c, rfl⟩ := row_formG hrow
  rw [← hT, ← hle] at hv' ⊢
  have e : sc' = sc := by
    by_cases h0 : T = 0
    · rw [hv'.sc0 h0, hv.sc0 h0]
    · have h1 := hv'.sc1 h0
      rw [hv.sc1 h0] at h1
      injection h1 with h1
      exact h1.symm
  subst e
  rw [← hwn] at hit ⊢
  exact ⟨o, c, me', sp', rfl, hit, hb⟩
attribute [local irreducible] wpStill
set_option maxRecDepth 100000 in
set_option maxHeartbeats 16000000 in
theorem wasteSums_any (v : Value) (LL : List (List Chg)) (w : World) (h : DeltasAt w v LL) (hn : LL.length ≤ 1048576) (hm : (flatC LL).length ≤ 1048576) (ht : totalR (flatC LL) ≤ 1048576) (hp : ∀ L ∈ LL, ∀ c ∈ L, c.p.size ≤ 1048576) :
    Calls Try.prog 4 #[v] w fun r w' => r = .returned (.bool true) ∧ Below w.heap.size w w' := by
  have hlook := look_any v LL w h hn hm ht hp
  have hcrowd := crowded_any v LL w h hn hm
  obtain ⟨iC, hiC, hC0, hC1, hC2⟩ := info_parts Try.infoChange
  have HiC := Lib.hid hiC
  have HC0 := Lib.hid hC0
  have HC1 := Lib.hid hC1
  have HC2 := Lib.hid hC2
  obtain ⟨iR, hiR, hR0, hR1, hR2⟩ := info_parts Try.infoRow
  have HiR := Lib.hid hiR
  have HR0 := Lib.hid hR0
  have HR1 := Lib.hid hR1
  have HR2 := Lib.hid hR2
  clear hiC hC0 hC1 hC2 hiR hR0 hR1 hR2
  obtain ⟨o, cap, rfl, hlc, hcm⟩ := h.len
  obtain ⟨n, hnn⟩ : ∃ n, n = LL.length := ⟨_, rfl⟩
  rw [← hnn] at hlc hn hlook hcrowd ⊢
  have Hlook := Lib.hid hlook
  have Hcrowd := Lib.hid hcrowd
  have HW := Lib.hid works_any
  have Hd := Lib.hid h
  have Hnn := Lib.hid hnn
  have Hm := Lib.hid hm
  have Ht := Lib.hid ht
  have hpp : ∀ c ∈ flatC LL, c.p.length ≤ 1048576 := fun c hc => by
    obtain ⟨z, hz, rfl⟩ := List.mem_map.1 hc
    obtain ⟨L, hL, hzL⟩ := List.mem_flatten.1 hz
    have := hp L hL z hzL
    show z.p.data.toList.length ≤ 1048576
    rw [Array.length_toList]
    exact this
  have HP := Lib.hid hpp
  have Hp := Lib.hid hp
  have hsf := fun (x : Addr) (b : Nat) (m : Mode) (W : World) => run_store Try.prog W x (.float .f64 b) m rfl
  clear hlook hcrowd h hnn hm ht hp hpp
  go_enter Try.func4, Try.ntmps4
  go_wp2_with fail
  refine Hcrowd.out.mono ?_
  rintro r w' ⟨b0, rfl, hcr, rfl⟩
  cases b0 with
  | true =>
    go_wp2_with fail
    go_ret
    exact ⟨rfl, Below.refl _ _⟩
  | false =>
  have Hcr := Lib.hid (hcr rfl)
  clear hcr
  go_wp2_with fail
  refine Hlook.out.mono ?_
  rintro r w1 ⟨vw, sc, me, sp, rfl, hv, hrow, hb1⟩
  have hit : ItemsAt lostC 3 w1 vw ((worstR (flatC LL)).map LostN.by) := items_of_row lostC_len (by simpa using hrow)
  obtain ⟨ow, cw, rfl⟩ := row_formG hrow
  obtain ⟨T, hT⟩ : ∃ y, y = totalR (flatC LL) := ⟨_, rfl⟩
  obtain ⟨le, hle⟩ : ∃ y, y = leastR (flatC LL) := ⟨_, rfl⟩
  obtain ⟨wn, hwn⟩ : ∃ y, y = (worstR (flatC LL)).length := ⟨_, rfl⟩
  have hws := worst_sum (flatC LL)
  rw [← hT, ← hle] at hv ⊢
  rw [← hT, ← hle] at hws
  rw [← hwn] at hit ⊢
  have hTT := Ht.out
  rw [← hT] at hTT
  have hlT : le ≤ T := by omega
  have hwT : wn ≤ T := by rw [hwn, hT]; exact worst_len _
  have hsc := score_law hv hlT hTT
  obtain ⟨f1, f2, f3⟩ := score_order hsc
  have Hws := Lib.hid hws
  have HV := Lib.hid hv
  have HB1 := Lib.hid hb1
  have HT := Lib.hid hT
  have Hle := Lib.hid hle
  have Hwn := Lib.hid hwn
  have Hit := Lib.hid hit
  have F1 := Lib.hid f1
  have F2 := Lib.hid f2
  have F3 := Lib.hid f3
  clear hv hb1 hT hle hwn hrow hit hws hsc f1 f2 f3
  rw [show wasC (T : Int) (le : Int) sc me sp (.slice ow wn cw) = #[.int .i64 (T : Int), .int .i64 (le : Int), .float .f64 sc, .float .f64 me, .float .f64 sp, .slice ow wn cw] from rfl]
  go_upto_region 4 with fail
  have hn2 : WasteIn (w1.alloc (.cells #[.int .i64 (T : Int), .int .i64 (le : Int), .float .f64 sc, .float .f64 me, .float .f64 sp, .slice ow wn cw] 27)) w1.heap.size T le sc me sp (.slice ow wn cw) := World.alloc_heap_new w1 _
  have hb2 := HB1.out.alloc HB1.out.size (.cells #[.int .i64 (T : Int), .int .i64 (le : Int), .float .f64 sc, .float .f64 me, .float .f64 sp, .slice ow wn cw] 27)
  have hbb := (Below.refl w1.heap.size w1).alloc (Nat.le_refl _) (.cells #[.int .i64 (T : Int), .int .i64 (le : Int), .float .f64 sc, .float .f64 me, .float .f64 sp, .slice ow wn cw] 27)
  obtain ⟨w2, hw2⟩ : ∃ y, y = w1.alloc (.cells #[.int .i64 (T : Int), .int .i64 (le : Int), .float .f64 sc, .float .f64 me, .float .f64 sp, .slice ow wn cw] 27) := ⟨_, rfl⟩
  rw [← hw2] at hn2 hb2 hbb ⊢
  obtain ⟨b, hb⟩ : ∃ y, y = w1.heap.size := ⟨_, rfl⟩
  rw [← hb] at hn2 ⊢
  have Hit2 := Lib.hid (Hit.out.below hbb (Nat.le_refl _))
  have HN2 := Lib.hid hn2
  have HB2 := Lib.hid hb2
  clear hw2 hb hn2 hb2 hbb hsf
  have fin : ∀ W, Below w2.heap.size w2 W → Below w.heap.size w W := fun W hW => HB2.out.trans (hW.mono HB2.out.size)
  have Hfin := Lib.hid fin
  clear fin
  go_wp2_with fail
  go_loopw [4, 5] (fun sv iv wr => ∃ i s : Nat, sv = .int .i64 (s : Int) ∧ iv = .int .i64 (i : Int) ∧ i ≤ wn ∧ s ≤ T ∧ Hid (s = sumB (flatC LL) i) ∧ Hid (Below w2.heap.size w2 wr)) (fun _ iv _ => wn - (intOf iv).toNat)
  case atStart => exact ⟨0, 0, rfl, rfl, Nat.zero_le _, Nat.zero_le _, Lib.hid rfl, Lib.hid (Below.refl _ _)⟩
  case round =>
    obtain ⟨i, s, rfl, rfl, hin, hsT, Hs, HBr⟩ := hrel
    obtain ⟨p0, p1, p2, _, _, p5⟩ := (HN2.out.below HBr.out (Nat.le_refl _)).cells
    by_cases hlt : i < wn
    · obtain ⟨x, hx⟩ : ∃ x, (worstR (flatC LL))[i]? = some x := ⟨_, List.getElem?_eq_getElem (by rw [← Hwn.out]; exact hlt)⟩
      have hxb : ((worstR (flatC LL)).map LostN.by)[i]? = some x.by := by rw [List.getElem?_map, hx]; rfl
      have hit := Hit2.out.below HBr.out (Nat.le_refl _)
      have hitl : ((worstR (flatC LL)).map LostN.by).length = wn := by rw [List.length_map, Hwn.out]
      rw [← hitl] at hit
      obtain ⟨a, rfl, hab, hac⟩ := hit.get hxb
      obtain ⟨x1, x2⟩ := worst_pos (List.mem_of_getElem? hx)
      have hst := sumB_step hx
      have hsl := sumB_le (flatC LL) (i + 1)
      rw [← HT.out, hst, ← Hs.out] at hsl
      rw [← Hs.out] at hst
      have Hst := Lib.hid hst
      have Hcs := Lib.hid hac
      have HIr := Lib.hid hit
      have Hx := Lib.hid hx
      clear hst hac hit hxb hx
      obtain ⟨xp, hxp⟩ : ∃ y, y = x.by.p := ⟨_, rfl⟩
      obtain ⟨xt, hxt⟩ : ∃ y, y = x.t := ⟨_, rfl⟩
      obtain ⟨xv, hxv⟩ : ∃ y, y = x.b := ⟨_, rfl⟩
      have hcs : ∀ j v, ([Value.string xp, .int .i64 (xt : Int), .int .i64 (xv : Int)] : List Value)[j]? = some v → wr.cell? ((a.add (i * 3)).add j) = some v := by rw [hxp, hxt, hxv]; exact Hcs.out
      have Hcs2 := Lib.hid hcs
      rw [← hxt] at x2
      rw [← hxv] at x1 Hst hsl
      have Hxp := Lib.hid hxp
      have Hxv := Lib.hid hxv
      clear hcs Hcs hxp hxt hxv
      go_upto_region 9 with (first
        | (refine wpList_load_items rfl _ _ rfl (a.add (i * 3)) rfl [.string xp, .int .i64 (xt : Int), .int .i64 (xv : Int)] _ Hcs2.out Try.underlying36 rfl (by kernel_rfl) ?_))
      have n3 := World.alloc_heap_new wr (.cells #[.string xp, .int .i64 (xt : Int), .int .i64 (xv : Int)] 36)
      have b3 := (Below.refl wr.heap.size wr).alloc (Nat.le_refl _) (.cells #[.string xp, .int .i64 (xt : Int), .int .i64 (xv : Int)] 36)
      obtain ⟨w3, hw3⟩ : ∃ y, y = wr.alloc (.cells #[.string xp, .int .i64 (xt : Int), .int .i64 (xv : Int)] 36) := ⟨_, rfl⟩
      rw [← hw3] at n3 b3 ⊢
      obtain ⟨g, hg⟩ : ∃ y, y = wr.heap.size := ⟨_, rfl⟩
      rw [← hg] at n3 ⊢
      have q0 := block_cell (j := 0) n3 rfl
      have q1 := block_cell (j := 1) n3 rfl
      have q2 := block_cell (j := 2) n3 rfl
      obtain ⟨p0, p1, p2, _, _, p5⟩ := ((HN2.out.below HBr.out (Nat.le_refl _)).below b3 (Nat.le_refl _)).cells
      have HB3 := Lib.hid (HBr.out.trans (b3.mono HBr.out.size))
      have hi3 := HIr.out.below b3 (Nat.le_refl _)
      clear hw3 hg
      by_cases h0 : i = 0
      · obtain rfl : i = 0 := h0
        have hx1 : ¬ (xv : Int) < 1 := by omega
        have hx2 : ¬ (xt : Int) < 1 := by omega
        clear hi3 n3 b3
        go_wp2_with fail
        refine gregion_tail 34 (by kernel_rfl) (by kernel_rfl) ?_
        intro wz hz
        have Bz := Lib.hid (show Below w2.heap.size w2 wz by rw [hz]; exact below_drew HB3.out)
        clear hz
        simp only [List.take_succ_cons, List.take_zero, List.drop_succ_cons, List.drop_zero]
        iterate 34 still_step
        refine wpStill_nil ?_
        go_wp2_with fail
        go_roundw
        case rel => exact ⟨1, s + xv, by go_num, by go_num, by omega, hsl, Lib.hid Hst.out.symm, Bz⟩
        case measure => simp [intOf]; omega
      · obtain ⟨j, hj⟩ : ∃ j, i = j + 1 := ⟨i - 1, by omega⟩
        have hji : (i : Int) - 1 = (j : Int) := by omega
        have h0i : 0 < i := by omega
        have hjw : j < wn := by omega
        have hwj : IntKind.i64.wrap (j : Int) = (j : Int) := by rw [IntKind.wrap_i64]; omega
        obtain ⟨y, hy⟩ : ∃ y, (worstR (flatC LL))[j]? = some y := ⟨_, List.getElem?_eq_getElem (by rw [← Hwn.out]; exact hjw)⟩
        have hyb : ((worstR (flatC LL)).map LostN.by)[j]? = some y.by := by rw [List.getElem?_map, hy]; rfl
        obtain ⟨a', ha', _, hac'⟩ := hi3.get hyb
        injection ha' with ha'
        subst ha'
        have hx' := Hx.out
        rw [hj] at hx'
        obtain ⟨k1, k2⟩ := worst_two hy hx'
        obtain ⟨yp, hyp⟩ : ∃ z, z = y.by.p := ⟨_, rfl⟩
        obtain ⟨yt, hyt⟩ : ∃ z, z = y.t := ⟨_, rfl⟩
        obtain ⟨yv, hyv⟩ : ∃ z, z = y.b := ⟨_, rfl⟩
        have hcs : ∀ l v, ([Value.string yp, .int .i64 (yt : Int), .int .i64 (yv : Int)] : List Value)[l]? = some v → w3.cell? ((a.add (j * 3)).add l) = some v := by rw [hyp, hyt, hyv]; exact hac'
        have hcmp : yv = xv → ∃ cv : Int, cv < 0 ∧ ∀ W, Calls Try.prog 15 #[.string yp, .string xp] W fun e w' => e = .returned (.int .i64 cv) ∧ Below W.heap.size W w' := fun e => by
          have hpx := worst_path (B := 1048576) HP.out (List.mem_of_getElem? Hx.out)
          have hpy := worst_path (B := 1048576) HP.out (List.mem_of_getElem? hy)
          refine ⟨compareP y.p x.p, k2 (by rw [← hyv, e]; exact Hxv.out), fun W => ?_⟩
          have e1 : yp.data.toList = y.p := by rw [hyp]; rfl
          have e2 : xp.data.toList = x.p := by rw [Hxp.out]; rfl
          have s1 : yp.size < 4611686018427387904 := by rw [hyp]; exact Nat.lt_of_le_of_lt (by simpa [LostN.by, bs, ByteArray.size] using hpy) (by decide)
          have s2 : xp.size < 4611686018427387904 := by rw [Hxp.out]; exact Nat.lt_of_le_of_lt (by simpa [LostN.by, bs, ByteArray.size] using hpx) (by decide)
          rw [← e1, ← e2]
          exact (compare_any yp xp W s1 s2).mono fun e w' ⟨h1, h2⟩ => ⟨h1, h2.below _⟩
        rw [← hyv] at k1
        have hxv1 := Hxv.out
        rw [← hxv1] at k1
        have Hcsy := Lib.hid hcs
        have Hcmp := Lib.hid hcmp
        have Hj := Lib.hid hj
        have hx1 : ¬ (xv : Int) < 1 := by omega
        have hx2 : ¬ (xt : Int) < 1 := by omega
        have Hn3 := Lib.hid n3
        have HN3 := Lib.hid ((HN2.out.below HBr.out (Nat.le_refl _)).below b3 (Nat.le_refl _))
        clear hi3 hy hyb hac' hx' k2 hyp hyt hyv hcs hcmp hxv1 hj
        go_wp2_with fail
        refine gregion_tail 34 (by kernel_rfl) (by kernel_rfl) ?_
        intro wz hz
        have Bz := Lib.hid (show Below w2.heap.size w2 wz by rw [hz]; exact below_drew HB3.out)
        have hkz : ∀ l v, ([Value.string yp, .int .i64 (yt : Int), .int .i64 (yv : Int)] : List Value)[l]? = some v → wz.cell? ((a.add (j * 3)).add l) = some v := by rw [hz]; exact Hcsy.out
        have hn3z : wz.heap[g]? = some (.cells #[.string xp, .int .i64 (xt : Int), .int .i64 (xv : Int)] 36 (0, 0)) := by rw [hz]; exact Hn3.out
        have hnz : WasteIn wz b T le sc me sp (.slice (some a) wn cw) := by rw [hz]; exact HN3.out
        obtain ⟨_, _, _, _, _, z5⟩ := hnz.cells
        have y0 := block_cell (j := 0) hn3z rfl
        have y2 := block_cell (j := 2) hn3z rfl
        obtain ⟨y3, _, y4⟩ := lost_cells (x := ⟨yp, yt, yv⟩) hkz
        clear hz hkz hn3z hnz
        simp only [List.take_succ_cons, List.take_zero, List.drop_succ_cons, List.drop_zero]
        have hlti : ¬ (yv : Int) < (xv : Int) := by omega
        by_cases heq : yv = xv
        · obtain ⟨cv, hc0, hcc⟩ := Hcmp.out heq
          have heqi : ((yv : Int) == (xv : Int)) = true := by rw [heq]; simp
          have hc0i : ¬ (0 : Int) ≤ cv := by omega
          have Hcc := Lib.hid hcc
          clear hcc heq hc0
          iterate 34 still_step
          refine wpStill_nil ?_
          go_wp2_with (first
            | (go_at_call 15; refine (Hcc.out _).mono ?_; rintro e w5 ⟨rfl, hb5⟩; have HB5 := Lib.hid (Bz.out.trans (hb5.mono Bz.out.size)); clear hb5))
          go_roundw
          case rel => exact ⟨i + 1, s + xv, by go_num, by go_num, by omega, hsl, Lib.hid Hst.out.symm, HB5⟩
          case measure => simp [intOf]; omega
        · have heqi : ((yv : Int) == (xv : Int)) = false := by simp; omega
          clear heq
          iterate 34 still_step
          refine wpStill_nil ?_
          go_wp2_with fail
          go_roundw
          case rel => exact ⟨i + 1, s + xv, by go_num, by go_num, by omega, hsl, Lib.hid Hst.out.symm, Bz⟩
          case measure => simp [intOf]; omega
    · obtain rfl : i = wn := by omega
      have hsw : s = sumB (flatC LL) i := Hs.out
      have hsum : (s : Int) = (T : Int) - (le : Int) := by
        have h1 := Hws.out
        have h2 : sumB (flatC LL) i = ((worstR (flatC LL)).map (·.b)).sum := by
          unfold sumB
          rw [Hwn.out, List.take_length]
        omega
      have hle1 : ¬ (le : Int) < 0 := by omega
      have hle2 : ¬ (T : Int) < (le : Int) := by omega
      have f1 : (FloatKind.f64.format.order sc 0 == some .gt || FloatKind.f64.format.order sc 0 == some .eq) = true := F1.out
      have f2 : (FloatKind.f64.format.order sc 4607182418800017408 == some .lt || FloatKind.f64.format.order sc 4607182418800017408 == some .eq) = true := F2.out
      clear hsw
      have hT0 : T = 0 ∨ T ≠ 0 := by omega
      rcases hT0 with hT0 | hT0
      · have hle0 : le = 0 := by omega
        have f4 : FloatKind.f64.format.order sc 4607182418800017408 = some .eq := by
          have h1 := F3.out
          have h2 := HV.out.sc0 hT0
          rw [h2] at h1 ⊢
          exact h1
        go_upto_region 16 with fail
        clear f4 hT0 hle0
        have HN3 := Lib.hid (HN2.out.below HBr.out (Nat.le_refl _))
        have Hit3 := Lib.hid (Hit2.out.below HBr.out (Nat.le_refl _))
        have B3 := Lib.hid (HB2.out.trans (HBr.out.mono HB2.out.size))
        have Hds := Lib.hid (Hd.out.below B3.out (Nat.le_refl _))
        clear f1 f2 hle1 hle2 hsum p0 p1 p2 p5
        obtain ⟨w3, hw3⟩ : ∃ x, x = wr := ⟨_, rfl⟩
        subst hw3
        go_wp2_with fail
        go_loopw [7, 8, 9] (fun ov ev iv wr => ∃ (q : Nat) (vs : List Value) (o1 e1 : Value), o1 = ov ∧ e1 = ev ∧ iv = .int .i64 (q : Int) ∧ q ≤ n ∧ Hid (EachJ w3 wr w3.heap.size o1 e1 ((LL.take q).flatten) vs)) (fun _ _ iv _ => n - (intOf iv).toNat)
        case atStart => exact ⟨0, [], _, _, rfl, rfl, rfl, Nat.zero_le _, Lib.hid (EachJ.start w3)⟩
        case round =>
          obtain ⟨q, vs, o1, e1, rfl, rfl, rfl, hqn, HJ⟩ := hrel
          by_cases hq : q < n
          · obtain ⟨L, hL⟩ : ∃ L, LL[q]? = some L := ⟨_, List.getElem?_eq_getElem (by rw [← Hnn.out]; exact hq)⟩
            obtain ⟨a3, o2, c2, rfl, hab, hac0, hlc2, hcm2, hIt⟩ := Hds.out.get hL
            obtain ⟨m, hmm2⟩ : ∃ m, m = L.length := ⟨_, rfl⟩
            have hm1 : m ≤ 1048576 := by
              obtain ⟨R, hR⟩ := flatC_split hL
              have := Hm.out
              rw [hR] at this
              simp at this
              omega
            rw [← hmm2] at hac0 hlc2
            have up : ∀ W, Below w3.heap.size w3 W → W.cell? (a3.add q) = some (.slice o2 m c2) := fun W hW => (hW.cell (p := a3.add q) (by rw [gadd_block]; exact hab)).trans hac0
            have hac := up _ HJ.out.bel
            have Hup := Lib.hid up
            have HIt := Lib.hid hIt
            have Hmm := Lib.hid hmm2
            have HL := Lib.hid hL
            clear hIt hmm2 hL hac0 up
            go_wp2_with fail
            go_loopw [7, 8, 10] (fun ov ev kv wr => ∃ (k : Nat) (vs : List Value), kv = .int .i64 (k : Int) ∧ k ≤ m ∧ Hid (EachJ w3 wr w3.heap.size ov ev ((LL.take q).flatten ++ L.take k) vs)) (fun _ _ kv _ => m - (intOf kv).toNat)
            case atStart => exact ⟨0, vs, rfl, Nat.zero_le _, Lib.hid (by simpa using HJ.out)⟩
            case round =>
              obtain ⟨k, vs2, rfl, hk, HK⟩ := hrel
              by_cases hkm : k < m
              · obtain ⟨c, hc⟩ : ∃ c, L[k]? = some c := ⟨_, List.getElem?_eq_getElem (by rw [← Hmm.out]; exact hkm)⟩
                obtain ⟨a4, rfl, ha4, hcs⟩ := HIt.out.get hc
                have hDl := flat_bound HL.out hc
                have hDm := Hm.out
                have hstp : (LL.take q).flatten ++ L.take k ++ [c] = (LL.take q).flatten ++ L.take (k + 1) := by rw [List.append_assoc, gtake hc]
                obtain ⟨D, hD⟩ : ∃ D, D = (LL.take q).flatten ++ L.take k := ⟨_, rfl⟩
                rw [← hD] at HK hDl hstp
                have hupc : ∀ W, Below w3.heap.size w3 W → ∀ j x, ([.string c.p, .bool c.g, .string c.ep, .int .i64 c.k, .int .i64 c.m, .string c.d, .string c.l] : List Value)[j]? = some x → W.cell? ((a4.add (k * 7)).add j) = some x := fun W hW j x hj =>
                  (hW.cell (p := (a4.add (k * 7)).add j) (by rw [gadd_block, gadd_block]; exact ha4)).trans (hcs j x hj)
                have Hupc := Lib.hid hupc
                have hac := Hup.out _ HK.out.bel
                have hBy := HK.out.bel.size
                have Hcy := Lib.hid (hupc _ HK.out.bel)
                have Hstp := Lib.hid hstp
                clear hcs hc hD hupc hstp
                go_wp2_with (first
                  | (refine wpList_load_items rfl _ _ rfl (a4.add (k * 7)) rfl [.string c.p, .bool c.g, .string c.ep, .int .i64 c.k, .int .i64 c.m, .string c.d, .string c.l] _ Hcy.out Try.underlying43 rfl (by kernel_rfl) ?_)
                  | (at_builtin; refine wpList_append_own_at _ rfl _ _ 38 rfl w3.heap.size 43 iC _ 7 88 Try.underlying38 HiC.out HC0.out HC1.out HC2.out rfl (by decide) _ _ _ rfl (HK.out.rone.alloc _) ⟨wr.heap.size, 0, none⟩ 1 1 [.string c.p, .bool c.g, .string c.ep, .int .i64 c.k, .int .i64 c.m, .string c.d, .string c.l] rfl rfl (item_cells (World.alloc_heap_new _ _)) (by simp [Value.oneCell']) (by unfold maxLen; omega) (by omega) (by simp; omega) ?_
                     intro v1 w1' hown1 hgrow1 _ hat1
                     have hb1 : Below w3.heap.size w3 w1' := (HK.out.bel.alloc hBy _).grown hgrow1 (by simp; omega) (fun i e => (World.ownsRow.lt HK.out.rone i e).1)
                     have hac1 := Hup.out _ hb1
                     have Hcy1 := Lib.hid (Hupc.out _ hb1)
                     have hBy1 := hb1.size
                     have Hown1 := Lib.hid hown1
                     have Hgrow1 := Lib.hid hgrow1
                     have Hat1 := Lib.hid hat1
                     have HE1 := Lib.hid ((HK.out.reach.alloc _).kept hgrow1 (rows_apart HK.out.reach HK.out.rone (by decide)))
                     clear hown1 hgrow1 hat1 hb1)
                  | (refine wpList_load_items rfl _ _ rfl (a4.add (k * 7)) rfl [.string c.p, .bool c.g, .string c.ep, .int .i64 c.k, .int .i64 c.m, .string c.d, .string c.l] _ Hcy1.out Try.underlying43 rfl (by kernel_rfl) ?_)
                  | (at_builtin; refine wpList_append_own_at _ rfl _ _ 22 rfl w3.heap.size 38 iR _ 1 24 Try.underlying22 HiR.out HR0.out HR1.out HR2.out rfl (by decide) _ _ _ rfl ((HE1.out.alloc _).alloc _) ⟨w1'.heap.size + 1, 0, none⟩ 2 2 [.slice (some ⟨w1'.heap.size, 0, none⟩) 1 1, .slice none 0 0] rfl rfl (item_cells (by have := World.alloc_heap_new (w1'.alloc (.cells #[.string c.p, .bool c.g, .string c.ep, .int .i64 c.k, .int .i64 c.m, .string c.d, .string c.l] 43)) (.cells #[.slice (some ⟨w1'.heap.size, 0, none⟩) 1 1, .slice none 0 0] 38); simpa using this)) (by simp [Value.oneCell']) (by unfold maxLen; omega) (by omega) (by simp; omega) ?_
                     intro v2 w2' hown2 hgrow2 _ _
                     have HNew := Lib.hid (EachJ.step HK.out hBy Hown1.out Hgrow1.out Hat1.out hown2 hgrow2)
                     clear hown2 hgrow2))
                go_roundw
                case rel => exact ⟨k + 1, _, by go_num, by omega, by rw [← Hstp.out]; exact HNew⟩
                case measure => simp [intOf]; omega
              · obtain rfl : k = m := by omega
                have hLk : L.take k = L := by rw [Hmm.out, List.take_length]
                have hac := Hup.out _ HK.out.bel
                rw [hLk, ← flat_step HL.out] at HK
                clear hLk
                go_wp2_with fail
                go_roundw
                case rel => exact ⟨q + 1, vs2, _, _, rfl, rfl, by go_num, by omega, HK⟩
                case measure => simp [intOf]; omega
          · obtain rfl : q = n := by omega
            have hall : LL.take q = LL := by rw [Hnn.out, List.take_length]
            rw [hall] at HJ
            clear hall
            obtain ⟨oo, oc, rfl⟩ := row_formG HJ.out.rone
            obtain ⟨fn, hfn⟩ : ∃ y, y = LL.flatten.length := ⟨_, rfl⟩
            rw [← hfn] at HJ ⊢
            clear hfn
            have hnew := World.alloc_heap_new wr (.cells #[.slice oo fn oc] 38)
            have hone := HJ.out.one hnew
            have hpf : ∀ c ∈ LL.flatten, c.p.size ≤ 1048576 := fun c hc => by
              obtain ⟨L, hL, h2⟩ := List.mem_flatten.1 hc
              exact Hp.out L hL c h2
            have hk1 := look_same hone (flatC_one LL) HT.out Hle.out Hwn.out (by simp) Hm.out Ht.out (fun L hL c hc => by rw [List.mem_singleton.1 hL] at hc; exact hpf c hc) HV.out
            have hk2 : ∀ W, DeltasAt W e1 (LL.flatten.flatMap fun c => [[c], []]) → _ := fun W hW => look_same hW (flatC_each LL) HT.out Hle.out Hwn.out (by
              have h1 := crowd_flat LL
              have h2 := Hcr.out
              rw [each_len]
              omega) Hm.out Ht.out (fun L hL c hc => by
                obtain ⟨z, hz, h2⟩ := List.mem_flatMap.1 hL
                rcases List.mem_cons.1 h2 with h2 | h2
                · rw [h2] at hc; rw [List.mem_singleton.1 hc]; exact hpf z hz
                · rw [List.mem_singleton.1 h2] at hc; cases hc) HV.out
            have hB6 := HJ.out.bel.alloc HJ.out.bel.size (.cells #[.slice oo fn oc] 38)
            have hE6 := HJ.out.lists.below ((Below.refl wr.heap.size wr).alloc (Nat.le_refl _) (.cells #[.slice oo fn oc] 38)) (Nat.le_refl _)
            have Hk1 := Lib.hid hk1
            have Hk2 := Lib.hid hk2
            have HB6 := Lib.hid hB6
            have HE6 := Lib.hid hE6
            clear hnew hone hpf hk1 hk2 hB6 hE6
            go_wp2_with fail
            refine Hk1.out.mono ?_
            rintro r w5 ⟨oa, ca, ma, sa, rfl, hia, hb5⟩
            have B5 := Lib.hid (HB6.out.trans (hb5.mono HB6.out.size))
            have HE7 := Lib.hid (HE6.out.below hb5 (Nat.le_refl _))
            have Hia := Lib.hid hia
            have hsf := fun (x : Addr) (b : Nat) (m : Mode) (W : World) => run_store Try.prog W x (.float .f64 b) m rfl
            clear hb5 hia
            go_upto_region 27 with fail
            have n7 : WasteIn (w5.alloc (.cells #[.int .i64 (T : Int), .int .i64 (le : Int), .float .f64 sc, .float .f64 ma, .float .f64 sa, .slice oa i ca] 27)) w5.heap.size T le sc ma sa (.slice oa i ca) := World.alloc_heap_new w5 _
            have b7 := (Below.refl w5.heap.size w5).alloc (Nat.le_refl _) (.cells #[.int .i64 (T : Int), .int .i64 (le : Int), .float .f64 sc, .float .f64 ma, .float .f64 sa, .slice oa i ca] 27)
            obtain ⟨w6, hw6⟩ : ∃ y, y = w5.alloc (.cells #[.int .i64 (T : Int), .int .i64 (le : Int), .float .f64 sc, .float .f64 ma, .float .f64 sa, .slice oa i ca] 27) := ⟨_, rfl⟩
            rw [← hw6] at n7 b7 ⊢
            have HE8 := Lib.hid (HE7.out.below b7 (Nat.le_refl _))
            have Hia6 := Lib.hid (Hia.out.below b7 (Nat.le_refl _))
            have B6 := Lib.hid (B5.out.trans (b7.mono B5.out.size))
            obtain ⟨g6, hg6⟩ : ∃ y, y = w5.heap.size := ⟨_, rfl⟩
            rw [← hg6] at n7 ⊢
            have N7 := Lib.hid n7
            clear hw6 hg6 n7 b7 HE7 Hia B5
            go_wp2_with fail
            refine (Hk2.out _ HE8.out).mono ?_
            rintro r w7 ⟨ob, cb, mb, sb, rfl, hib, hb7⟩
            have B7 := Lib.hid (B6.out.trans (hb7.mono B6.out.size))
            have Hia7 := Lib.hid (Hia6.out.below hb7 (Nat.le_refl _))
            have N77 := Lib.hid (N7.out.below hb7 (Nat.le_refl _))
            have Hib := Lib.hid hib
            clear hb7 hib HE8 Hia6 N7 B6
            go_upto_region 28 with fail
            have n9 : WasteIn (w7.alloc (.cells #[.int .i64 (T : Int), .int .i64 (le : Int), .float .f64 sc, .float .f64 mb, .float .f64 sb, .slice ob i cb] 27)) w7.heap.size T le sc mb sb (.slice ob i cb) := World.alloc_heap_new w7 _
            have b9 := (Below.refl w7.heap.size w7).alloc (Nat.le_refl _) (.cells #[.int .i64 (T : Int), .int .i64 (le : Int), .float .f64 sc, .float .f64 mb, .float .f64 sb, .slice ob i cb] 27)
            obtain ⟨w8, hw8⟩ : ∃ y, y = w7.alloc (.cells #[.int .i64 (T : Int), .int .i64 (le : Int), .float .f64 sc, .float .f64 mb, .float .f64 sb, .slice ob i cb] 27) := ⟨_, rfl⟩
            rw [← hw8] at n9 b9 ⊢
            have hia8 := Hia7.out.below b9 (Nat.le_refl _)
            have hib8 := Hib.out.below b9 (Nat.le_refl _)
            have na8 := N77.out.below b9 (Nat.le_refl _)
            have hB8 := B7.out.trans (b9.mono B7.out.size)
            have hiw8 := Hit3.out.below hB8 (Nat.le_refl _)
            have nw8 := HN3.out.below hB8 (Nat.le_refl _)
            obtain ⟨g8, hg8⟩ : ∃ y, y = w7.heap.size := ⟨_, rfl⟩
            rw [← hg8] at n9 ⊢
            have hRl : ((worstR (flatC LL)).map LostN.by).length = i := by rw [List.length_map, Hwn.out]
            have hRs : ((worstR (flatC LL)).map LostN.by).length ≤ 1048576 := by rw [hRl]; omega
            have hal1 := alike_any (T : Int) (le : Int) sc ma sa me sp oa ow ca cw ((worstR (flatC LL)).map LostN.by) w8 F3.out (by rw [hRl]; exact hia8) (by rw [hRl]; exact hiw8) hRs
            have hal2 : ∀ W, Below w8.heap.size w8 W → _ := fun W hW => alike_any (T : Int) (le : Int) sc mb sb me sp ob ow cb cw ((worstR (flatC LL)).map LostN.by) W F3.out (by rw [hRl]; exact hib8.below hW (Nat.le_refl _)) (by rw [hRl]; exact hiw8.below hW (Nat.le_refl _)) hRs
            rw [hRl] at hal1 hal2
            have HAl1 := Lib.hid hal1
            have HAl2 := Lib.hid hal2
            have HB8 := Lib.hid hB8
            have NW8 := Lib.hid nw8
            have N9 := Lib.hid n9
            obtain ⟨r0, r1, r2, r3, r4, r5⟩ := na8.cells
            obtain ⟨s0, s1, s2, s3, s4, s5⟩ := nw8.cells
            clear hw8 hg8 hia8 hib8 hiw8 hal1 hal2 hB8 nw8 na8 n9 b9 hRl hRs hsf
            go_wp2_with fail
            refine HAl1.out.mono ?_
            rintro e w9 ⟨rfl, hb9⟩
            have B9 := Lib.hid hb9
            obtain ⟨t0, t1, t2, t3, t4, t5⟩ := (N9.out.below hb9 (Nat.le_refl _)).cells
            obtain ⟨v0, v1, v2, v3, v4, v5⟩ := (NW8.out.below hb9 (Nat.le_refl _)).cells
            clear hb9 r0 r1 r2 r3 r4 r5 s0 s1 s2 s3 s4 s5 HAl1
            go_wp2_with (first
              | (go_at_call 16; refine (HAl2.out _ B9.out).mono ?_; rintro e w10 ⟨rfl, hb10⟩
                 have B10 := Lib.hid (B9.out.trans (hb10.mono B9.out.size))
                 clear hb10)
              | (go_at_call 14; refine (HW.out _).mono ?_; rintro e w11 ⟨rfl, hb11⟩
                 have B11 := Lib.hid (B10.out.trans (hb11.mono B10.out.size))
                 clear hb11))
            go_ret
            exact ⟨rfl, B3.out.trans ((HB8.out.trans (B11.out.mono HB8.out.size)).mono B3.out.size)⟩
      · go_upto_region 16 with fail
        clear hT0
        have HN3 := Lib.hid (HN2.out.below HBr.out (Nat.le_refl _))
        have Hit3 := Lib.hid (Hit2.out.below HBr.out (Nat.le_refl _))
        have B3 := Lib.hid (HB2.out.trans (HBr.out.mono HB2.out.size))
        have Hds := Lib.hid (Hd.out.below B3.out (Nat.le_refl _))
        clear f1 f2 hle1 hle2 hsum p0 p1 p2 p5
        obtain ⟨w3, hw3⟩ : ∃ x, x = wr := ⟨_, rfl⟩
        subst hw3
        go_wp2_with fail
        go_loopw [7, 8, 9] (fun ov ev iv wr => ∃ (q : Nat) (vs : List Value) (o1 e1 : Value), o1 = ov ∧ e1 = ev ∧ iv = .int .i64 (q : Int) ∧ q ≤ n ∧ Hid (EachJ w3 wr w3.heap.size o1 e1 ((LL.take q).flatten) vs)) (fun _ _ iv _ => n - (intOf iv).toNat)
        case atStart => exact ⟨0, [], _, _, rfl, rfl, rfl, Nat.zero_le _, Lib.hid (EachJ.start w3)⟩
        case round =>
          obtain ⟨q, vs, o1, e1, rfl, rfl, rfl, hqn, HJ⟩ := hrel
          by_cases hq : q < n
          · obtain ⟨L, hL⟩ : ∃ L, LL[q]? = some L := ⟨_, List.getElem?_eq_getElem (by rw [← Hnn.out]; exact hq)⟩
            obtain ⟨a3, o2, c2, rfl, hab, hac0, hlc2, hcm2, hIt⟩ := Hds.out.get hL
            obtain ⟨m, hmm2⟩ : ∃ m, m = L.length := ⟨_, rfl⟩
            have hm1 : m ≤ 1048576 := by
              obtain ⟨R, hR⟩ := flatC_split hL
              have := Hm.out
              rw [hR] at this
              simp at this
              omega
            rw [← hmm2] at hac0 hlc2
            have up : ∀ W, Below w3.heap.size w3 W → W.cell? (a3.add q) = some (.slice o2 m c2) := fun W hW => (hW.cell (p := a3.add q) (by rw [gadd_block]; exact hab)).trans hac0
            have hac := up _ HJ.out.bel
            have Hup := Lib.hid up
            have HIt := Lib.hid hIt
            have Hmm := Lib.hid hmm2
            have HL := Lib.hid hL
            clear hIt hmm2 hL hac0 up
            go_wp2_with fail
            go_loopw [7, 8, 10] (fun ov ev kv wr => ∃ (k : Nat) (vs : List Value), kv = .int .i64 (k : Int) ∧ k ≤ m ∧ Hid (EachJ w3 wr w3.heap.size ov ev ((LL.take q).flatten ++ L.take k) vs)) (fun _ _ kv _ => m - (intOf kv).toNat)
            case atStart => exact ⟨0, vs, rfl, Nat.zero_le _, Lib.hid (by simpa using HJ.out)⟩
            case round =>
              obtain ⟨k, vs2, rfl, hk, HK⟩ := hrel
              by_cases hkm : k < m
              · obtain ⟨c, hc⟩ : ∃ c, L[k]? = some c := ⟨_, List.getElem?_eq_getElem (by rw [← Hmm.out]; exact hkm)⟩
                obtain ⟨a4, rfl, ha4, hcs⟩ := HIt.out.get hc
                have hDl := flat_bound HL.out hc
                have hDm := Hm.out
                have hstp : (LL.take q).flatten ++ L.take k ++ [c] = (LL.take q).flatten ++ L.take (k + 1) := by rw [List.append_assoc, gtake hc]
                obtain ⟨D, hD⟩ : ∃ D, D = (LL.take q).flatten ++ L.take k := ⟨_, rfl⟩
                rw [← hD] at HK hDl hstp
                have hupc : ∀ W, Below w3.heap.size w3 W → ∀ j x, ([.string c.p, .bool c.g, .string c.ep, .int .i64 c.k, .int .i64 c.m, .string c.d, .string c.l] : List Value)[j]? = some x → W.cell? ((a4.add (k * 7)).add j) = some x := fun W hW j x hj =>
                  (hW.cell (p := (a4.add (k * 7)).add j) (by rw [gadd_block, gadd_block]; exact ha4)).trans (hcs j x hj)
                have Hupc := Lib.hid hupc
                have hac := Hup.out _ HK.out.bel
                have hBy := HK.out.bel.size
                have Hcy := Lib.hid (hupc _ HK.out.bel)
                have Hstp := Lib.hid hstp
                clear hcs hc hD hupc hstp
                go_wp2_with (first
                  | (refine wpList_load_items rfl _ _ rfl (a4.add (k * 7)) rfl [.string c.p, .bool c.g, .string c.ep, .int .i64 c.k, .int .i64 c.m, .string c.d, .string c.l] _ Hcy.out Try.underlying43 rfl (by kernel_rfl) ?_)
                  | (at_builtin; refine wpList_append_own_at _ rfl _ _ 38 rfl w3.heap.size 43 iC _ 7 88 Try.underlying38 HiC.out HC0.out HC1.out HC2.out rfl (by decide) _ _ _ rfl (HK.out.rone.alloc _) ⟨wr.heap.size, 0, none⟩ 1 1 [.string c.p, .bool c.g, .string c.ep, .int .i64 c.k, .int .i64 c.m, .string c.d, .string c.l] rfl rfl (item_cells (World.alloc_heap_new _ _)) (by simp [Value.oneCell']) (by unfold maxLen; omega) (by omega) (by simp; omega) ?_
                     intro v1 w1' hown1 hgrow1 _ hat1
                     have hb1 : Below w3.heap.size w3 w1' := (HK.out.bel.alloc hBy _).grown hgrow1 (by simp; omega) (fun i e => (World.ownsRow.lt HK.out.rone i e).1)
                     have hac1 := Hup.out _ hb1
                     have Hcy1 := Lib.hid (Hupc.out _ hb1)
                     have hBy1 := hb1.size
                     have Hown1 := Lib.hid hown1
                     have Hgrow1 := Lib.hid hgrow1
                     have Hat1 := Lib.hid hat1
                     have HE1 := Lib.hid ((HK.out.reach.alloc _).kept hgrow1 (rows_apart HK.out.reach HK.out.rone (by decide)))
                     clear hown1 hgrow1 hat1 hb1)
                  | (refine wpList_load_items rfl _ _ rfl (a4.add (k * 7)) rfl [.string c.p, .bool c.g, .string c.ep, .int .i64 c.k, .int .i64 c.m, .string c.d, .string c.l] _ Hcy1.out Try.underlying43 rfl (by kernel_rfl) ?_)
                  | (at_builtin; refine wpList_append_own_at _ rfl _ _ 22 rfl w3.heap.size 38 iR _ 1 24 Try.underlying22 HiR.out HR0.out HR1.out HR2.out rfl (by decide) _ _ _ rfl ((HE1.out.alloc _).alloc _) ⟨w1'.heap.size + 1, 0, none⟩ 2 2 [.slice (some ⟨w1'.heap.size, 0, none⟩) 1 1, .slice none 0 0] rfl rfl (item_cells (by have := World.alloc_heap_new (w1'.alloc (.cells #[.string c.p, .bool c.g, .string c.ep, .int .i64 c.k, .int .i64 c.m, .string c.d, .string c.l] 43)) (.cells #[.slice (some ⟨w1'.heap.size, 0, none⟩) 1 1, .slice none 0 0] 38); simpa using this)) (by simp [Value.oneCell']) (by unfold maxLen; omega) (by omega) (by simp; omega) ?_
                     intro v2 w2' hown2 hgrow2 _ _
                     have HNew := Lib.hid (EachJ.step HK.out hBy Hown1.out Hgrow1.out Hat1.out hown2 hgrow2)
                     clear hown2 hgrow2))
                go_roundw
                case rel => exact ⟨k + 1, _, by go_num, by omega, by rw [← Hstp.out]; exact HNew⟩
                case measure => simp [intOf]; omega
              · obtain rfl : k = m := by omega
                have hLk : L.take k = L := by rw [Hmm.out, List.take_length]
                have hac := Hup.out _ HK.out.bel
                rw [hLk, ← flat_step HL.out] at HK
                clear hLk
                go_wp2_with fail
                go_roundw
                case rel => exact ⟨q + 1, vs2, _, _, rfl, rfl, by go_num, by omega, HK⟩
                case measure => simp [intOf]; omega
          · obtain rfl : q = n := by omega
            have hall : LL.take q = LL := by rw [Hnn.out, List.take_length]
            rw [hall] at HJ
            clear hall
            obtain ⟨oo, oc, rfl⟩ := row_formG HJ.out.rone
            obtain ⟨fn, hfn⟩ : ∃ y, y = LL.flatten.length := ⟨_, rfl⟩
            rw [← hfn] at HJ ⊢
            clear hfn
            have hnew := World.alloc_heap_new wr (.cells #[.slice oo fn oc] 38)
            have hone := HJ.out.one hnew
            have hpf : ∀ c ∈ LL.flatten, c.p.size ≤ 1048576 := fun c hc => by
              obtain ⟨L, hL, h2⟩ := List.mem_flatten.1 hc
              exact Hp.out L hL c h2
            have hk1 := look_same hone (flatC_one LL) HT.out Hle.out Hwn.out (by simp) Hm.out Ht.out (fun L hL c hc => by rw [List.mem_singleton.1 hL] at hc; exact hpf c hc) HV.out
            have hk2 : ∀ W, DeltasAt W e1 (LL.flatten.flatMap fun c => [[c], []]) → _ := fun W hW => look_same hW (flatC_each LL) HT.out Hle.out Hwn.out (by
              have h1 := crowd_flat LL
              have h2 := Hcr.out
              rw [each_len]
              omega) Hm.out Ht.out (fun L hL c hc => by
                obtain ⟨z, hz, h2⟩ := List.mem_flatMap.1 hL
                rcases List.mem_cons.1 h2 with h2 | h2
                · rw [h2] at hc; rw [List.mem_singleton.1 hc]; exact hpf z hz
                · rw [List.mem_singleton.1 h2] at hc; cases hc) HV.out
            have hB6 := HJ.out.bel.alloc HJ.out.bel.size (.cells #[.slice oo fn oc] 38)
            have hE6 := HJ.out.lists.below ((Below.refl wr.heap.size wr).alloc (Nat.le_refl _) (.cells #[.slice oo fn oc] 38)) (Nat.le_refl _)
            have Hk1 := Lib.hid hk1
            have Hk2 := Lib.hid hk2
            have HB6 := Lib.hid hB6
            have HE6 := Lib.hid hE6
            clear hnew hone hpf hk1 hk2 hB6 hE6
            go_wp2_with fail
            refine Hk1.out.mono ?_
            rintro r w5 ⟨oa, ca, ma, sa, rfl, hia, hb5⟩
            have B5 := Lib.hid (HB6.out.trans (hb5.mono HB6.out.size))
            have HE7 := Lib.hid (HE6.out.below hb5 (Nat.le_refl _))
            have Hia := Lib.hid hia
            have hsf := fun (x : Addr) (b : Nat) (m : Mode) (W : World) => run_store Try.prog W x (.float .f64 b) m rfl
            clear hb5 hia
            go_upto_region 27 with fail
            have n7 : WasteIn (w5.alloc (.cells #[.int .i64 (T : Int), .int .i64 (le : Int), .float .f64 sc, .float .f64 ma, .float .f64 sa, .slice oa i ca] 27)) w5.heap.size T le sc ma sa (.slice oa i ca) := World.alloc_heap_new w5 _
            have b7 := (Below.refl w5.heap.size w5).alloc (Nat.le_refl _) (.cells #[.int .i64 (T : Int), .int .i64 (le : Int), .float .f64 sc, .float .f64 ma, .float .f64 sa, .slice oa i ca] 27)
            obtain ⟨w6, hw6⟩ : ∃ y, y = w5.alloc (.cells #[.int .i64 (T : Int), .int .i64 (le : Int), .float .f64 sc, .float .f64 ma, .float .f64 sa, .slice oa i ca] 27) := ⟨_, rfl⟩
            rw [← hw6] at n7 b7 ⊢
            have HE8 := Lib.hid (HE7.out.below b7 (Nat.le_refl _))
            have Hia6 := Lib.hid (Hia.out.below b7 (Nat.le_refl _))
            have B6 := Lib.hid (B5.out.trans (b7.mono B5.out.size))
            obtain ⟨g6, hg6⟩ : ∃ y, y = w5.heap.size := ⟨_, rfl⟩
            rw [← hg6] at n7 ⊢
            have N7 := Lib.hid n7
            clear hw6 hg6 n7 b7 HE7 Hia B5
            go_wp2_with fail
            refine (Hk2.out _ HE8.out).mono ?_
            rintro r w7 ⟨ob, cb, mb, sb, rfl, hib, hb7⟩
            have B7 := Lib.hid (B6.out.trans (hb7.mono B6.out.size))
            have Hia7 := Lib.hid (Hia6.out.below hb7 (Nat.le_refl _))
            have N77 := Lib.hid (N7.out.below hb7 (Nat.le_refl _))
            have Hib := Lib.hid hib
            clear hb7 hib HE8 Hia6 N7 B6
            go_upto_region 28 with fail
            have n9 : WasteIn (w7.alloc (.cells #[.int .i64 (T : Int), .int .i64 (le : Int), .float .f64 sc, .float .f64 mb, .float .f64 sb, .slice ob i cb] 27)) w7.heap.size T le sc mb sb (.slice ob i cb) := World.alloc_heap_new w7 _
            have b9 := (Below.refl w7.heap.size w7).alloc (Nat.le_refl _) (.cells #[.int .i64 (T : Int), .int .i64 (le : Int), .float .f64 sc, .float .f64 mb, .float .f64 sb, .slice ob i cb] 27)
            obtain ⟨w8, hw8⟩ : ∃ y, y = w7.alloc (.cells #[.int .i64 (T : Int), .int .i64 (le : Int), .float .f64 sc, .float .f64 mb, .float .f64 sb, .slice ob i cb] 27) := ⟨_, rfl⟩
            rw [← hw8] at n9 b9 ⊢
            have hia8 := Hia7.out.below b9 (Nat.le_refl _)
            have hib8 := Hib.out.below b9 (Nat.le_refl _)
            have na8 := N77.out.below b9 (Nat.le_refl _)
            have hB8 := B7.out.trans (b9.mono B7.out.size)
            have hiw8 := Hit3.out.below hB8 (Nat.le_refl _)
            have nw8 := HN3.out.below hB8 (Nat.le_refl _)
            obtain ⟨g8, hg8⟩ : ∃ y, y = w7.heap.size := ⟨_, rfl⟩
            rw [← hg8] at n9 ⊢
            have hRl : ((worstR (flatC LL)).map LostN.by).length = i := by rw [List.length_map, Hwn.out]
            have hRs : ((worstR (flatC LL)).map LostN.by).length ≤ 1048576 := by rw [hRl]; omega
            have hal1 := alike_any (T : Int) (le : Int) sc ma sa me sp oa ow ca cw ((worstR (flatC LL)).map LostN.by) w8 F3.out (by rw [hRl]; exact hia8) (by rw [hRl]; exact hiw8) hRs
            have hal2 : ∀ W, Below w8.heap.size w8 W → _ := fun W hW => alike_any (T : Int) (le : Int) sc mb sb me sp ob ow cb cw ((worstR (flatC LL)).map LostN.by) W F3.out (by rw [hRl]; exact hib8.below hW (Nat.le_refl _)) (by rw [hRl]; exact hiw8.below hW (Nat.le_refl _)) hRs
            rw [hRl] at hal1 hal2
            have HAl1 := Lib.hid hal1
            have HAl2 := Lib.hid hal2
            have HB8 := Lib.hid hB8
            have NW8 := Lib.hid nw8
            have N9 := Lib.hid n9
            obtain ⟨r0, r1, r2, r3, r4, r5⟩ := na8.cells
            obtain ⟨s0, s1, s2, s3, s4, s5⟩ := nw8.cells
            clear hw8 hg8 hia8 hib8 hiw8 hal1 hal2 hB8 nw8 na8 n9 b9 hRl hRs hsf
            go_wp2_with fail
            refine HAl1.out.mono ?_
            rintro e w9 ⟨rfl, hb9⟩
            have B9 := Lib.hid hb9
            obtain ⟨t0, t1, t2, t3, t4, t5⟩ := (N9.out.below hb9 (Nat.le_refl _)).cells
            obtain ⟨v0, v1, v2, v3, v4, v5⟩ := (NW8.out.below hb9 (Nat.le_refl _)).cells
            clear hb9 r0 r1 r2 r3 r4 r5 s0 s1 s2 s3 s4 s5 HAl1
            go_wp2_with (first
              | (go_at_call 16; refine (HAl2.out _ B9.out).mono ?_; rintro e w10 ⟨rfl, hb10⟩
                 have B10 := Lib.hid (B9.out.trans (hb10.mono B9.out.size))
                 clear hb10)
              | (go_at_call 14; refine (HW.out _).mono ?_; rintro e w11 ⟨rfl, hb11⟩
                 have B11 := Lib.hid (B10.out.trans (hb11.mono B10.out.size))
                 clear hb11))
            go_ret
            exact ⟨rfl, B3.out.trans ((HB8.out.trans (B11.out.mono HB8.out.size)).mono B3.out.size)⟩
end Go.Proofs.Ytebniijkhjnbdaa
