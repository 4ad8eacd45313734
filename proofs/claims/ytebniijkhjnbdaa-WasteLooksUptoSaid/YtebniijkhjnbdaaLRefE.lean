/- The walk of the reference's Look. -/
import Derived.Test.YtebniijkhjnbdaaLRefD
import Derived.Laws.AppendOwnNone
set_option linter.unusedSimpArgs false
set_option linter.unusedVariables false
set_option exponentiation.threshold 3000
namespace Go.Proofs.Ytebniijkhjnbdaa
open Go.RowKit Go.Maps
open Go.Lib hiding intOf size_eq
attribute [local irreducible] wpStill
set_option maxRecDepth 100000 in
set_option maxHeartbeats 32000000 in
theorem rlook_any (v : Value) (LL : List (List Chg)) (w : World) (h : DeltasAt w v LL) (hn : LL.length ≤ 1048576) (hm : (flatC LL).length ≤ 1048576) (ht : totalR (flatC LL) ≤ 1048576) (hp : ∀ L ∈ LL, ∀ c ∈ L, c.p.size ≤ 1048576) :
    Calls Try.prog 8 #[v] w fun r w' => ∃ (vw : Value) (sc me sp : Nat), r = .returned (.agg (wasC (totalR (flatC LL)) (leastR (flatC LL)) sc me sp vw)) ∧ LookV (totalR (flatC LL)) (leastR (flatC LL)) (LL.map sizeC) sc me sp ∧
      w'.ownsRow w.heap.size 36 3 vw (worstR (flatC LL)).length (((worstR (flatC LL)).map LostN.by).flatMap lostC) ∧ Below w.heap.size w w' := by
  obtain ⟨iL, hiL, hL0, hL1, hL2⟩ := info_parts Try.infoLost
  have HiL := Lib.hid hiL
  have HL0 := Lib.hid hL0
  have HL1 := Lib.hid hL1
  have HL2 := Lib.hid hL2
  clear hiL hL0 hL1 hL2
  obtain ⟨D, hD⟩ : ∃ D, D = LL.flatten := ⟨_, rfl⟩
  have hfl : flatC LL = D.map cwOf := by rw [hD]; rfl
  have hch := fun (W : World) (hW : Below w.heap.size w W) => rchanges_any v LL W (h.below hW (Nat.le_refl _)) hn hm
  rw [← hD] at hch
  have hpD : ∀ x ∈ D, x.p.size ≤ 1048576 := fun x hx => by
    rw [hD] at hx
    obtain ⟨L, hL, hx⟩ := List.mem_flatten.1 hx
    exact hp L hL x hx
  rw [hfl] at hm ht ⊢
  obtain ⟨o, cap, rfl, hlc, hcm⟩ := h.len
  obtain ⟨n, hnn⟩ : ∃ n, n = LL.length := ⟨_, rfl⟩
  rw [← hnn] at hlc hn hch ⊢
  obtain ⟨m, hmm⟩ : ∃ m, m = D.length := ⟨_, rfl⟩
  rw [List.length_map, ← hmm] at hm
  have Hd := Lib.hid h
  have Hnn := Lib.hid hnn
  have Hmm := Lib.hid hmm
  have Ht := Lib.hid ht
  have Hp := Lib.hid hpD
  have Hch := Lib.hid hch
  have HDd := Lib.hid hD
  have hsf := fun (x : Addr) (b : Nat) (m : Mode) (W : World) => run_store Try.prog W x (.float .f64 b) m rfl
  clear h hnn hmm ht hp hpD hch hD hfl
  go_enter Try.func8, Try.ntmps8
  go_wp2_with fail
  refine (Hch.out _ ((Below.refl _ _).alloc (Nat.le_refl _) _)).mono ?_
  rintro r w1 ⟨vD, rfl, hrow, hb⟩
  have hres := cell_grownR hb (World.alloc_heap_new w (.cells #[.int .i64 0, .int .i64 0, .float .f64 0, .float .f64 0, .float .f64 0, .slice none 0 0] 27))
  have hb1 : Below w.heap.size w w1 := ((Below.refl w.heap.size w).alloc (Nat.le_refl _) (.cells #[.int .i64 0, .int .i64 0, .float .f64 0, .float .f64 0, .float .f64 0, .slice none 0 0] 27)).trans (hb.mono (by simp))
  have hdrow : w1.ownsRow w.heap.size 43 7 vD D.length (D.flatMap chgC) := row_baseG hrow (by simp)
  go_upto_block 0 with fail
  have hRJ : RJ w (w1.alloc (.cells #[.int .i64 0, .int .i64 0, .float .f64 4607182418800017408, .float .f64 0, .float .f64 0, .slice none 0 0] 27)) w.heap.size w1.heap.size vD D ((0 : Nat) : Int) ((0 : Nat) : Int) flOne 0 0 (.slice none 0 0) [] := by
    have hbz := (Below.refl w1.heap.size w1).alloc (Nat.le_refl _) (.cells #[.int .i64 0, .int .i64 0, .float .f64 4607182418800017408, .float .f64 0, .float .f64 0, .slice none 0 0] 27)
    exact ⟨hb1.trans (hbz.mono hb1.size), Nat.le_refl _, hb1.size, fun e => by have := heap_lt hres; omega, cell_grownR hbz hres, World.alloc_heap_new w1 _, row_belowC hdrow hbz, World.ownsRow_nil _ _ _ _⟩
  obtain ⟨w2, hw2⟩ : ∃ y, y = w1.alloc (.cells #[.int .i64 0, .int .i64 0, .float .f64 4607182418800017408, .float .f64 0, .float .f64 0, .slice none 0 0] 27) := ⟨_, rfl⟩
  rw [← hw2] at hRJ ⊢
  obtain ⟨b4, hb4⟩ : ∃ y, y = w1.heap.size := ⟨_, rfl⟩
  rw [← hb4] at hRJ ⊢
  obtain ⟨b2, hb2⟩ : ∃ y, y = w.heap.size := ⟨_, rfl⟩
  have HB2 := Lib.hid hb2
  rw [← hb2] at hRJ ⊢
  rw [hb2] at hRJ
  rw [← hb2] at hRJ
  have HRJ := Lib.hid hRJ
  clear hw2 hb4 hb2 hRJ hres hb1 hdrow hrow hb
  go_wp2_with fail
  go_loopw [5] (fun iv wr => ∃ (i tot le : Nat) (R : List LostN) (vw : Value), iv = .int .i64 (i : Int) ∧ i ≤ m ∧ Hid (LookJ D i tot le R) ∧ Hid (RJ w wr b2 b4 vD D (tot : Int) (le : Int) flOne 0 0 vw (R.map LostN.by))) (fun iv _ => m - (intOf iv).toNat)
  case atStart => exact ⟨0, 0, 0, [], _, rfl, Nat.zero_le _, Lib.hid (LookJ.start D), HRJ⟩
  case round =>
    obtain ⟨i, tot, le, R, vw, rfl, hi, HJ, HR⟩ := hrel
    by_cases hlt : i < m
    · obtain ⟨c, hc⟩ : ∃ c, D[i]? = some c := ⟨_, List.getElem?_eq_getElem (by rw [← Hmm.out]; exact hlt)⟩
      obtain ⟨g, cD, hvD, hcD, hcD2, hg0, hcel0⟩ := row_lit HR.out.drow (by rw [← Hmm.out]; omega)
      rw [← Hmm.out] at hcD hvD
      subst hvD
      have hcell : ∀ W, RJ w W b2 b4 (.slice (some ⟨g, 0, none⟩) m cD) D (tot : Int) (le : Int) flOne 0 0 vw (R.map LostN.by) → True := fun _ _ => trivial
      have hcy : ∀ j x, ([.string c.p, .bool c.g, .string c.ep, .int .i64 c.k, .int .i64 c.m, .string c.d, .string c.l] : List Value)[j]? = some x → wr.cell? ((⟨g, i * 7, none⟩ : Addr).add j) = some x := fun j x hj => by
        rw [gadd_new]
        exact hcel0 _ _ (gflat_get chgC_len hc hj)
      have hboth := HJ.out.both hc
      have htb : tot + bringsF (cwOf c) ≤ 1048576 := by
        have h1 := Ht.out
        have h2 := totalR_take D (i + 1)
        have h3 := hboth.1
        omega
      have hleb : le + bringsF (cwOf c) ≤ 2097152 := by
        have h1 := Ht.out
        have h4 := brings_total (D.map cwOf) (cwOf c) (List.mem_map.2 ⟨c, List.mem_of_getElem? hc, rfl⟩)
        have h5 := HJ.out.lst
        have h6 := leastR_leR (D.map cwOf)
        omega
      have hstay := fun (W : World) (tot le : Int) (hW : RJ w W b2 b4 (.slice (some ⟨g, 0, none⟩) m cD) D tot le flOne 0 0 vw (R.map LostN.by)) => rstays_any (.slice (some ⟨g, 0, none⟩) m cD) D i c W (items_of_row chgC_len hW.drow) (by rw [← Hmm.out]; exact hm) hc Hp.out
      have hlost := fun (W : World) (tot le : Int) (hW : RJ w W b2 b4 (.slice (some ⟨g, 0, none⟩) m cD) D tot le flOne 0 0 vw (R.map LostN.by)) => rlost_any g m cD D i c W (items_of_row chgC_len hW.drow) Hmm.out (by rw [← Hmm.out]; exact hm) hc Hp.out Ht.out
      have hbr := fun W => rbrings_any c W
      have hcp := Hp.out c (List.mem_of_getElem? hc)
      obtain ⟨br, hbrd⟩ : ∃ y, y = bringsF (cwOf c) := ⟨_, rfl⟩
      obtain ⟨st, hstd⟩ : ∃ y, y = staysF (cwOf c) ((D.drop (i + 1)).map cwOf) := ⟨_, rfl⟩
      obtain ⟨lt, hltd⟩ : ∃ y, y = lostT D i c := ⟨_, rfl⟩
      obtain ⟨lb, hlbd⟩ : ∃ y, y = lostB D i c := ⟨_, rfl⟩
      obtain ⟨fb, hfbd⟩ : ∃ y, y = firstB D i c := ⟨_, rfl⟩
      have hskip := fun hs => HJ.out.skip hc hs
      have hins := fun hf h0 => HJ.out.ins hc hf h0
      rw [← hbrd] at htb hleb hbr hskip hins
      rw [← hstd] at hstay hskip hins
      rw [← hltd] at hlost hins
      rw [← hlbd] at hlost hskip hins
      rw [← hfbd] at hlost hskip hins
      obtain ⟨le1, hle1⟩ : ∃ y, y = le + (if st = true then br else 0) := ⟨_, rfl⟩
      rw [← hle1] at hskip hins
      have Hcy := Lib.hid hcy
      have Hstay := Lib.hid hstay
      have Hlost := Lib.hid hlost
      have Hbr := Lib.hid hbr
      have Hskip := Lib.hid hskip
      have Hins := Lib.hid hins
      have Hle1 := Lib.hid hle1
      have Hc := Lib.hid hc
      have HJ0 := HJ
      clear hcy hstay hlost hbr hskip hins hle1 hcell hboth hc hbrd hstd hltd hlbd hfbd hcel0 HJ
      go_upto_if 38 with (first
        | (refine wpList_load_items rfl _ _ rfl ⟨g, i * 7, none⟩ rfl [.string c.p, .bool c.g, .string c.ep, .int .i64 c.k, .int .i64 c.m, .string c.d, .string c.l] _ Hcy.out Try.underlying43 rfl (by kernel_rfl) ?_)
        | (go_at_call 20; refine (Hbr.out _).mono ?_; rintro r w3 ⟨rfl, hb3⟩
           have hR3 := HR.out.below hb3
           obtain ⟨a0, a1, a2, a3, a4, a5, af⟩ := hR3.cells
           have f0 := af 0
           have HR3 := Lib.hid hR3
           clear hb3 hR3 af)
        | (go_at_call 21
           have hR4 := HR3.out.put (j := 0) (v := .int .i64 ((tot : Int) + (br : Int))) (tot' := ((tot + br : Nat) : Int)) (le' := (le : Int)) (sc' := flOne) (me' := 0) (sp' := 0) (by simp [wasC])
           refine (Hstay.out _ _ _ hR4).mono ?_; rintro r w5 ⟨rfl, hb5⟩
           have HR5 := Lib.hid (hR4.below hb5)
           clear hb5 hR4 a0 a1 a2 a3 a4 a5 f0))
      go_cut [6] (fun nv wx => nv = .int .i64 (br : Int) ∧ Hid (RJ w wx b2 b4 (.slice (some ⟨g, 0, none⟩) m cD) D ((tot + br : Nat) : Int) (le1 : Int) flOne 0 0 vw (R.map LostN.by)))
      case first =>
        obtain ⟨a0, a1, a2, a3, a4, a5, af⟩ := HR5.out.cells
        have f1 := af 1
        clear af
        cases st with
        | true =>
          have e1 : ((le : Int) + (br : Int)) = (le1 : Int) := by rw [Hle1.out]; simp
          have hR6 := HR5.out.put (j := 1) (v := .int .i64 ((le : Int) + (br : Int))) (tot' := ((tot + br : Nat) : Int)) (le' := (le1 : Int)) (sc' := flOne) (me' := 0) (sp' := 0) (by rw [e1]; simp [wasC])
          have HR6 := Lib.hid hR6
          clear hR6 e1
          go_wp2_with fail
          go_meet
          exact ⟨rfl, HR6⟩
        | false =>
          have e1 : le = le1 := by rw [Hle1.out]; simp
          subst e1
          go_wp2_with fail
          go_meet
          exact ⟨rfl, HR5⟩
      case rest =>
        obtain ⟨rfl, HC⟩ := hcut
        clear HR HR3 HR5 Hcy Hbr Hstay
        go_wp2_with fail
        refine (Hlost.out _ _ _ HC.out).mono ?_
        rintro r w6 ⟨rfl, hb6⟩
        have hR6 := HC.out.below hb6
        clear hb6 HC
        cases fb with
        | false =>
          have HJ2 := Lib.hid (Hskip.out (.inl rfl))
          clear Hskip Hins
          go_upto_if 56 with fail
          have hb7 := (Below.refl w6.heap.size w6).alloc (Nat.le_refl _) (.cells #[.string c.p, .int .i64 (lt : Int), .int .i64 (lb : Int)] 36)
          have hx7 := World.alloc_heap_new w6 (.cells #[.string c.p, .int .i64 (lt : Int), .int .i64 (lb : Int)] 36)
          have hR7 := hR6.below hb7
          obtain ⟨w7, hw7⟩ : ∃ y, y = w6.alloc (.cells #[.string c.p, .int .i64 (lt : Int), .int .i64 (lb : Int)] 36) := ⟨_, rfl⟩
          rw [← hw7] at hx7 hR7 ⊢
          obtain ⟨b7, hb7d⟩ : ∃ y, y = w6.heap.size := ⟨_, rfl⟩
          rw [← hb7d] at hx7 ⊢
          have HX7 := Lib.hid hx7
          have HR7 := Lib.hid hR7
          have x72 := block_cell (j := 2) hx7 rfl
          clear hw7 hb7d hb7 hR6 hR7 hx7
          go_wp2_with fail
          go_roundw
          case rel => exact ⟨i + 1, tot + br, le1, R, vw, by go_num, by omega, HJ2, HR7⟩
          case measure => simp [intOf]; omega
        | true =>
          by_cases hlb : lb = 0
          · have HJ2 := Lib.hid (Hskip.out (.inr hlb))
            have hlbi : ((lb : Int) == 0) = true := by simp [hlb]
            clear Hskip Hins hlb
            go_upto_if 56 with fail
            have hb7 := (Below.refl w6.heap.size w6).alloc (Nat.le_refl _) (.cells #[.string c.p, .int .i64 (lt : Int), .int .i64 (lb : Int)] 36)
            have hx7 := World.alloc_heap_new w6 (.cells #[.string c.p, .int .i64 (lt : Int), .int .i64 (lb : Int)] 36)
            have hR7 := hR6.below hb7
            obtain ⟨w7, hw7⟩ : ∃ y, y = w6.alloc (.cells #[.string c.p, .int .i64 (lt : Int), .int .i64 (lb : Int)] 36) := ⟨_, rfl⟩
            rw [← hw7] at hx7 hR7 ⊢
            obtain ⟨b7, hb7d⟩ : ∃ y, y = w6.heap.size := ⟨_, rfl⟩
            rw [← hb7d] at hx7 ⊢
            have HX7 := Lib.hid hx7
            have HR7 := Lib.hid hR7
            have x72 := block_cell (j := 2) hx7 rfl
            clear hw7 hb7d hb7 hR6 hR7 hx7
            go_wp2_with fail
            go_roundw
            case rel => exact ⟨i + 1, tot + br, le1, R, vw, by go_num, by omega, HJ2, HR7⟩
            case measure => simp [intOf]; omega
          · have HJ2 := Lib.hid (Hins.out rfl hlb)
            have hlbi : ((lb : Int) == 0) = false := by simp [hlb]
            clear Hskip Hins hlb
            go_upto_if 56 with fail
            have hb7 := (Below.refl w6.heap.size w6).alloc (Nat.le_refl _) (.cells #[.string c.p, .int .i64 (lt : Int), .int .i64 (lb : Int)] 36)
            have hx7 := World.alloc_heap_new w6 (.cells #[.string c.p, .int .i64 (lt : Int), .int .i64 (lb : Int)] 36)
            have hR7 := hR6.below hb7
            obtain ⟨w7, hw7⟩ : ∃ y, y = w6.alloc (.cells #[.string c.p, .int .i64 (lt : Int), .int .i64 (lb : Int)] 36) := ⟨_, rfl⟩
            rw [← hw7] at hx7 hR7 ⊢
            obtain ⟨b7, hb7d⟩ : ∃ y, y = w6.heap.size := ⟨_, rfl⟩
            rw [← hb7d] at hx7 ⊢
            have HX7 := Lib.hid hx7
            have HR7 := Lib.hid hR7
            have x72 := block_cell (j := 2) hx7 rfl
            clear hw7 hb7d hb7 hR6 hR7 hx7
            obtain ⟨nR, hnR⟩ : ∃ y, y = R.length := ⟨_, rfl⟩
            have hnRm : nR ≤ 1048576 := by have := HJ0.out.len; omega
            have hxb : (⟨c.p.data.toList, lt, lb⟩ : LostN).by = ⟨c.p, lt, lb⟩ := by
              unfold LostN.by
              rw [bs_of]
            have Hxb := Lib.hid hxb
            have HnR := Lib.hid hnR
            clear hxb hnR
            rcases HR7.out.wrow.2 with ⟨hv, h0⟩ | ⟨gW, cW, cur, hv, hBW, hgW, hnc, hcmW, hszW, htk⟩
            · subst hv
              have hRn : R = [] := by
                rw [List.length_map] at h0
                exact List.eq_nil_of_length_eq_zero h0
              subst hRn
              clear h0
              go_wp2_with fail
              go_loopw [10] (fun av wr => ∃ z : Nat, av = .int .i64 (z : Int) ∧ z = 0 ∧ w7 = wr) (fun _ _ => 0)
              case atStart => exact ⟨0, rfl, rfl, rfl⟩
              case round =>
                obtain ⟨z, rfl, rfl, rfl⟩ := hrel
                obtain ⟨a0, a1, a2, a3, a4, a5, af⟩ := (HR7.out.below (below_drew (Below.refl _ _))).cells
                go_upto_region 14 with fail
                refine gregion_named (by kernel_rfl) (by kernel_rfl) ?_
                intro wz hz
                have hRz : RJ w wz b2 b4 (.slice (some ⟨g, 0, none⟩) m cD) D ((tot + br : Nat) : Int) (le1 : Int) flOne 0 0 (.slice none 0 0) [] := by rw [hz]; exact HR7.out.below (below_drew (Below.refl _ _))
                have hxz : wz.heap[b7]? = some (.cells #[.string c.p, .int .i64 (lt : Int), .int .i64 (lb : Int)] 36 (0, 0)) := by rw [hz]; exact HX7.out
                rw [← hz] at a0 a1 a2 a3 a4 a5 af
                have HRz := Lib.hid hRz
                have HXz := Lib.hid hxz
                have f5 := af 5
                clear hz hRz hxz
                iterate 6 still_step
                iterate 7 (refine still_skipW (by rfl) ?_; simp only [Act.put, List.setIfInBounds_toArray, List.set_cons_zero, List.set_cons_succ])
                iterate 1 still_step
                refine wpStill_nil ?_
                have Hit := Lib.hid (item_cells (cs := [.string c.p, .int .i64 (lt : Int), .int .i64 (lb : Int)]) HXz.out)
                go_upto_region 17 with (first
                  | (at_builtin; refine wpList_append_own_none rfl _ _ _ rfl wz.heap.size 36 iL 3 Try.underlying25 HiL.out _ 0 [] rfl (World.ownsRow_nil _ _ _ _) rfl ?_))
                have Hnew := Lib.hid (item_cells (cs := [.string c.p, .int .i64 (lt : Int), .int .i64 (lb : Int)]) (World.alloc_heap_new wz (.cells #[.string c.p, .int .i64 (lt : Int), .int .i64 (lb : Int)] 36)))
                go_upto_region 18 with (first
                  | (refine wpList_load_items rfl _ _ rfl ⟨b7, 0, none⟩ rfl [.string c.p, .int .i64 (lt : Int), .int .i64 (lb : Int)] _ Hit.out Try.underlying36 rfl (by kernel_rfl) ?_)
                  | (at_builtin; refine wpList_append_own _ rfl _ _ 25 rfl wz.heap.size 36 iL _ 3 32 Try.underlying25 HiL.out HL0.out HL1.out HL2.out rfl (by decide) _ 0 [] rfl (World.ownsRow_nil _ _ _ _) ⟨wz.heap.size, 0, none⟩ 1 1 [.string c.p, .int .i64 (lt : Int), .int .i64 (lb : Int)] rfl rfl Hnew.out (by simp [Value.oneCell']) (by unfold maxLen; omega) (by omega) (by simp) ?_
                     intro v1 w8 hown1 hgrow1 _
                     obtain ⟨o1, c1, rfl⟩ := row_formG hown1
                     have HN := Lib.hid (NX.app (ys := [⟨c.p, lt, lb⟩]) (NX.start wz) ((Below.refl _ _).alloc (Nat.le_refl _) _) rfl hown1 hgrow1)
                     clear hown1 hgrow1))
                have hR8 := HRz.out.below HN.out.1
                obtain ⟨d0, d1, d2, d3, d4, d5, df⟩ := hR8.cells
                have g5 := df 5
                clear a0 a1 a2 a3 a4 a5 f5 af df
                have HR9 := Lib.hid (HRz.out.worst HN.out)
                go_wp2_with (first
                  | (at_builtin; refine wpList_append_own_none rfl _ _ _ rfl wz.heap.size 36 iL 3 Try.underlying25 HiL.out _ _ _ rfl HN.out.2 rfl ?_))
                go_roundw
                case rel => exact ⟨i + 1, tot + br, le1, _, _, by go_num, by omega, HJ2, by rw [show (insW [] ⟨c.p.data.toList, lt, lb⟩).map LostN.by = [⟨c.p, lt, lb⟩] by rw [← Hxb.out]; rfl]; exact HR9⟩
                case measure => simp [intOf]; omega
            · have hnl : (R.map LostN.by).length = nR := by rw [List.length_map, HnR.out]
              rw [hnl] at hv hnc
              subst hv
              have hcW : ∀ (W : World), RJ w W b2 b4 (.slice (some ⟨g, 0, none⟩) m cD) D ((tot + br : Nat) : Int) (le1 : Int) flOne 0 0 (.slice (some ⟨gW, 0, none⟩) nR cW) (R.map LostN.by) → ∀ (j : Nat) x, ((R.map LostN.by).flatMap lostC)[j]? = some x → W.cell? ⟨gW, j, none⟩ = some x := fun W hW j x hx => by
                by_cases h0 : 0 < (R.map LostN.by).length
                · obtain ⟨g2, c2, e, _, _, _, hcel⟩ := row_lit hW.wrow h0
                  injection e with e1 _ _
                  injection e1 with e1
                  injection e1 with e1
                  rw [e1]
                  exact hcel j x hx
                · have : R.map LostN.by = [] := List.eq_nil_of_length_eq_zero (by omega)
                  rw [this] at hx
                  cases hx
              have HcW := Lib.hid hcW
              have Hnl := Lib.hid hnl
              have hcWm : nR ≤ cW := hnc
              clear hcW hnl hnc hszW htk hgW hBW
              go_upto_block 2 with fail
              go_cut [7, 9, 10] (fun pv nv av wx => pv = .pointer (some ⟨b7, 0, none⟩) ∧ nv = .slice none 0 0 ∧ ∃ z : Nat, av = .int .i64 (z : Int) ∧ z ≤ nR ∧ Hid (insW R ⟨c.p.data.toList, lt, lb⟩ = R.take z ++ [⟨c.p.data.toList, lt, lb⟩] ++ R.drop z) ∧ Hid (RJ w wx b2 b4 (.slice (some ⟨g, 0, none⟩) m cD) D ((tot + br : Nat) : Int) (le1 : Int) flOne 0 0 (.slice (some ⟨gW, 0, none⟩) nR cW) (R.map LostN.by)) ∧ Hid (wx.heap[b7]? = some (.cells #[.string c.p, .int .i64 (lt : Int), .int .i64 (lb : Int)] 36 (0, 0))))
              case first =>
                go_wp2_with fail
                go_loopw [10] (fun av wr => ∃ z : Nat, av = .int .i64 (z : Int) ∧ z ≤ nR ∧ Hid (∀ j y, j < z → R[j]? = some y → aheadB y ⟨c.p.data.toList, lt, lb⟩ = true) ∧ Hid (RJ w wr b2 b4 (.slice (some ⟨g, 0, none⟩) m cD) D ((tot + br : Nat) : Int) (le1 : Int) flOne 0 0 (.slice (some ⟨gW, 0, none⟩) nR cW) (R.map LostN.by)) ∧ Hid (wr.heap[b7]? = some (.cells #[.string c.p, .int .i64 (lt : Int), .int .i64 (lb : Int)] 36 (0, 0)))) (fun av _ => nR - (intOf av).toNat)
                case atStart => exact ⟨0, rfl, Nat.zero_le _, Lib.hid (fun j y hj => absurd hj (by omega)), HR7, HX7⟩
                case round =>
                  obtain ⟨z, rfl, hz, HA, HRz, HXz⟩ := hrel
                  have hRd := HRz.out.below (below_drew (Below.refl _ _))
                  obtain ⟨a0, a1, a2, a3, a4, a5, af⟩ := hRd.cells
                  have HRd := Lib.hid hRd
                  clear a0 a1 a2 a3 a4 af hRd
                  by_cases hzn : z < nR
                  · obtain ⟨y, hy⟩ : ∃ y, R[z]? = some y := ⟨_, List.getElem?_eq_getElem (by rw [← HnR.out]; exact hzn)⟩
                    have hyb : (R.map LostN.by)[z]? = some y.by := by rw [List.getElem?_map, hy]; rfl
                    have hyl : y.by.p.size ≤ 1099511627776 := by
                      obtain ⟨c2, hc2, e⟩ := HJ0.out.mem y (List.mem_of_getElem? hy)
                      have h2 := Hp.out c2 hc2
                      rw [e]
                      show (bs c2.p.data.toList).size ≤ _
                      rw [bs_of]
                      omega
                    have hah := fun W => rahead_any y.by ⟨c.p, lt, lb⟩ W hyl (by show c.p.size ≤ _; omega)
                    rw [by_n, show (⟨c.p, lt, lb⟩ : LostB).n = ⟨c.p.data.toList, lt, lb⟩ from rfl] at hah
                    obtain ⟨ab, habd⟩ : ∃ u, u = aheadB y ⟨c.p.data.toList, lt, lb⟩ := ⟨_, rfl⟩
                    rw [← habd] at hah
                    have hcl : ∀ j u, (lostC y.by)[j]? = some u → wr.drew.cell? ⟨gW, z * 3 + j, none⟩ = some u := fun j u hu => HcW.out _ HRd.out _ _ (gflat_get lostC_len hyb hu)
                    obtain ⟨yp, hyp⟩ : ∃ u, u = y.by.p := ⟨_, rfl⟩
                    obtain ⟨yt, hyt⟩ : ∃ u, u = y.by.t := ⟨_, rfl⟩
                    obtain ⟨yv, hyv⟩ : ∃ u, u = y.by.b := ⟨_, rfl⟩
                    have k0 : wr.drew.cell? ⟨gW, z * 3, none⟩ = some (.string yp) := by rw [hyp]; exact hcl 0 _ rfl
                    have k1 : wr.drew.cell? ⟨gW, z * 3 + 1, none⟩ = some (.int .i64 (yt : Int)) := by rw [hyt]; exact hcl 1 _ rfl
                    have k2 : wr.drew.cell? ⟨gW, z * 3 + 2, none⟩ = some (.int .i64 (yv : Int)) := by rw [hyv]; exact hcl 2 _ rfl
                    rw [← hyp, ← hyt, ← hyv] at hah
                    have hxd : wr.drew.heap[b7]? = some (.cells #[.string c.p, .int .i64 (lt : Int), .int .i64 (lb : Int)] 36 (0, 0)) := HXz.out
                    have m0 := block_cell (j := 0) hxd rfl
                    have m1 := block_cell (j := 1) hxd rfl
                    have m2 := block_cell (j := 2) hxd rfl
                    have Hah := Lib.hid hah
                    have Hab := Lib.hid habd
                    have Hy := Lib.hid hy
                    have HXd := Lib.hid hxd
                    have hznI : (z : Int) < (nR : Int) := by omega
                    clear hah habd hy hyb hcl hyp hyt hyv hxd hyl
                    go_upto_region 14 with fail
                    refine gregion_tail 12 (by kernel_rfl) (by kernel_rfl) ?_
                    intro wz hwz
                    rw [← hwz] at HRd HXd k0 k1 k2 m0 m1 m2 a5
                    clear hwz
                    simp only [List.take_succ_cons, List.take_zero, List.drop_succ_cons, List.drop_zero]
                    iterate 12 still_step
                    refine wpStill_nil ?_
                    go_wp2_with fail
                    refine (Hah.out _).mono ?_
                    rintro r w9 ⟨rfl, hb9⟩
                    have HR9 := Lib.hid (HRd.out.below hb9)
                    have HX9 := Lib.hid (cell_grownR hb9 HXd.out)
                    clear hb9 k0 k1 k2 m0 m1 m2 a5
                    cases ab with
                    | true =>
                      have HA2 := Lib.hid (show ∀ j u, j < z + 1 → R[j]? = some u → aheadB u ⟨c.p.data.toList, lt, lb⟩ = true from fun j u hj hu => by
                        by_cases e : j = z
                        · subst e; rw [Hy.out] at hu; injection hu with hu; rw [← hu, ← Hab.out]
                        · exact HA.out j u (by omega) hu)
                      go_wp2_with fail
                      go_roundw
                      case rel => exact ⟨z + 1, by go_num, by omega, HA2, HR9, HX9⟩
                      case measure => simp [intOf]; omega
                    | false =>
                      have HI := Lib.hid (ins_at (x := ⟨c.p.data.toList, lt, lb⟩) (k := z) HA.out (fun u hu => by rw [Hy.out] at hu; injection hu with hu; rw [← hu, ← Hab.out]) (by rw [← HnR.out]; exact hz))
                      go_wp2_with fail
                      go_meet
                      exact ⟨rfl, rfl, z, rfl, hz, HI, HR9, HX9⟩
                  · obtain rfl : z = nR := by omega
                    have HI := Lib.hid (ins_at (x := ⟨c.p.data.toList, lt, lb⟩) (k := z) HA.out (fun u hu => by rw [HnR.out, List.getElem?_eq_none (Nat.le_refl _)] at hu; cases hu) (by rw [← HnR.out]; exact hz))
                    have HXd := Lib.hid (show wr.drew.heap[b7]? = some (.cells #[.string c.p, .int .i64 (lt : Int), .int .i64 (lb : Int)] 36 (0, 0)) from HXz.out)
                    go_upto_region 14 with fail
                    refine gregion_named (by kernel_rfl) (by kernel_rfl) ?_
                    intro wz hwz
                    rw [← hwz] at HRd HXd a5
                    clear hwz
                    iterate 6 still_step
                    iterate 7 (refine still_skipW (by rfl) ?_; simp only [Act.put, List.setIfInBounds_toArray, List.set_cons_zero, List.set_cons_succ])
                    iterate 1 still_step
                    refine wpStill_nil ?_
                    go_wp2_with fail
                    go_meet
                    exact ⟨rfl, rfl, z, rfl, hz, HI, HRd, HXd⟩
              case rest =>
                obtain ⟨rfl, rfl, z, rfl, hz, HI, HRc, HXc⟩ := hcut
                by_cases hzc : z = cW
                · have hzn : z = nR := by omega
                  subst hzn
                  subst hzc
                  obtain ⟨a0, a1, a2, a3, a4, a5, af⟩ := HRc.out.cells
                  clear a0 a1 a2 a3 a4 af
                  have hcells := HcW.out _ HRc.out
                  have hn1 : ∀ j u, (((R.map LostN.by).take z).flatMap lostC)[j]? = some u → wc.cell? ((⟨gW, 0, none⟩ : Addr).add j) = some u := fun j u hu => by
                    rw [gadd_new, Nat.zero_add]
                    rw [gflat_take lostC_len, List.getElem?_take] at hu
                    split at hu
                    · exact hcells j u hu
                    · cases hu
                  have hl1 : (((R.map LostN.by).take z).flatMap lostC).length = z * 3 := by
                    rw [gflat_len lostC_len, List.length_take, Hnl.out]
                    omega
                  have Hn1 := Lib.hid hn1
                  have Hl1 := Lib.hid hl1
                  clear hn1 hl1 hcells
                  go_upto_region 17 with (first
                    | (at_builtin; refine wpList_append_own _ rfl _ _ 25 rfl wc.heap.size 36 iL _ 3 32 Try.underlying25 HiL.out HL0.out HL1.out HL2.out rfl (by decide) _ 0 [] rfl (World.ownsRow_nil _ _ _ _) ⟨gW, 0, none⟩ z z (((R.map LostN.by).take z).flatMap lostC) rfl Hl1.out Hn1.out (lostC_ones _) (by unfold maxLen; omega) (by omega) (Nat.le_refl _) ?_
                       intro v1 w8 hown1 hgrow1 _
                       have HN := Lib.hid (NX.app (ys := (R.map LostN.by).take z) (NX.start wc) (Below.refl _ _) (by rw [List.length_take, Hnl.out]; omega) hown1 hgrow1)
                       clear hown1 hgrow1))
                  have hlen1 : ([] ++ (R.map LostN.by).take z).length = z := by rw [List.nil_append, List.length_take, Hnl.out]; omega
                  have hrow2 := HN.out.2
                  rw [hlen1] at hrow2
                  have Hrow2 := Lib.hid (hrow2.alloc (.cells #[.string c.p, .int .i64 (lt : Int), .int .i64 (lb : Int)] 36))
                  have hs8 := HN.out.1.size
                  have Hit := Lib.hid (item_cells (cs := [.string c.p, .int .i64 (lt : Int), .int .i64 (lb : Int)]) (cell_grownR HN.out.1 HXc.out))
                  have Hnew := Lib.hid (item_cells (cs := [.string c.p, .int .i64 (lt : Int), .int .i64 (lb : Int)]) (World.alloc_heap_new w8 (.cells #[.string c.p, .int .i64 (lt : Int), .int .i64 (lb : Int)] 36)))
                  clear a5 hrow2
                  have Hlen1 := Lib.hid hlen1
                  clear hlen1
                  go_upto_region 18 with (first
                    | (refine wpList_load_items rfl _ _ rfl ⟨b7, 0, none⟩ rfl [.string c.p, .int .i64 (lt : Int), .int .i64 (lb : Int)] _ Hit.out Try.underlying36 rfl (by kernel_rfl) ?_)
                    | (at_builtin; refine wpList_append_own _ rfl _ _ 25 rfl wc.heap.size 36 iL _ 3 32 Try.underlying25 HiL.out HL0.out HL1.out HL2.out rfl (by decide) _ _ _ rfl Hrow2.out ⟨w8.heap.size, 0, none⟩ 1 1 [.string c.p, .int .i64 (lt : Int), .int .i64 (lb : Int)] rfl rfl Hnew.out (by simp [Value.oneCell']) (by unfold maxLen; omega) (by omega) (by simp; omega) ?_
                       intro v2 w10 hown2 hgrow2 _
                       have HN2 := Lib.hid (NX.app (ys := [⟨c.p, lt, lb⟩]) HN.out ((Below.refl _ _).alloc (Nat.le_refl _) _) rfl (by rw [Hlen1.out]; exact hown2) hgrow2)
                       clear hown2 hgrow2))
                  have hlen2 : ([] ++ (R.map LostN.by).take z ++ [(⟨c.p, lt, lb⟩ : LostB)]).length = z + 1 := by rw [List.length_append, Hlen1.out]; rfl
                  have hrow3 := HN2.out.2
                  rw [hlen2] at hrow3
                  have Hrow3 := Lib.hid hrow3
                  have Hlen2 := Lib.hid hlen2
                  have hs10 := HN2.out.1.size
                  have hR10 := HRc.out.below HN2.out.1
                  obtain ⟨d0, d1, d2, d3, d4, d5, df⟩ := hR10.cells
                  clear hlen2 hrow3 d0 d1 d2 d3 d4 df Hit Hnew Hrow2
                  have hcells := HcW.out _ hR10
                  have hdn : (R.map LostN.by).drop z = [] := List.drop_eq_nil_of_le (by rw [Hnl.out]; omega)
                  have Hdn := Lib.hid hdn
                  clear hcells hdn
                  go_upto_region 19 with (first
                    | (at_builtin; refine wpList_append_own _ rfl _ _ 25 rfl wc.heap.size 36 iL _ 3 32 Try.underlying25 HiL.out HL0.out HL1.out HL2.out rfl (by decide) _ _ _ rfl Hrow3.out _ _ _ (((R.map LostN.by).drop z).flatMap lostC) rfl (by rw [Hdn.out]; simp) (fun j u hu => by rw [Hdn.out] at hu; cases hu) (lostC_ones _) (by unfold maxLen; omega) (by omega) hs10 ?_
                       intro v3 w11 hown3 hgrow3 _
                       obtain ⟨o3, c3, rfl⟩ := row_formG hown3
                       have HN3 := Lib.hid (NX.app (ys := (R.map LostN.by).drop z) HN2.out (Below.refl _ _) (m := 0) (by rw [List.length_drop, Hnl.out]; omega) (by rw [Hlen2.out]; exact hown3) hgrow3)
                       clear hown3 hgrow3))
                  obtain ⟨d0, d1, d2, d3, d4, d5, df⟩ := (HRc.out.below HN3.out.1).cells
                  have g5 := df 5
                  clear d0 d1 d2 d3 d4 df
                  have HR12 := Lib.hid (HRc.out.worst HN3.out)
                  go_wp2_with fail
                  go_roundw
                  case rel => exact ⟨i + 1, tot + br, le1, _, _, by go_num, by omega, HJ2, by rw [HI.out, ins_by, Hxb.out]; exact HR12⟩
                  case measure => simp [intOf]; omega
                · have hzc2 : z < cW := by omega
                  obtain ⟨a0, a1, a2, a3, a4, a5, af⟩ := HRc.out.cells
                  clear a0 a1 a2 a3 a4 af
                  have hcells := HcW.out _ HRc.out
                  have hn1 : ∀ j u, (((R.map LostN.by).take z).flatMap lostC)[j]? = some u → wc.cell? ((⟨gW, 0, none⟩ : Addr).add j) = some u := fun j u hu => by
                    rw [gadd_new, Nat.zero_add]
                    rw [gflat_take lostC_len, List.getElem?_take] at hu
                    split at hu
                    · exact hcells j u hu
                    · cases hu
                  have hl1 : (((R.map LostN.by).take z).flatMap lostC).length = z * 3 := by
                    rw [gflat_len lostC_len, List.length_take, Hnl.out]
                    omega
                  have Hn1 := Lib.hid hn1
                  have Hl1 := Lib.hid hl1
                  clear hn1 hl1 hcells
                  go_upto_region 17 with (first
                    | (at_builtin; refine wpList_append_own _ rfl _ _ 25 rfl wc.heap.size 36 iL _ 3 32 Try.underlying25 HiL.out HL0.out HL1.out HL2.out rfl (by decide) _ 0 [] rfl (World.ownsRow_nil _ _ _ _) ⟨gW, 0, none⟩ z cW (((R.map LostN.by).take z).flatMap lostC) rfl Hl1.out Hn1.out (lostC_ones _) (by unfold maxLen; omega) (by omega) (Nat.le_refl _) ?_
                       intro v1 w8 hown1 hgrow1 _
                       have HN := Lib.hid (NX.app (ys := (R.map LostN.by).take z) (NX.start wc) (Below.refl _ _) (by rw [List.length_take, Hnl.out]; omega) hown1 hgrow1)
                       clear hown1 hgrow1))
                  have hlen1 : ([] ++ (R.map LostN.by).take z).length = z := by rw [List.nil_append, List.length_take, Hnl.out]; omega
                  have hrow2 := HN.out.2
                  rw [hlen1] at hrow2
                  have Hrow2 := Lib.hid (hrow2.alloc (.cells #[.string c.p, .int .i64 (lt : Int), .int .i64 (lb : Int)] 36))
                  have hs8 := HN.out.1.size
                  have Hit := Lib.hid (item_cells (cs := [.string c.p, .int .i64 (lt : Int), .int .i64 (lb : Int)]) (cell_grownR HN.out.1 HXc.out))
                  have Hnew := Lib.hid (item_cells (cs := [.string c.p, .int .i64 (lt : Int), .int .i64 (lb : Int)]) (World.alloc_heap_new w8 (.cells #[.string c.p, .int .i64 (lt : Int), .int .i64 (lb : Int)] 36)))
                  clear a5 hrow2
                  have Hlen1 := Lib.hid hlen1
                  clear hlen1
                  go_upto_region 18 with (first
                    | (refine wpList_load_items rfl _ _ rfl ⟨b7, 0, none⟩ rfl [.string c.p, .int .i64 (lt : Int), .int .i64 (lb : Int)] _ Hit.out Try.underlying36 rfl (by kernel_rfl) ?_)
                    | (at_builtin; refine wpList_append_own _ rfl _ _ 25 rfl wc.heap.size 36 iL _ 3 32 Try.underlying25 HiL.out HL0.out HL1.out HL2.out rfl (by decide) _ _ _ rfl Hrow2.out ⟨w8.heap.size, 0, none⟩ 1 1 [.string c.p, .int .i64 (lt : Int), .int .i64 (lb : Int)] rfl rfl Hnew.out (by simp [Value.oneCell']) (by unfold maxLen; omega) (by omega) (by simp; omega) ?_
                       intro v2 w10 hown2 hgrow2 _
                       have HN2 := Lib.hid (NX.app (ys := [⟨c.p, lt, lb⟩]) HN.out ((Below.refl _ _).alloc (Nat.le_refl _) _) rfl (by rw [Hlen1.out]; exact hown2) hgrow2)
                       clear hown2 hgrow2))
                  have hlen2 : ([] ++ (R.map LostN.by).take z ++ [(⟨c.p, lt, lb⟩ : LostB)]).length = z + 1 := by rw [List.length_append, Hlen1.out]; rfl
                  have hrow3 := HN2.out.2
                  rw [hlen2] at hrow3
                  have Hrow3 := Lib.hid hrow3
                  have Hlen2 := Lib.hid hlen2
                  have hs10 := HN2.out.1.size
                  have hR10 := HRc.out.below HN2.out.1
                  obtain ⟨d0, d1, d2, d3, d4, d5, df⟩ := hR10.cells
                  clear hlen2 hrow3 d0 d1 d2 d3 d4 df Hit Hnew Hrow2
                  have hcells := HcW.out _ hR10
                  have hn3 : ∀ j u, (((R.map LostN.by).drop z).flatMap lostC)[j]? = some u → w10.cell? ((⟨gW, z * 3, none⟩ : Addr).add j) = some u := fun j u hu => by
                    rw [gadd_new]
                    rw [gflat_drop lostC_len, List.getElem?_drop] at hu
                    exact hcells _ u hu
                  have hl3 : (((R.map LostN.by).drop z).flatMap lostC).length = (nR - z) * 3 := by
                    rw [gflat_len lostC_len, List.length_drop, Hnl.out]
                  have Hn3 := Lib.hid hn3
                  have Hl3 := Lib.hid hl3
                  clear hn3 hl3 hcells
                  go_upto_region 19 with (first
                    | (at_builtin; refine wpList_append_own _ rfl _ _ 25 rfl wc.heap.size 36 iL _ 3 32 Try.underlying25 HiL.out HL0.out HL1.out HL2.out rfl (by decide) _ _ _ rfl Hrow3.out ⟨gW, z * 3, none⟩ (nR - z) (cW - z) (((R.map LostN.by).drop z).flatMap lostC) rfl Hl3.out Hn3.out (lostC_ones _) (by unfold maxLen; omega) (by omega) hs10 ?_
                       intro v3 w11 hown3 hgrow3 _
                       obtain ⟨o3, c3, rfl⟩ := row_formG hown3
                       have HN3 := Lib.hid (NX.app (ys := (R.map LostN.by).drop z) HN2.out (Below.refl _ _) (by rw [List.length_drop, Hnl.out]) (by rw [Hlen2.out]; exact hown3) hgrow3)
                       clear hown3 hgrow3))
                  obtain ⟨d0, d1, d2, d3, d4, d5, df⟩ := (HRc.out.below HN3.out.1).cells
                  have g5 := df 5
                  clear d0 d1 d2 d3 d4 df
                  have HR12 := Lib.hid (HRc.out.worst HN3.out)
                  go_wp2_with fail
                  go_roundw
                  case rel => exact ⟨i + 1, tot + br, le1, _, _, by go_num, by omega, HJ2, by rw [HI.out, ins_by, Hxb.out]; exact HR12⟩
                  case measure => simp [intOf]; omega
    · skip
      obtain rfl : i = m := by omega
      obtain ⟨oD, cD, hvD⟩ := row_formG HR.out.drow
      rw [← Hmm.out] at hvD
      subst hvD
      have hJn : LookJ D D.length tot le R := by have := HJ.out; rwa [Hmm.out] at this
      obtain ⟨hR, hT, hL⟩ := hJn.done
      obtain ⟨szs, hszd⟩ : ∃ y, y = LL.map sizeC := ⟨_, rfl⟩
      have hT2 := Ht.out
      rw [← hT] at hT2
      have hlt : le ≤ tot := by rw [hT, hL]; exact leastR_leR _
      have hszl : szs.length = n := by rw [hszd, List.length_map, Hnn.out]
      have hfl : flatC LL = D.map cwOf := by rw [HDd.out]; rfl
      have hsm : ∀ x ∈ szs, x ≤ 1048576 := fun x hx => by
        rw [hszd] at hx
        obtain ⟨L', hL', rfl⟩ := List.mem_map.1 hx
        obtain ⟨k', hk'⟩ := List.getElem?_of_mem hL'
        have h1 := sizes_le hk'
        rw [hfl, ← hT] at h1
        omega
      have h00 : n = 0 → tot = 0 := fun h => by
        have : LL = [] := List.eq_nil_of_length_eq_zero (by rw [← Hnn.out]; exact h)
        rw [hT, HDd.out, this]
        rfl
      have HTd := Lib.hid hT
      have HLd := Lib.hid hL
      have HRd := Lib.hid hR
      have Hszd := Lib.hid hszd
      have Hsz := Lib.hid hszl
      have Hsm := Lib.hid hsm
      obtain ⟨a0, a1, a2, a3, a4, a5, af⟩ := HR.out.cells
      have f2 := af 2
      have f3 := af 3
      have hfT := Fl.floatOfInt_nat tot
      have hfL := Fl.floatOfInt_nat le
      have hfi := Fl.floatOfInt_nat n
      clear hJn hszl hsm hT hL hR hszd hfl af Ht HJ Hch
      by_cases hi0 : n = 0
      · skip
        have HT0 := Lib.hid (h00 hi0)
        have Hi0 := Lib.hid hi0
        clear hi0 h00
        have hTi : ¬ (0 : Int) < (tot : Int) := by have := HT0.out; omega
        obtain ⟨sc, hsc0⟩ : ∃ y, y = flOne := ⟨_, rfl⟩
        rw [← hsc0] at HR
        go_upto_region 22 with fail
        have hs0 : tot = 0 → sc = flOne := fun _ => hsc0
        have hs1 : tot ≠ 0 → Fl.F.div (Fl.fl le) (Fl.fl tot) = some sc := fun h => absurd HT0.out h
        have Hs0 := Lib.hid hs0
        have Hs1 := Lib.hid hs1
        clear hsc0 hs0 hs1
        obtain ⟨me, hme, hrm⟩ := run_quo_nan (P := Try.prog) wr 24 (x := Fl.fl tot) (y := Fl.fl n) (by rw [HT0.out, Hi0.out, Fl.fl_zero]; exact div_zero_zero)
        have Hme := Lib.hid hme
        clear hme
        go_upto_region 24 with fail
        have hF11 := (HR.out.below (below_drew (Below.refl _ _))).put (j := 3) (v := .float .f64 me) (tot' := (tot : Int)) (le' := (le : Int)) (sc' := sc) (me' := me) (sp' := 0) (by simp [wasC])
        obtain ⟨w11, hw11⟩ : ∃ y, y = wr.drew.setCell ⟨b4, 3, none⟩ (.float .f64 me) := ⟨_, rfl⟩
        rw [← hw11] at hF11
        change Code.wp _ _ _ _ (wr.drew.setCell ⟨b4, 3, none⟩ (.float .f64 me))
        rw [← hw11]
        clear hw11 hrm a0 a1 a2 a3 a4 a5 f2 f3
        have HF11 := Lib.hid hF11
        clear hF11
        go_wp2_with fail
        go_loopw [12, 13] (fun sv jv wr => ∃ j : Nat, sv = .float .f64 (sumF me (szs.take j)) ∧ jv = .int .i64 (j : Int) ∧ j ≤ n ∧ Hid (RJ w wr b2 b4 (.slice oD i cD) D (tot : Int) (le : Int) sc me 0 vw (R.map LostN.by))) (fun _ jv _ => n - (intOf jv).toNat)
        case atStart => exact ⟨0, rfl, rfl, Nat.zero_le _, HF11⟩
        case round =>
          obtain ⟨j, rfl, rfl, hj, HRj⟩ := hrel
          obtain rfl : j = 0 := by have := Hi0.out; omega
          have hb20 : Fl.F.div 0 (Fl.fl n) = none := by rw [Hi0.out, Fl.fl_zero]; exact div_zero_zero
          obtain ⟨q, hq, hrq⟩ := run_quo_nan (P := Try.prog) wr 24 (x := 0) (y := Fl.fl n) hb20
          have hsum : sumF me (szs.take 0) = 0 := rfl
          rw [hsum]
          have hji : ¬ (0 : Int) < (n : Int) := by have := Hi0.out; omega
          have Hq := Lib.hid hq
          have hRd2 := (HRj.out.below (below_drew (Below.refl _ _))).below (below_drew (Below.refl _ _))
          obtain ⟨d0, d1, d2, d3, d4, d5, df⟩ := hRd2.cells
          have g4 := df 4
          clear hq hb20 hsum df hRd2
          go_upto_region 36 with (first
            | (go_at_call 24; refine (sqrt_nan Hq.out.sqrt _).mono ?_; rintro e w12 ⟨sp, hsp, rfl, rfl⟩; have Hsp := Lib.hid hsp; clear hsp))
          have hlv : LookV tot le szs sc me sp := ⟨Hs0.out, Hs1.out, fun _ => Hme.out, fun h => absurd (List.eq_nil_of_length_eq_zero (by rw [Hsz.out]; exact Hi0.out)) h, fun _ => Hsp.out, fun h => absurd (List.eq_nil_of_length_eq_zero (by rw [Hsz.out]; exact Hi0.out)) h⟩
          have hF13 := ((HRj.out.below (below_drew (Below.refl _ _))).below (below_drew (Below.refl _ _))).put (j := 4) (v := .float .f64 sp) (tot' := (tot : Int)) (le' := (le : Int)) (sc' := sc) (me' := me) (sp' := sp) (by simp [wasC])
          obtain ⟨w13, hw13⟩ : ∃ y, y = wr.drew.drew.setCell ⟨b4, 4, none⟩ (.float .f64 sp) := ⟨_, rfl⟩
          rw [← hw13] at hF13
          change Code.wp _ _ _ _ (wr.drew.drew.setCell ⟨b4, 4, none⟩ (.float .f64 sp))
          rw [← hw13]
          clear hw13
          have Hlv := Lib.hid hlv
          have Hvar := Lib.hid (show w13.heap[b4]? = some (.cells #[.int .i64 (tot : Int), .int .i64 (le : Int), .float .f64 sc, .float .f64 me, .float .f64 sp, vw] 27 (0, 0)) from hF13.var)
          have Hres := Lib.hid hF13.res
          have HF13 := Lib.hid hF13
          have Hone := Lib.hid (show (#[Value.int .i64 (tot : Int), .int .i64 (le : Int), .float .f64 sc, .float .f64 me, .float .f64 sp, vw] : Array Value).all (·.oneCell') = true by obtain ⟨o', c', rfl⟩ := row_formG hF13.wrow; simp [Value.oneCell'])
          clear hlv hF13 d0 d1 d2 d3 d4 d5 g4
          go_wp2_with (first
            | (refine wpList_load_row rfl _ _ rfl b4 rfl _ _ _ _ Hvar.out Try.underlying27 rfl (by kernel_rfl) ?_)
            | (refine wpList_store_row rfl _ _ _ rfl b2 #[.int .i64 (tot : Int), .int .i64 (le : Int), .float .f64 sc, .float .f64 me, .float .f64 sp, vw] rfl rfl 27 (wasC 0 0 0 0 0 (.slice none 0 0)) Hres.out (by kernel_rfl) rfl Hone.out ?_))
          have hrowF : (w13.setRow b2 #[.int .i64 (tot : Int), .int .i64 (le : Int), .float .f64 sc, .float .f64 me, .float .f64 sp, vw]).ownsRow w.heap.size 36 3 vw (worstR (D.map cwOf)).length (((worstR (D.map cwOf)).map LostN.by).flatMap lostC) := by
            rw [← HRd.out]
            have h1 := HF13.out.wrow
            rw [List.length_map] at h1
            exact row_setRowOther h1 Hres.out (by decide)
          refine bodyPost_ret_by (v := .agg #[.int .i64 (tot : Int), .int .i64 (le : Int), .float .f64 sc, .float .f64 me, .float .f64 sp, vw]) ?_ rfl ⟨vw, sc, me, sp, by rw [← HTd.out, ← HLd.out]; rfl, by rw [← HTd.out, ← HLd.out, ← Hszd.out]; exact Hlv.out, hrowF, below_setRow HF13.out.bel HF13.out.l2 _⟩
          exact results_cell_row rfl _ _ b2 _ _ _ _ rfl (grow_at Hres.out) Try.underlying27 rfl (by kernel_rfl)
      · by_cases hT0 : tot = 0
        · skip
          have HT0 := Lib.hid hT0
          clear hT0
          have hTi : ¬ (0 : Int) < (tot : Int) := by have := HT0.out; omega
          obtain ⟨sc, hsc0⟩ : ∃ y, y = flOne := ⟨_, rfl⟩
          rw [← hsc0] at HR
          go_upto_region 22 with fail
          have hs0 : tot = 0 → sc = flOne := fun _ => hsc0
          have hs1 : tot ≠ 0 → Fl.F.div (Fl.fl le) (Fl.fl tot) = some sc := fun h => absurd HT0.out h
          have Hs0 := Lib.hid hs0
          have Hs1 := Lib.hid hs1
          clear hsc0 hs0 hs1
          obtain ⟨me, hme, hme2⟩ := Fl.div_ok (Fl.fl_le tot) (Fl.fl_rv (n := n) (by omega)).2 (Fl.fl_pos hi0)
          have hrm := fun W => run_float_arith (P := Try.prog) W .quo 24 .f64 (Fl.fl tot) (Fl.fl n) me hme
          have Hme := Lib.hid hme
          have Hme2 := Lib.hid hme2
          clear hme hme2
          go_upto_region 24 with fail
          have hF11 := HR.out.put (j := 3) (v := .float .f64 me) (tot' := (tot : Int)) (le' := (le : Int)) (sc' := sc) (me' := me) (sp' := 0) (by simp [wasC])
          obtain ⟨w11, hw11⟩ : ∃ y, y = wr.setCell ⟨b4, 3, none⟩ (.float .f64 me) := ⟨_, rfl⟩
          rw [← hw11] at hF11
          change Code.wp _ _ _ _ (wr.setCell ⟨b4, 3, none⟩ (.float .f64 me))
          rw [← hw11]
          clear hw11 hrm a0 a1 a2 a3 a4 a5 f2 f3
          have HF11 := Lib.hid hF11
          clear hF11
          go_wp2_with fail
          go_loopw [12, 13] (fun sv jv wr => ∃ j : Nat, sv = .float .f64 (sumF me (szs.take j)) ∧ jv = .int .i64 (j : Int) ∧ j ≤ n ∧ Hid (RJ w wr b2 b4 (.slice oD i cD) D (tot : Int) (le : Int) sc me 0 vw (R.map LostN.by))) (fun _ jv _ => n - (intOf jv).toNat)
          case atStart => exact ⟨0, rfl, rfl, Nat.zero_le _, HF11⟩
          case round =>
            obtain ⟨j, rfl, rfl, hj, HRj⟩ := hrel
            by_cases hjn : j < n
            · obtain ⟨L, hL⟩ : ∃ L, LL[j]? = some L := ⟨_, List.getElem?_eq_getElem (by rw [← Hnn.out]; exact hjn)⟩
              obtain ⟨a, o2, c2, rfl, hab, hac0, hlc2, hcm2, hIt⟩ := Hd.out.get hL
              obtain ⟨mL, hmm2⟩ : ∃ y, y = L.length := ⟨_, rfl⟩
              have hm1 : mL ≤ 1048576 := by
                obtain ⟨R', hR'⟩ := flatC_split hL
                have h1 : (flatC LL).length = i := by rw [Hmm.out, HDd.out]; unfold flatC; rw [List.length_map]
                rw [hR'] at h1
                simp at h1
                omega
              rw [← hmm2] at hac0 hlc2
              have hac := (HRj.out.bel.cell (p := a.add j) (by rw [gadd_block]; exact hab)).trans hac0
              have up : ∀ W, Below w.heap.size w W → W.cell? (a.add j) = some (.slice o2 mL c2) := fun W hW => (hW.cell (p := a.add j) (by rw [gadd_block]; exact hab)).trans hac0
              have hsz : ∀ k, sizeC (L.take k) ≤ 1048576 := fun k => by
                have h1 := sizes_le hL
                have h2 : sizeC (L.take k) ≤ sizeC L := totalR_take L k
                have h3 : totalR (flatC LL) = tot := by rw [HTd.out, HDd.out]; rfl
                omega
              have Hup := Lib.hid up
              have HIt := Lib.hid hIt
              have Hml := Lib.hid hmm2
              have HL := Lib.hid hL
              have Hsk := Lib.hid hsz
              have hjnI : (j : Int) < (n : Int) := by omega
              clear hIt hmm2 hL hac0 up hsz
              obtain ⟨sj, hsj⟩ : ∃ y, y = sumF me (szs.take j) := ⟨_, rfl⟩
              rw [← hsj]
              have Hsj := Lib.hid hsj
              clear hsj
              go_wp2_with fail
              go_loopw [14, 15] (fun xv kv wr => ∃ k : Nat, xv = .int .i64 (sizeC (L.take k) : Int) ∧ kv = .int .i64 (k : Int) ∧ k ≤ mL ∧ Hid (RJ w wr b2 b4 (.slice oD i cD) D (tot : Int) (le : Int) sc me 0 vw (R.map LostN.by))) (fun _ kv _ => mL - (intOf kv).toNat)
              case atStart => exact ⟨0, rfl, rfl, Nat.zero_le _, HRj⟩
              case round =>
                obtain ⟨k, rfl, rfl, hk, HRk⟩ := hrel
                have hac := Hup.out _ HRk.out.bel
                by_cases hkm : k < mL
                · obtain ⟨c, hc⟩ : ∃ c, L[k]? = some c := ⟨_, List.getElem?_eq_getElem (by rw [← Hml.out]; exact hkm)⟩
                  obtain ⟨a4, rfl, ha4, hcs⟩ := HIt.out.get hc
                  have hcy : ∀ j x, ([.string c.p, .bool c.g, .string c.ep, .int .i64 c.k, .int .i64 c.m, .string c.d, .string c.l] : List Value)[j]? = some x → wr.cell? ((a4.add (k * 7)).add j) = some x := fun j x hj =>
                    (HRk.out.bel.cell (p := (a4.add (k * 7)).add j) (by rw [gadd_block, gadd_block]; exact ha4)).trans (hcs j x hj)
                  have hst : sizeC (L.take (k + 1)) = sizeC (L.take k) + bringsF (cwOf c) := by
                    have e : totalR [cwOf c] = bringsF (cwOf c) := by unfold totalR; simp
                    unfold sizeC
                    rw [← gtake hc, List.map_append, List.map_singleton, totalR_append, e]
                  have hsz1 := Hsk.out (k + 1)
                  rw [hst] at hsz1
                  have hbr := fun W => rbrings_any c W
                  obtain ⟨br, hbrd⟩ : ∃ y, y = bringsF (cwOf c) := ⟨_, rfl⟩
                  obtain ⟨sk, hskd⟩ : ∃ y, y = sizeC (L.take k) := ⟨_, rfl⟩
                  rw [← hbrd] at hbr hst hsz1
                  rw [← hskd] at hst hsz1 ⊢
                  have Hst := Lib.hid hst
                  have Hbr := Lib.hid hbr
                  have Hcy := Lib.hid hcy
                  clear hst hbr hcy hcs hc hbrd hskd
                  go_wp2_with (first
                    | (refine wpList_load_items rfl _ _ rfl (a4.add (k * 7)) rfl [.string c.p, .bool c.g, .string c.ep, .int .i64 c.k, .int .i64 c.m, .string c.d, .string c.l] _ Hcy.out Try.underlying43 rfl (by kernel_rfl) ?_)
                    | (go_at_call 20; refine (Hbr.out _).mono ?_; rintro r w3 ⟨rfl, hb3⟩
                       have HR3 := Lib.hid (HRk.out.below hb3)
                       clear hb3))
                  go_roundw
                  case rel => exact ⟨k + 1, by rw [Hst.out]; simp, by go_num, by omega, HR3⟩
                  case measure => simp [intOf]; omega
                · obtain rfl : k = mL := by omega
                  have hLk : L.take k = L := by rw [Hml.out, List.take_length]
                  rw [hLk]
                  have hx : szs[j]? = some (sizeC L) := by rw [Hszd.out, List.getElem?_map, HL.out]; rfl
                  obtain ⟨x, hxd⟩ : ∃ y, y = sizeC L := ⟨_, rfl⟩
                  rw [← hxd] at hx ⊢
                  have hxs : x ≤ 1048576 := Hsm.out x (List.mem_of_getElem? hx)
                  have hsle : sumF me (szs.take j) ≤ Fl.INF := sumF_le Hme2.out _ fun y hy => by have := Hsm.out y (List.mem_of_mem_take hy); omega
                  obtain ⟨s1, s2, s3, _⟩ := step_ok Hme2.out (by omega : x < 9007199254740992) hsle
                  have r1 := fun W => run_float_arith (P := Try.prog) W .sub 24 .f64 (Fl.fl x) me _ s1
                  have r2 := fun W => run_float_arith (P := Try.prog) W .mul 24 .f64 (dF me x) (dF me x) _ s2
                  have r3 := fun W => run_float_arith (P := Try.prog) W .add 24 .f64 (sumF me (szs.take j)) (qF me x) _ s3
                  have hstep : sumStep me (sumF me (szs.take j)) x = sumF me (szs.take (j + 1)) := by rw [← gtake hx, sumF_snoc]
                  rw [hstep] at r3
                  rw [← Hsj.out] at r3
                  have hfx := Fl.floatOfInt_nat x
                  obtain ⟨d0, d1, d2, d3, d4, d5, df⟩ := HRk.out.cells
                  clear s1 s2 s3 hx hstep hsle hxs hLk hxd df d0 d1 d2 d4 d5
                  obtain ⟨sn, hsn⟩ : ∃ y, y = sumF me (szs.take (j + 1)) := ⟨_, rfl⟩
                  rw [← hsn] at r3
                  have Hsn := Lib.hid hsn
                  clear hsn
                  go_wp2_with fail
                  go_roundw
                  case rel => exact ⟨j + 1, by rw [Hsn.out], by go_num, by omega, HRk⟩
                  case measure => simp [intOf]; omega
            · obtain rfl : j = n := by omega
              have htk : szs.take j = szs := by rw [← Hsz.out, List.take_length]
              rw [htk]
              have hsle : sumF me szs ≤ Fl.INF := sumF_le Hme2.out _ fun y hy => by have := Hsm.out y hy; omega
              obtain ⟨q, hq, hq2⟩ := Fl.div_ok hsle (Fl.fl_rv (n := j) (by omega)).2 (Fl.fl_pos hi0)
              obtain ⟨sp, hsp, _⟩ := Fl.sqrt_ok hq2
              obtain ⟨sm, hsmd⟩ : ∃ y, y = sumF me szs := ⟨_, rfl⟩
              rw [← hsmd] at hq ⊢
              have hrq := fun W => run_float_arith (P := Try.prog) W .quo 24 .f64 sm (Fl.fl j) q hq
              have Hq := Lib.hid hq
              have Hsp := Lib.hid hsp
              have Hsmm := Lib.hid hsmd
              have hjii : ¬ (j : Int) < (j : Int) := by omega
              obtain ⟨d0, d1, d2, d3, d4, d5, df⟩ := HRj.out.cells
              have g4 := df 4
              clear hq hq2 hsp hsmd hsle htk df
              go_upto_region 36 with (first
                | (go_at_call 24; refine (sqrt_some Hsp.out _).mono ?_; rintro e w12 ⟨rfl, rfl⟩))
              have hlv : LookV tot le szs sc me sp := ⟨Hs0.out, Hs1.out, fun h => absurd (by rw [← Hsz.out, h]; rfl) hi0, fun _ => by rw [Hsz.out]; exact Hme.out, fun h => absurd (by rw [← Hsz.out, h]; rfl) hi0, fun _ => ⟨q, by rw [Hsz.out, ← Hsmm.out]; exact Hq.out, Hsp.out⟩⟩
              have hF13 := HRj.out.put (j := 4) (v := .float .f64 sp) (tot' := (tot : Int)) (le' := (le : Int)) (sc' := sc) (me' := me) (sp' := sp) (by simp [wasC])
              obtain ⟨w13, hw13⟩ : ∃ y, y = wr.setCell ⟨b4, 4, none⟩ (.float .f64 sp) := ⟨_, rfl⟩
              rw [← hw13] at hF13
              change Code.wp _ _ _ _ (wr.setCell ⟨b4, 4, none⟩ (.float .f64 sp))
              rw [← hw13]
              clear hw13
              have Hlv := Lib.hid hlv
              have Hvar := Lib.hid (show w13.heap[b4]? = some (.cells #[.int .i64 (tot : Int), .int .i64 (le : Int), .float .f64 sc, .float .f64 me, .float .f64 sp, vw] 27 (0, 0)) from hF13.var)
              have Hres := Lib.hid hF13.res
              have HF13 := Lib.hid hF13
              have Hone := Lib.hid (show (#[Value.int .i64 (tot : Int), .int .i64 (le : Int), .float .f64 sc, .float .f64 me, .float .f64 sp, vw] : Array Value).all (·.oneCell') = true by obtain ⟨o', c', rfl⟩ := row_formG hF13.wrow; simp [Value.oneCell'])
              clear hlv hF13 d0 d1 d2 d3 d4 d5 g4
              go_wp2_with (first
                | (refine wpList_load_row rfl _ _ rfl b4 rfl _ _ _ _ Hvar.out Try.underlying27 rfl (by kernel_rfl) ?_)
                | (refine wpList_store_row rfl _ _ _ rfl b2 #[.int .i64 (tot : Int), .int .i64 (le : Int), .float .f64 sc, .float .f64 me, .float .f64 sp, vw] rfl rfl 27 (wasC 0 0 0 0 0 (.slice none 0 0)) Hres.out (by kernel_rfl) rfl Hone.out ?_))
              have hrowF : (w13.setRow b2 #[.int .i64 (tot : Int), .int .i64 (le : Int), .float .f64 sc, .float .f64 me, .float .f64 sp, vw]).ownsRow w.heap.size 36 3 vw (worstR (D.map cwOf)).length (((worstR (D.map cwOf)).map LostN.by).flatMap lostC) := by
                rw [← HRd.out]
                have h1 := HF13.out.wrow
                rw [List.length_map] at h1
                exact row_setRowOther h1 Hres.out (by decide)
              refine bodyPost_ret_by (v := .agg #[.int .i64 (tot : Int), .int .i64 (le : Int), .float .f64 sc, .float .f64 me, .float .f64 sp, vw]) ?_ rfl ⟨vw, sc, me, sp, by rw [← HTd.out, ← HLd.out]; rfl, by rw [← HTd.out, ← HLd.out, ← Hszd.out]; exact Hlv.out, hrowF, below_setRow HF13.out.bel HF13.out.l2 _⟩
              exact results_cell_row rfl _ _ b2 _ _ _ _ rfl (grow_at Hres.out) Try.underlying27 rfl (by kernel_rfl)
        · skip
          obtain ⟨sc, hsc, hsc2⟩ := Fl.div_ok (Fl.fl_le le) (Fl.fl_rv (n := tot) (by omega)).2 (Fl.fl_pos hT0)
          have hrq := fun W => run_float_arith (P := Try.prog) W .quo 24 .f64 (Fl.fl le) (Fl.fl tot) sc hsc
          have Hsc := Lib.hid hsc
          have hTi : (0 : Int) < (tot : Int) := by omega
          clear hsc hsc2
          go_upto_region 22 with fail
          try rw [show decide (0 < tot) = true from decide_eq_true (by omega)]
          try rw [show decide ((0 : Int) < (tot : Int)) = true from decide_eq_true (by omega)]
          have hF10 := HR.out.put (j := 2) (v := .float .f64 sc) (tot' := (tot : Int)) (le' := (le : Int)) (sc' := sc) (me' := 0) (sp' := 0) (by simp [wasC])
          obtain ⟨w10, hw10⟩ : ∃ y, y = wr.setCell ⟨b4, 2, none⟩ (.float .f64 sc) := ⟨_, rfl⟩
          rw [← hw10] at hF10
          change Code.wp _ _ _ _ (wr.setCell ⟨b4, 2, none⟩ (.float .f64 sc))
          rw [← hw10]
          clear hw10 hrq a0 a1 a2 a3 a4 a5 f2 f3
          have HF10 := Lib.hid hF10
          clear hF10
          obtain ⟨a0, a1, a2, a3, a4, a5, af⟩ := HF10.out.cells
          have f2 := af 2
          have f3 := af 3
          have hs0 : tot = 0 → sc = flOne := fun h => absurd h hT0
          have hs1 : tot ≠ 0 → Fl.F.div (Fl.fl le) (Fl.fl tot) = some sc := fun _ => Hsc.out
          have Hs0 := Lib.hid hs0
          have Hs1 := Lib.hid hs1
          clear hs0 hs1 hTi af
          obtain ⟨me, hme, hme2⟩ := Fl.div_ok (Fl.fl_le tot) (Fl.fl_rv (n := n) (by omega)).2 (Fl.fl_pos hi0)
          have hrm := fun W => run_float_arith (P := Try.prog) W .quo 24 .f64 (Fl.fl tot) (Fl.fl n) me hme
          have Hme := Lib.hid hme
          have Hme2 := Lib.hid hme2
          clear hme hme2
          go_upto_region 24 with fail
          have hF11 := HF10.out.put (j := 3) (v := .float .f64 me) (tot' := (tot : Int)) (le' := (le : Int)) (sc' := sc) (me' := me) (sp' := 0) (by simp [wasC])
          obtain ⟨w11, hw11⟩ : ∃ y, y = w10.setCell ⟨b4, 3, none⟩ (.float .f64 me) := ⟨_, rfl⟩
          rw [← hw11] at hF11
          change Code.wp _ _ _ _ (w10.setCell ⟨b4, 3, none⟩ (.float .f64 me))
          rw [← hw11]
          clear hw11 hrm a0 a1 a2 a3 a4 a5 f2 f3
          have HF11 := Lib.hid hF11
          clear hF11
          go_wp2_with fail
          go_loopw [12, 13] (fun sv jv wr => ∃ j : Nat, sv = .float .f64 (sumF me (szs.take j)) ∧ jv = .int .i64 (j : Int) ∧ j ≤ n ∧ Hid (RJ w wr b2 b4 (.slice oD i cD) D (tot : Int) (le : Int) sc me 0 vw (R.map LostN.by))) (fun _ jv _ => n - (intOf jv).toNat)
          case atStart => exact ⟨0, rfl, rfl, Nat.zero_le _, HF11⟩
          case round =>
            obtain ⟨j, rfl, rfl, hj, HRj⟩ := hrel
            by_cases hjn : j < n
            · obtain ⟨L, hL⟩ : ∃ L, LL[j]? = some L := ⟨_, List.getElem?_eq_getElem (by rw [← Hnn.out]; exact hjn)⟩
              obtain ⟨a, o2, c2, rfl, hab, hac0, hlc2, hcm2, hIt⟩ := Hd.out.get hL
              obtain ⟨mL, hmm2⟩ : ∃ y, y = L.length := ⟨_, rfl⟩
              have hm1 : mL ≤ 1048576 := by
                obtain ⟨R', hR'⟩ := flatC_split hL
                have h1 : (flatC LL).length = i := by rw [Hmm.out, HDd.out]; unfold flatC; rw [List.length_map]
                rw [hR'] at h1
                simp at h1
                omega
              rw [← hmm2] at hac0 hlc2
              have hac := (HRj.out.bel.cell (p := a.add j) (by rw [gadd_block]; exact hab)).trans hac0
              have up : ∀ W, Below w.heap.size w W → W.cell? (a.add j) = some (.slice o2 mL c2) := fun W hW => (hW.cell (p := a.add j) (by rw [gadd_block]; exact hab)).trans hac0
              have hsz : ∀ k, sizeC (L.take k) ≤ 1048576 := fun k => by
                have h1 := sizes_le hL
                have h2 : sizeC (L.take k) ≤ sizeC L := totalR_take L k
                have h3 : totalR (flatC LL) = tot := by rw [HTd.out, HDd.out]; rfl
                omega
              have Hup := Lib.hid up
              have HIt := Lib.hid hIt
              have Hml := Lib.hid hmm2
              have HL := Lib.hid hL
              have Hsk := Lib.hid hsz
              have hjnI : (j : Int) < (n : Int) := by omega
              clear hIt hmm2 hL hac0 up hsz
              obtain ⟨sj, hsj⟩ : ∃ y, y = sumF me (szs.take j) := ⟨_, rfl⟩
              rw [← hsj]
              have Hsj := Lib.hid hsj
              clear hsj
              go_wp2_with fail
              go_loopw [14, 15] (fun xv kv wr => ∃ k : Nat, xv = .int .i64 (sizeC (L.take k) : Int) ∧ kv = .int .i64 (k : Int) ∧ k ≤ mL ∧ Hid (RJ w wr b2 b4 (.slice oD i cD) D (tot : Int) (le : Int) sc me 0 vw (R.map LostN.by))) (fun _ kv _ => mL - (intOf kv).toNat)
              case atStart => exact ⟨0, rfl, rfl, Nat.zero_le _, HRj⟩
              case round =>
                obtain ⟨k, rfl, rfl, hk, HRk⟩ := hrel
                have hac := Hup.out _ HRk.out.bel
                by_cases hkm : k < mL
                · obtain ⟨c, hc⟩ : ∃ c, L[k]? = some c := ⟨_, List.getElem?_eq_getElem (by rw [← Hml.out]; exact hkm)⟩
                  obtain ⟨a4, rfl, ha4, hcs⟩ := HIt.out.get hc
                  have hcy : ∀ j x, ([.string c.p, .bool c.g, .string c.ep, .int .i64 c.k, .int .i64 c.m, .string c.d, .string c.l] : List Value)[j]? = some x → wr.cell? ((a4.add (k * 7)).add j) = some x := fun j x hj =>
                    (HRk.out.bel.cell (p := (a4.add (k * 7)).add j) (by rw [gadd_block, gadd_block]; exact ha4)).trans (hcs j x hj)
                  have hst : sizeC (L.take (k + 1)) = sizeC (L.take k) + bringsF (cwOf c) := by
                    have e : totalR [cwOf c] = bringsF (cwOf c) := by unfold totalR; simp
                    unfold sizeC
                    rw [← gtake hc, List.map_append, List.map_singleton, totalR_append, e]
                  have hsz1 := Hsk.out (k + 1)
                  rw [hst] at hsz1
                  have hbr := fun W => rbrings_any c W
                  obtain ⟨br, hbrd⟩ : ∃ y, y = bringsF (cwOf c) := ⟨_, rfl⟩
                  obtain ⟨sk, hskd⟩ : ∃ y, y = sizeC (L.take k) := ⟨_, rfl⟩
                  rw [← hbrd] at hbr hst hsz1
                  rw [← hskd] at hst hsz1 ⊢
                  have Hst := Lib.hid hst
                  have Hbr := Lib.hid hbr
                  have Hcy := Lib.hid hcy
                  clear hst hbr hcy hcs hc hbrd hskd
                  go_wp2_with (first
                    | (refine wpList_load_items rfl _ _ rfl (a4.add (k * 7)) rfl [.string c.p, .bool c.g, .string c.ep, .int .i64 c.k, .int .i64 c.m, .string c.d, .string c.l] _ Hcy.out Try.underlying43 rfl (by kernel_rfl) ?_)
                    | (go_at_call 20; refine (Hbr.out _).mono ?_; rintro r w3 ⟨rfl, hb3⟩
                       have HR3 := Lib.hid (HRk.out.below hb3)
                       clear hb3))
                  go_roundw
                  case rel => exact ⟨k + 1, by rw [Hst.out]; simp, by go_num, by omega, HR3⟩
                  case measure => simp [intOf]; omega
                · obtain rfl : k = mL := by omega
                  have hLk : L.take k = L := by rw [Hml.out, List.take_length]
                  rw [hLk]
                  have hx : szs[j]? = some (sizeC L) := by rw [Hszd.out, List.getElem?_map, HL.out]; rfl
                  obtain ⟨x, hxd⟩ : ∃ y, y = sizeC L := ⟨_, rfl⟩
                  rw [← hxd] at hx ⊢
                  have hxs : x ≤ 1048576 := Hsm.out x (List.mem_of_getElem? hx)
                  have hsle : sumF me (szs.take j) ≤ Fl.INF := sumF_le Hme2.out _ fun y hy => by have := Hsm.out y (List.mem_of_mem_take hy); omega
                  obtain ⟨s1, s2, s3, _⟩ := step_ok Hme2.out (by omega : x < 9007199254740992) hsle
                  have r1 := fun W => run_float_arith (P := Try.prog) W .sub 24 .f64 (Fl.fl x) me _ s1
                  have r2 := fun W => run_float_arith (P := Try.prog) W .mul 24 .f64 (dF me x) (dF me x) _ s2
                  have r3 := fun W => run_float_arith (P := Try.prog) W .add 24 .f64 (sumF me (szs.take j)) (qF me x) _ s3
                  have hstep : sumStep me (sumF me (szs.take j)) x = sumF me (szs.take (j + 1)) := by rw [← gtake hx, sumF_snoc]
                  rw [hstep] at r3
                  rw [← Hsj.out] at r3
                  have hfx := Fl.floatOfInt_nat x
                  obtain ⟨d0, d1, d2, d3, d4, d5, df⟩ := HRk.out.cells
                  clear s1 s2 s3 hx hstep hsle hxs hLk hxd df d0 d1 d2 d4 d5
                  obtain ⟨sn, hsn⟩ : ∃ y, y = sumF me (szs.take (j + 1)) := ⟨_, rfl⟩
                  rw [← hsn] at r3
                  have Hsn := Lib.hid hsn
                  clear hsn
                  go_wp2_with fail
                  go_roundw
                  case rel => exact ⟨j + 1, by rw [Hsn.out], by go_num, by omega, HRk⟩
                  case measure => simp [intOf]; omega
            · obtain rfl : j = n := by omega
              have htk : szs.take j = szs := by rw [← Hsz.out, List.take_length]
              rw [htk]
              have hsle : sumF me szs ≤ Fl.INF := sumF_le Hme2.out _ fun y hy => by have := Hsm.out y hy; omega
              obtain ⟨q, hq, hq2⟩ := Fl.div_ok hsle (Fl.fl_rv (n := j) (by omega)).2 (Fl.fl_pos hi0)
              obtain ⟨sp, hsp, _⟩ := Fl.sqrt_ok hq2
              obtain ⟨sm, hsmd⟩ : ∃ y, y = sumF me szs := ⟨_, rfl⟩
              rw [← hsmd] at hq ⊢
              have hrq := fun W => run_float_arith (P := Try.prog) W .quo 24 .f64 sm (Fl.fl j) q hq
              have Hq := Lib.hid hq
              have Hsp := Lib.hid hsp
              have Hsmm := Lib.hid hsmd
              have hjii : ¬ (j : Int) < (j : Int) := by omega
              obtain ⟨d0, d1, d2, d3, d4, d5, df⟩ := HRj.out.cells
              have g4 := df 4
              clear hq hq2 hsp hsmd hsle htk df
              go_upto_region 36 with (first
                | (go_at_call 24; refine (sqrt_some Hsp.out _).mono ?_; rintro e w12 ⟨rfl, rfl⟩))
              have hlv : LookV tot le szs sc me sp := ⟨Hs0.out, Hs1.out, fun h => absurd (by rw [← Hsz.out, h]; rfl) hi0, fun _ => by rw [Hsz.out]; exact Hme.out, fun h => absurd (by rw [← Hsz.out, h]; rfl) hi0, fun _ => ⟨q, by rw [Hsz.out, ← Hsmm.out]; exact Hq.out, Hsp.out⟩⟩
              have hF13 := HRj.out.put (j := 4) (v := .float .f64 sp) (tot' := (tot : Int)) (le' := (le : Int)) (sc' := sc) (me' := me) (sp' := sp) (by simp [wasC])
              obtain ⟨w13, hw13⟩ : ∃ y, y = wr.setCell ⟨b4, 4, none⟩ (.float .f64 sp) := ⟨_, rfl⟩
              rw [← hw13] at hF13
              change Code.wp _ _ _ _ (wr.setCell ⟨b4, 4, none⟩ (.float .f64 sp))
              rw [← hw13]
              clear hw13
              have Hlv := Lib.hid hlv
              have Hvar := Lib.hid (show w13.heap[b4]? = some (.cells #[.int .i64 (tot : Int), .int .i64 (le : Int), .float .f64 sc, .float .f64 me, .float .f64 sp, vw] 27 (0, 0)) from hF13.var)
              have Hres := Lib.hid hF13.res
              have HF13 := Lib.hid hF13
              have Hone := Lib.hid (show (#[Value.int .i64 (tot : Int), .int .i64 (le : Int), .float .f64 sc, .float .f64 me, .float .f64 sp, vw] : Array Value).all (·.oneCell') = true by obtain ⟨o', c', rfl⟩ := row_formG hF13.wrow; simp [Value.oneCell'])
              clear hlv hF13 d0 d1 d2 d3 d4 d5 g4
              go_wp2_with (first
                | (refine wpList_load_row rfl _ _ rfl b4 rfl _ _ _ _ Hvar.out Try.underlying27 rfl (by kernel_rfl) ?_)
                | (refine wpList_store_row rfl _ _ _ rfl b2 #[.int .i64 (tot : Int), .int .i64 (le : Int), .float .f64 sc, .float .f64 me, .float .f64 sp, vw] rfl rfl 27 (wasC 0 0 0 0 0 (.slice none 0 0)) Hres.out (by kernel_rfl) rfl Hone.out ?_))
              have hrowF : (w13.setRow b2 #[.int .i64 (tot : Int), .int .i64 (le : Int), .float .f64 sc, .float .f64 me, .float .f64 sp, vw]).ownsRow w.heap.size 36 3 vw (worstR (D.map cwOf)).length (((worstR (D.map cwOf)).map LostN.by).flatMap lostC) := by
                rw [← HRd.out]
                have h1 := HF13.out.wrow
                rw [List.length_map] at h1
                exact row_setRowOther h1 Hres.out (by decide)
              refine bodyPost_ret_by (v := .agg #[.int .i64 (tot : Int), .int .i64 (le : Int), .float .f64 sc, .float .f64 me, .float .f64 sp, vw]) ?_ rfl ⟨vw, sc, me, sp, by rw [← HTd.out, ← HLd.out]; rfl, by rw [← HTd.out, ← HLd.out, ← Hszd.out]; exact Hlv.out, hrowF, below_setRow HF13.out.bel HF13.out.l2 _⟩
              exact results_cell_row rfl _ _ b2 _ _ _ _ rfl (grow_at Hres.out) Try.underlying27 rfl (by kernel_rfl)
end Go.Proofs.Ytebniijkhjnbdaa
