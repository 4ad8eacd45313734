/- Joined: what these texts prove stands at the head of each part: ERef, ELaid, EDone, EApply, EBack. -/
import Derived.Test.YtipfccfjniglbaaGreatDoorJRef
import Derived.Test.YtipfccfjniglbaaGreatDoorJPlain
set_option linter.unusedSimpArgs false
set_option linter.unusedVariables false
namespace Go.Proofs.YtipfccfjniglbaaGreatDoor
section
open Go.RowKit Go.Maps Go.Shelf Go.Sort
open Go.Lib hiding intOf size_eq
theorem filt_step {f : Ent → Bool} {L : List Ent} {k : Nat} {e : Ent} (h : L[k]? = some e) : (L.take (k + 1)).filter f = (L.take k).filter f ++ (if f e = true then [e] else []) := by
  rw [gtakeS h, List.filter_append]
  by_cases hf : f e = true
  · rw [if_pos hf, List.filter_cons_of_pos hf]; rfl
  · rw [if_neg hf, List.filter_cons_of_neg hf]; rfl
theorem flat_oneE (P : List Ent) (e : Ent) : (P ++ [e]).flatMap entC = P.flatMap entC ++ entC e := by rw [List.flatMap_append, List.flatMap_singleton]
set_option maxRecDepth 100000 in
set_option maxHeartbeats 8000000 in
theorem without07_any (v : Value) (L : List Ent) (p : ByteArray) (w : World) (h : EntsAt w v L) (hl : L.length ≤ 4294967296) (hb : ∀ e ∈ L, e.p.size < 1152921504606846976) (hp : p.size < 1152921504606846976) :
    Calls Tryz.prog 74 #[v, .string p] w fun r w' => ∃ v', r = .returned v' ∧ RowE w' w.heap.size v' (withoutL L p.data.toList) ∧ Below w.heap.size w w' := by
  obtain ⟨i0, hi, hz0, hz1, hz2⟩ := info_parts Tryz.infoEntry
  have hE := h
  obtain ⟨o, cap, rfl, hlc, hcm, hcells⟩ := h
  obtain ⟨n, hn⟩ : ∃ n, n = L.length := ⟨_, rfl⟩
  rw [← hn] at hlc hl hE ⊢
  have Hi := Lib.hid hi
  have Hz0 := Lib.hid hz0
  have Hz1 := Lib.hid hz1
  have Hz2 := Lib.hid hz2
  have HE := Lib.hid hE
  have Hn := Lib.hid hn
  have Hb := Lib.hid hb
  clear hi hz0 hz1 hz2 hE hn hb hcells
  go_enter Tryz.func74, Tryz.ntmps74
  go_wp2_with fail
  go_loopw [5, 6] (fun ov iv wr => ∃ (k : Nat), iv = .int .i64 (k : Int) ∧ k ≤ n ∧ RowE wr w.heap.size ov ((L.take k).filter (keepE p.data.toList)) ∧ Below w.heap.size w wr) (fun _ iv _ => n - (intOf iv).toNat)
  case atStart => exact ⟨0, rfl, Nat.zero_le _, World.ownsRow_nil _ _ _ _, Below.refl _ _⟩
  case round =>
    obtain ⟨k, rfl, hk, hrow, hbr⟩ := hrel
    have hbs := hbr.size
    obtain ⟨P, hP⟩ : ∃ P, P = (L.take k).filter (keepE p.data.toList) := ⟨_, rfl⟩
    have hpl : P.length ≤ k := by rw [hP]; exact Nat.le_trans (List.length_filter_le _ _) (by rw [List.length_take]; omega)
    rw [← hP] at hrow
    have Hrow := Lib.hid hrow
    have Hbr := Lib.hid hbr
    by_cases hlt : k < n
    · obtain ⟨e, hek⟩ : ∃ e, L[k]? = some e := ⟨_, List.getElem?_eq_getElem (by rw [← Hn.out]; exact hlt)⟩
      have hes := Hb.out e (List.mem_of_getElem? hek)
      obtain ⟨a, rfl, hca⟩ := ent_cells_at (HE.out.below hbr (Nat.le_refl _)) hek
      have c0 := hca 0 _ rfl
      rw [show (a.add (k * 5)).add 0 = a.add (k * 5) from if_pos rfl] at c0
      have hst := filt_step (f := keepE p.data.toList) hek
      rw [← hP] at hst
      have hbel := fun W => rbelow_any p e.p W hp hes
      obtain ⟨q, hq⟩ : ∃ q, belowP p.data.toList e.p.data.toList = q := ⟨_, rfl⟩
      simp only [hq] at hbel
      have hke : keepE p.data.toList e = (!(e.p.toList == p.toList) && !q) := by unfold keepE; rw [toList_data, toList_data, ← hq]; rfl
      obtain ⟨z, hz⟩ : ∃ z, (e.p.toList == p.toList) = z := ⟨_, rfl⟩
      rw [hz] at hke
      have Hca := Lib.hid hca
      have Hst := Lib.hid hst
      have Hke := Lib.hid hke
      have Hbel := Lib.hid hbel
      have hpl2 : P.length < 8589934592 := by omega
      obtain ⟨pl, hplen⟩ : ∃ z, z = P.length := ⟨_, rfl⟩
      have Hpl := Lib.hid hplen
      rw [← hplen] at hpl hpl2
      have Hrow2 := Lib.hid (show wr.ownsRow w.heap.size 52 5 u5 pl (P.flatMap entC) by rw [hplen]; exact hrow)
      clear hca hst hke hbel hek hrow hbr hP hq hplen Hrow
      cases z with
      | true =>
        go_wp2_with fail
        go_roundw
        case rel => exact ⟨k + 1, by go_num, by omega, by rw [Hst.out, Hke.out, if_neg (by cases q <;> decide), List.append_nil]; unfold RowE; rw [← Hpl.out]; exact Hrow2.out, Hbr.out⟩
        case measure => simp [intOf]; omega
      | false =>
        cases q with
        | true =>
          go_wp2_with (go_at_call 98; refine (Hbel.out _).mono ?_; rintro r w1 ⟨rfl, rfl⟩)
          go_roundw
          case rel => exact ⟨k + 1, by go_num, by omega, by rw [Hst.out, Hke.out, if_neg (by decide), List.append_nil]; unfold RowE; rw [← Hpl.out]; exact Hrow2.out, Hbr.out⟩
          case measure => simp [intOf]; omega
        | false =>
          go_wp2_with (first
            | (go_at_call 98; refine (Hbel.out _).mono ?_; rintro r w1 ⟨rfl, hw1⟩; subst hw1)
            | (refine wpList_load_items rfl _ _ rfl (a.add (k * 5)) rfl [.string e.p, .int .i64 e.k, .int .i64 e.m, .string e.d, .string e.l] _ Hca.out Tryz.underlying52 rfl (by kernel_rfl) ?_)
            | (at_builtin; go_loud (refine wpList_append_own _ rfl _ _ 22 rfl w.heap.size 52 i0 _ 5 64 Tryz.underlying22 Hi.out Hz0.out Hz1.out Hz2.out rfl (by decide) _ _ _ rfl (Hrow2.out.alloc _) ⟨wr.heap.size, 0, none⟩ 1 1 (entC e) rfl rfl (item_cells (cs := entC e) (World.alloc_heap_new wr _)) (by simp [entC, Value.oneCell']) (by unfold maxLen; omega) (by omega) (by rw [World.size_alloc]; omega) ?_); intro v2 w2 hown hgr _))
          go_roundw
          case rel =>
            refine ⟨k + 1, by go_num, by omega, ?_, (Hbr.out.alloc (by omega) _).grown hgr (by rw [World.size_alloc]; omega) (fun k e => (World.ownsRow.lt Hrow2.out k e).1)⟩
            rw [Hst.out, Hke.out, if_pos (by decide)]
            unfold RowE
            rw [flat_oneE, List.length_append, List.length_singleton, ← Hpl.out]
            exact hown
          case measure => simp [intOf]; omega
    · obtain rfl : k = n := by omega
      have hfin : P = withoutL L p.data.toList := by rw [hP, Hn.out, List.take_length]; rfl
      rw [hfin] at Hrow
      clear hrow hP hfin hpl
      go_wp2_with fail
      go_ret
      exact ⟨_, rfl, Hrow.out, Hbr.out⟩
end
end Go.Proofs.YtipfccfjniglbaaGreatDoor
namespace Go.Proofs.YtipfccfjniglbaaGreatDoor
section
open Go.RowKit Go.Maps Go.Shelf Go.Sort
open Go.Lib hiding intOf size_eq
/-- behind an append to a row that lies behind the boxed argument -/
theorem below_own {w0 w1 w2 : World} {o : Obj} {q : Option Nat} {b : Nat} (hg : (w1.alloc o).grownBy w2 q) (hb : Below w0.heap.size w0 w1) (h0 : b < w0.heap.size) (hr : ∀ k, q = some k → w0.heap.size ≤ k ∧ k < w1.heap.size) : Below w0.heap.size w0 w2 :=
  (hb.alloc hb.size _).grown hg (by rw [World.size_alloc]; have := hb.size; omega) (fun k e => (hr k e).1)
theorem rlaid_len (L : List Ent) (e : Ent) (k : Nat) : (rlaidL L e k).length ≤ k + 1 := by
  have h0 : (L.take k).length ≤ k := by rw [List.length_take]; omega
  have h1 : ∀ (l : List Ent), (laidL l e).length ≤ l.length + 1 := by
    intro l
    induction l with
    | nil => exact Nat.le_refl _
    | cons x r ih =>
      rw [laidL_cons]
      split
      · rw [List.length_cons, List.length_cons]; omega
      · split <;> simp
  unfold rlaidL
  split
  · have := h1 (L.take k); omega
  · omega
set_option maxRecDepth 100000 in
set_option maxHeartbeats 16000000 in
theorem laid07_any (v : Value) (L : List Ent) (e : Ent) (w : World) (h : EntsAt w v L) (hi : Inc L) (hl : L.length ≤ 4294967296) (hb : ∀ x ∈ L, x.p.size ≤ 1099511627776) (he : e.p.size ≤ 1099511627776) :
    Calls Tryz.prog 78 #[v, .agg #[.string e.p, .int .i64 e.k, .int .i64 e.m, .string e.d, .string e.l]] w fun r w' => ∃ v', r = .returned v' ∧ RowE w' w.heap.size v' (laidL L e) ∧ Below w.heap.size w w' := by
  obtain ⟨i0, hii, hz0, hz1, hz2⟩ := info_parts Tryz.infoEntry
  obtain ⟨w0, hw0⟩ : ∃ z, z = w.alloc (.cells #[.string e.p, .int .i64 e.k, .int .i64 e.m, .string e.d, .string e.l] 52) := ⟨_, rfl⟩
  have hb0 : Below w.heap.size w w0 := by rw [hw0]; exact (Below.refl _ _).alloc (Nat.le_refl _) _
  have hc0 : w0.heap[w.heap.size]? = some (.cells #[.string e.p, .int .i64 e.k, .int .i64 e.m, .string e.d, .string e.l] 52 (0, 0)) := by rw [hw0]; exact World.alloc_heap_new w _
  have hbl : w.heap.size < w0.heap.size := heap_lt hc0
  have h0 := h.below hb0 (Nat.le_refl _)
  have hcE : ∀ W, Below w0.heap.size w0 W → ∀ j u, (entC e)[j]? = some u → W.cell? ((⟨w.heap.size, 0, none⟩ : Addr).add j) = some u := fun W hW => item_cells (cs := entC e) ((hW.block w.heap.size hbl).trans hc0)
  obtain ⟨o, cap, rfl, hlc, hcm, hcells⟩ := h
  obtain ⟨n, hn⟩ : ∃ n, n = L.length := ⟨_, rfl⟩
  rw [← hn] at hlc hl h0 ⊢
  have hcX := fun (k : Nat) (x : Ent) (hk : L[k]? = some x) => (show ∃ a, o = some a ∧ ∀ W, Below w0.heap.size w0 W → ∀ j u, (entC x)[j]? = some u → W.cell? ((a.add (k * 5)).add j) = some u from by
    obtain ⟨a, ea, h2⟩ := ent_cells_at h0 hk
    refine ⟨a, ea, fun W hW => ?_⟩
    obtain ⟨a2, e2, h3⟩ := ent_cells_at (h0.below hW (Nat.le_refl _)) hk
    rw [ea] at e2
    injection e2 with e2
    subst e2
    exact h3)
  have hend := rlaid_end L e
  rw [← hn] at hend
  have Hi := Lib.hid hii
  have Hz0 := Lib.hid hz0
  have Hz1 := Lib.hid hz1
  have Hz2 := Lib.hid hz2
  have Hw0 := Lib.hid hw0
  have Hbw := Lib.hid hb0
  have Hb0 := Lib.hid hbl
  have HcE := Lib.hid hcE
  have HcX := Lib.hid hcX
  have Hn := Lib.hid hn
  have Hb := Lib.hid hb
  have Inc0 := Lib.hid hi
  have Hend := Lib.hid hend
  clear hii hz0 hz1 hz2 hw0 hb0 hc0 h0 hcE hcX hn hb hi hend hcells hbl
  go_enter Tryz.func78, Tryz.ntmps78
  go_upto_region 1 with fail
  rw [← Hw0.out]
  go_wp2_with fail
  go_loopw [5, 6, 7] (fun ov dv iv wr => ∃ (k : Nat) (P : List Ent) (d : Bool), iv = .int .i64 (k : Int) ∧ dv = .bool d ∧ k ≤ n ∧ wr.ownsRow w0.heap.size 52 5 ov P.length (P.flatMap entC) ∧ P = rlaidL L e k ∧ d = pastR L e k ∧ Below w0.heap.size w0 wr) (fun _ _ iv _ => n - (intOf iv).toNat)
  case atStart => exact ⟨0, [], false, rfl, rfl, Nat.zero_le _, World.ownsRow_nil _ _ _ _, rfl, rfl, Below.refl _ _⟩
  case round =>
    obtain ⟨k, P, d, rfl, rfl, hk, hrow, hP, hd, hbr⟩ := hrel
    have hpl : P.length ≤ k + 1 := by rw [hP]; exact rlaid_len L e k
    obtain ⟨pl, hplen⟩ : ∃ z, z = P.length := ⟨_, rfl⟩
    rw [← hplen] at hpl hrow
    have Hrow := Lib.hid hrow
    have Hbr := Lib.hid hbr
    have HP := Lib.hid hP
    have Hd := Lib.hid hd
    have Hpl := Lib.hid hplen
    clear hrow hbr hP hd hplen
    by_cases hlt : k < n
    · obtain ⟨x, hxk⟩ : ∃ x, L[k]? = some x := ⟨_, List.getElem?_eq_getElem (by rw [← Hn.out]; exact hlt)⟩
      have hxs := Hb.out x (List.mem_of_getElem? hxk)
      obtain ⟨a, rfl, hca⟩ := HcX.out k x hxk
      obtain ⟨c, hc⟩ : ∃ c, compareP x.path e.path = c := ⟨_, rfl⟩
      have cM := fun d os => Calls.regrown_of ((rcompare_any x.p e.p (grow (redrawn wr d) os) hxs he).mono (R' := fun r w' => r = .returned (.int .i64 c) ∧ Below (grow (redrawn wr d) os).heap.size (grow (redrawn wr d) os) w') (fun r w' ⟨h1, h2⟩ => ⟨by rw [h1, ← hc]; rfl, h2⟩))
      have CM := Lib.hid cM
      have z1 := hca wr Hbr.out 0 _ rfl
      rw [show (a.add (k * 5)).add 0 = a.add (k * 5) from if_pos rfl] at z1
      have z2 := HcE.out wr Hbr.out 0 _ rfl
      rw [show (⟨w.heap.size, 0, none⟩ : Addr).add 0 = ⟨w.heap.size, 0, none⟩ from if_pos rfl] at z2
      have x1 : ∀ d os, (grow (redrawn wr d) os).cell? (a.add (k * 5)) = some (.string x.p) := fun d os => cell_regrown z1 d os
      have x2 : ∀ d os, (grow (redrawn wr d) os).cell? ⟨w.heap.size, 0, none⟩ = some (.string e.p) := fun d os => cell_regrown z2 d os
      have HcX2 := Lib.hid hca
      have Hxk := Lib.hid hxk
      have HCC := Lib.hid hc
      clear cM z1 z2 hca hxk hc HcX
      have HcX := HcX2
      clear HcX2
      go_wp2_with fail
      refine wp_region_quiet_below (by kernel_rfl) (by kernel_rfl) ?_
      repeat (quiet_step (exact CM.out _ _))
      refine wpQuiet_nil ?_
      intro WC hwf
      have BC := Lib.hid (show Below w0.heap.size w0 WC by obtain ⟨q, hq⟩ := hwf; rw [hq]; exact Hbr.out.trans ((below_regrown wr _ _).mono Hbr.out.size))
      have RC := Lib.hid (show WC.ownsRow w0.heap.size 52 5 u5 pl (P.flatMap entC) by obtain ⟨q, hq⟩ := hwf; rw [hq]; exact row_belowE Hrow.out (below_regrown wr _ _))
      clear x1 x2 hwf CM Hrow
      by_cases h1 : c < 0
      · have h2 : ¬ (0 ≤ c) := by omega
        have h3 : ¬ (c = 0) := by omega
        obtain ⟨r1, r2, r3⟩ := rlaid_lt Inc0.out Hxk.out (show compareP x.path e.path < 0 by rw [HCC.out]; exact h1)
        have HREF := Lib.hid (show P ++ [x] = rlaidL L e (k + 1) ∧ pastR L e (k + 1) = false from ⟨by rw [r3, HP.out], r1⟩)
        rw [r2] at Hd
        obtain rfl := Hd.out
        clear r1 r2 r3
        go_wp2_with (first
          | (refine wpList_load_items rfl _ _ rfl (a.add (k * 5)) rfl [.string x.p, .int .i64 x.k, .int .i64 x.m, .string x.d, .string x.l] _ (HcX.out _ BC.out) Tryz.underlying52 rfl (by kernel_rfl) ?_)
          | (at_builtin; go_loud (refine wpList_append_own _ rfl _ _ 22 rfl w0.heap.size 52 i0 _ 5 64 Tryz.underlying22 Hi.out Hz0.out Hz1.out Hz2.out rfl (by decide) _ _ _ rfl (RC.out.alloc _) ⟨WC.heap.size, 0, none⟩ 1 1 (entC x) rfl rfl (item_cells (cs := entC x) (World.alloc_heap_new WC _)) (by simp [entC, Value.oneCell']) (by unfold maxLen; omega) (by omega) (by rw [World.size_alloc]; have := BC.out.size; omega) ?_); intro v1 w1 hown1 hgr1 _
             have B1 := Lib.hid (below_own hgr1 BC.out Hb0.out (fun k e => World.ownsRow.lt RC.out k e))
             have R1 := Lib.hid hown1
             clear hown1 hgr1))
        go_roundw
        case rel =>
          refine ⟨k + 1, P ++ [x], false, by go_num, rfl, by omega, ?_, HREF.out.1, HREF.out.2.symm, B1.out⟩
          have hq := R1.out
          have e1 : (P ++ [x]).length = pl + 1 := by simp only [List.length_append, List.length_cons, List.length_nil]; have := Hpl.out; omega
          rw [e1, flat_oneE]
          exact hq
        case measure => simp [intOf]; omega
      · by_cases h4 : c = 0
        · subst h4
          obtain ⟨r1, r2, r3⟩ := rlaid_eq Inc0.out Hxk.out HCC.out
          have HREF := Lib.hid (show P ++ [e] = rlaidL L e (k + 1) ∧ pastR L e (k + 1) = true from ⟨by rw [r3, HP.out], r1⟩)
          rw [r2] at Hd
          obtain rfl := Hd.out
          clear r1 r2 r3
          go_wp2_with (first
            | (refine wpList_load_items rfl _ _ rfl ⟨w.heap.size, 0, none⟩ rfl [.string e.p, .int .i64 e.k, .int .i64 e.m, .string e.d, .string e.l] _ (HcE.out _ BC.out) Tryz.underlying52 rfl (by kernel_rfl) ?_)
            | (at_builtin; go_loud (refine wpList_append_own _ rfl _ _ 22 rfl w0.heap.size 52 i0 _ 5 64 Tryz.underlying22 Hi.out Hz0.out Hz1.out Hz2.out rfl (by decide) _ _ _ rfl (RC.out.alloc _) ⟨WC.heap.size, 0, none⟩ 1 1 (entC e) rfl rfl (item_cells (cs := entC e) (World.alloc_heap_new WC _)) (by simp [entC, Value.oneCell']) (by unfold maxLen; omega) (by omega) (by rw [World.size_alloc]; have := BC.out.size; omega) ?_); intro v1 w1 hown1 hgr1 _
               have B1 := Lib.hid (below_own hgr1 BC.out Hb0.out (fun k e => World.ownsRow.lt RC.out k e))
               have R1 := Lib.hid hown1
               clear hown1 hgr1))
          go_roundw
          case rel =>
            refine ⟨k + 1, P ++ [e], true, by go_num, rfl, by omega, ?_, HREF.out.1, HREF.out.2.symm, B1.out⟩
            have hq := R1.out
            have e1 : (P ++ [e]).length = pl + 1 := by simp only [List.length_append, List.length_cons, List.length_nil]; have := Hpl.out; omega
            rw [e1, flat_oneE]
            exact hq
          case measure => simp [intOf]; omega
        · have h5 : 0 ≤ c := by omega
          obtain ⟨r1, r2, r3⟩ := rlaid_gt (L := L) (e := e) Hxk.out (show 0 < compareP x.path e.path by rw [HCC.out]; omega)
          cases d with
          | true =>
            have HREF := Lib.hid (show P ++ [x] = rlaidL L e (k + 1) ∧ pastR L e (k + 1) = true from ⟨by rw [r2 Hd.out.symm, HP.out], r1⟩)
            clear r1 r2 r3
            go_wp2_with (first
              | (refine wpList_load_items rfl _ _ rfl (a.add (k * 5)) rfl [.string x.p, .int .i64 x.k, .int .i64 x.m, .string x.d, .string x.l] _ (HcX.out _ BC.out) Tryz.underlying52 rfl (by kernel_rfl) ?_)
              | (at_builtin; go_loud (refine wpList_append_own _ rfl _ _ 22 rfl w0.heap.size 52 i0 _ 5 64 Tryz.underlying22 Hi.out Hz0.out Hz1.out Hz2.out rfl (by decide) _ _ _ rfl (RC.out.alloc _) ⟨WC.heap.size, 0, none⟩ 1 1 (entC x) rfl rfl (item_cells (cs := entC x) (World.alloc_heap_new WC _)) (by simp [entC, Value.oneCell']) (by unfold maxLen; omega) (by omega) (by rw [World.size_alloc]; have := BC.out.size; omega) ?_); intro v1 w1 hown1 hgr1 _
                 have B1 := Lib.hid (below_own hgr1 BC.out Hb0.out (fun k e => World.ownsRow.lt RC.out k e))
                 have R1 := Lib.hid hown1
                 clear hown1 hgr1))
            go_roundw
            case rel =>
              refine ⟨k + 1, P ++ [x], true, by go_num, rfl, by omega, ?_, HREF.out.1, HREF.out.2.symm, B1.out⟩
              have hq := R1.out
              have e1 : (P ++ [x]).length = pl + 1 := by simp only [List.length_append, List.length_cons, List.length_nil]; have := Hpl.out; omega
              rw [e1, flat_oneE]
              exact hq
            case measure => simp [intOf]; omega
          | false =>
            have HREF := Lib.hid (show P ++ [e] ++ [x] = rlaidL L e (k + 1) ∧ pastR L e (k + 1) = true from ⟨by rw [r3 Hd.out.symm, HP.out], r1⟩)
            clear r1 r2 r3
            go_wp2_with (first
              | (refine wpList_load_items rfl _ _ rfl ⟨w.heap.size, 0, none⟩ rfl [.string e.p, .int .i64 e.k, .int .i64 e.m, .string e.d, .string e.l] _ (HcE.out _ BC.out) Tryz.underlying52 rfl (by kernel_rfl) ?_)
              | (at_builtin; go_loud (refine wpList_append_own _ rfl _ _ 22 rfl w0.heap.size 52 i0 _ 5 64 Tryz.underlying22 Hi.out Hz0.out Hz1.out Hz2.out rfl (by decide) _ _ _ rfl (RC.out.alloc _) ⟨WC.heap.size, 0, none⟩ 1 1 (entC e) rfl rfl (item_cells (cs := entC e) (World.alloc_heap_new WC _)) (by simp [entC, Value.oneCell']) (by unfold maxLen; omega) (by omega) (by rw [World.size_alloc]; have := BC.out.size; omega) ?_); intro v1 w1 hown1 hgr1 _
                 have B1 := Lib.hid (below_own hgr1 BC.out Hb0.out (fun k e => World.ownsRow.lt RC.out k e))
                 have R1 := Lib.hid hown1
                 clear hown1 hgr1)
              | (refine wpList_load_items rfl _ _ rfl (a.add (k * 5)) rfl [.string x.p, .int .i64 x.k, .int .i64 x.m, .string x.d, .string x.l] _ (HcX.out _ B1.out) Tryz.underlying52 rfl (by kernel_rfl) ?_)
              | (at_builtin; go_loud (refine wpList_append_own _ rfl _ _ 22 rfl w0.heap.size 52 i0 _ 5 64 Tryz.underlying22 Hi.out Hz0.out Hz1.out Hz2.out rfl (by decide) _ _ _ rfl (R1.out.alloc _) ⟨w1.heap.size, 0, none⟩ 1 1 (entC x) rfl rfl (item_cells (cs := entC x) (World.alloc_heap_new w1 _)) (by simp [entC, Value.oneCell']) (by unfold maxLen; omega) (by omega) (by rw [World.size_alloc]; have := B1.out.size; omega) ?_); intro v2 w2 hown2 hgr2 _
                 have B2 := Lib.hid (below_own hgr2 B1.out Hb0.out (fun k e => World.ownsRow.lt R1.out k e))
                 have R2 := Lib.hid hown2
                 clear hown2 hgr2))
            go_roundw
            case rel =>
              refine ⟨k + 1, P ++ [e] ++ [x], true, by go_num, rfl, by omega, ?_, HREF.out.1, HREF.out.2.symm, B2.out⟩
              have hq := R2.out
              have e1 : (P ++ [e] ++ [x]).length = pl + 1 + 1 := by simp only [List.length_append, List.length_cons, List.length_nil]; have := Hpl.out; omega
              rw [e1, flat_oneE, flat_oneE]
              exact hq
            case measure => simp [intOf]; omega
    · obtain rfl : k = n := by omega
      have HR := Lib.hid (show Below w.heap.size w w0 from Hbw.out)
      cases d with
      | true =>
        have HE := Lib.hid (show P = laidL L e by rw [HP.out]; exact Hend.out.1 Hd.out.symm)
        go_wp2_with fail
        go_ret
        refine ⟨_, rfl, ?_, Hbw.out.trans (Hbr.out.mono (by have := Hb0.out; omega))⟩
        unfold RowE
        rw [← HE.out, ← Hpl.out]
        exact ownsRow_base Hrow.out (by have := Hb0.out; omega)
      | false =>
        have HE := Lib.hid (show P ++ [e] = laidL L e by rw [HP.out]; exact Hend.out.2 Hd.out.symm)
        go_wp2_with (first
          | (refine wpList_load_items rfl _ _ rfl ⟨w.heap.size, 0, none⟩ rfl [.string e.p, .int .i64 e.k, .int .i64 e.m, .string e.d, .string e.l] _ (HcE.out _ Hbr.out) Tryz.underlying52 rfl (by kernel_rfl) ?_)
          | (at_builtin; go_loud (refine wpList_append_own _ rfl _ _ 22 rfl w0.heap.size 52 i0 _ 5 64 Tryz.underlying22 Hi.out Hz0.out Hz1.out Hz2.out rfl (by decide) _ _ _ rfl (Hrow.out.alloc _) ⟨wr.heap.size, 0, none⟩ 1 1 (entC e) rfl rfl (item_cells (cs := entC e) (World.alloc_heap_new wr _)) (by simp [entC, Value.oneCell']) (by unfold maxLen; omega) (by omega) (by rw [World.size_alloc]; have := Hbr.out.size; omega) ?_); intro v1 w1 hown1 hgr1 _
             have B1 := Lib.hid (below_own hgr1 Hbr.out Hb0.out (fun k e => World.ownsRow.lt Hrow.out k e))
             have R1 := Lib.hid hown1
             clear hown1 hgr1))
        go_ret
        refine ⟨_, rfl, ?_, Hbw.out.trans (B1.out.mono (by have := Hb0.out; omega))⟩
        unfold RowE
        rw [← HE.out, flat_oneE, List.length_append, List.length_singleton, ← Hpl.out]
        exact ownsRow_base R1.out (by have := Hb0.out; omega)
end
end Go.Proofs.YtipfccfjniglbaaGreatDoor
namespace Go.Proofs.YtipfccfjniglbaaGreatDoor
section
open Go.RowKit Go.Maps Go.Shelf Go.Sort
open Go.Lib hiding intOf size_eq
def doneN (R : Except Nat (List Ent)) : Nat := match R with
  | .error n => n
  | .ok _ => 0
/-- what the reference's done answers -/
structure RDone (w : World) (L : List Ent) (c : Chg) (r : Ending) (w' : World) : Prop where
  below : Below w.heap.size w w'
  ans : ∃ v, r = .returned (.tuple #[v, .int .i64 (doneN (doneL L c) : Int)]) ∧ ∀ L', doneL L c = .ok L' → RowE w' w.heap.size v L'
theorem RDone.bad {w : World} {L : List Ent} {c : Chg} {r : Ending} {w' : World} {n : Nat} (h : doneL L c = .error n) (hb : Below w.heap.size w w') (hr : r = .returned (.tuple #[.slice none 0 0, .int .i64 (n : Int)])) : RDone w L c r w' :=
  ⟨hb, _, by rw [hr, h]; rfl, fun L' hL => by rw [h] at hL; (cases hL)⟩
theorem RDone.good {w : World} {L L2 : List Ent} {c : Chg} {r : Ending} {w' : World} {v : Value} (h : doneL L c = .ok L2) (hb : Below w.heap.size w w') (hr : r = .returned (.tuple #[v, .int .i64 0])) (hw : RowE w' w.heap.size v L2) : RDone w L c r w' :=
  ⟨hb, v, by rw [hr, h]; rfl, fun L' hL => by rw [h] at hL; injection hL with hL; subst hL; exact hw⟩
/-- where done stands: the boxed change -/
structure CAt (c : Chg) (w W : World) : Prop where
  c0 : W.cell? ⟨w.heap.size, 0, none⟩ = some (.string c.p)
  c1 : W.cell? ⟨w.heap.size, 1, none⟩ = some (.bool c.g)
  c2 : W.cell? ⟨w.heap.size, 2, none⟩ = some (.string c.e.p)
  r2 : W.rangeAt w.heap.size 2 (entC c.e)
  below : Below w.heap.size w W
  size : w.heap.size < W.heap.size
theorem CAt.start (c : Chg) (w : World) : CAt c w (w.alloc (.cells (chgC c).toArray 54)) := by
  have h7 := chg_cells7 (c := c) (World.alloc_heap_new w (.cells (chgC c).toArray 54))
  exact ⟨h7.1, h7.2.1, h7.2.2.1, h7.2.2.2.2, (Below.refl _ _).alloc (Nat.le_refl _) _, by simp⟩
theorem CAt.step {c : Chg} {w W W' : World} (h : CAt c w W) (hw : Below W.heap.size W W') : CAt c w W' := by
  have hs := h.size
  have hc : ∀ j u, W.cell? ⟨w.heap.size, j, none⟩ = some u → W'.cell? ⟨w.heap.size, j, none⟩ = some u := fun j u hu => by
    unfold World.cell? at hu ⊢
    rw [hw.block _ h.size]
    exact hu
  exact ⟨hc _ _ h.c0, hc _ _ h.c1, hc _ _ h.c2, fun j u hj => hc _ _ (h.r2 j u hj), h.below.trans (hw.mono (by omega)), by have := hw.size; omega⟩
theorem CAt.mid {c : Chg} {w W : World} (h : CAt c w W) : ∀ j u, (entC c.e)[j]? = some u → W.cell? ((⟨w.heap.size, 2, none⟩ : Addr).add j) = some u := fun j u hj => by rw [Addr.add_mid]; exact h.r2 j u hj
attribute [local irreducible] wpStill wpQuiet
set_option maxRecDepth 100000 in
set_option maxHeartbeats 8000000 in
theorem done_gone10 {v : Value} {L : List Ent} (c : Chg) (w : World) (h : EntsAt w v L) (hg : c.g = true) (hl : L.length ≤ 4294967296) (hb : ∀ e ∈ L, e.p.size ≤ 1099511627776) (hp : c.p.size ≤ 1099511627776) :
    Calls Tryz.prog 47 #[v, chgV c] w (RDone w L c) := by
  have hst := CAt.start c w
  obtain ⟨w0, hw0⟩ : ∃ x, x = w.alloc (.cells (chgC c).toArray 54) := ⟨_, rfl⟩
  rw [← hw0] at hst
  have h0 := h.below hst.below (Nat.le_refl _)
  have hf := find07_any v L c.p w0 h0 (by omega) (fun e he => by have := hb e he; omega) (by omega)
  have hwo := without07_any v L c.p w0 h0 (by omega) (fun e he => by have := hb e he; omega) (by omega)
  have hchg : #[Value.string c.p, Value.bool c.g, Value.string c.e.p, Value.int .i64 c.e.k, Value.int .i64 c.e.m, Value.string c.e.d, Value.string c.e.l] = (chgC c).toArray := rfl
  have hd : doneL L c = if c.p.data.toList = [] then .error 15 else if lookE L c.p.data.toList = none then .error 10 else .ok (withoutL L c.p.data.toList) := by unfold doneL; rw [if_pos hg]; rfl
  have hpe : c.p.data.toList = [] → c.p = ⟨#[]⟩ := fun h => ba_ext h
  obtain ⟨o, cap, rfl, hlc, hcm, hcells⟩ := h
  obtain ⟨n, hn⟩ : ∃ n, n = L.length := ⟨_, rfl⟩
  rw [← hn] at hlc hl hf hwo ⊢
  rw [hg] at hchg
  have h00 := hst.c0
  have h01 := hst.c1
  rw [hg] at h01
  have Hw0 := Lib.hid hw0
  have Hst := Lib.hid hst
  have Hf := Lib.hid hf
  have Hwo := Lib.hid hwo
  have Hchg := Lib.hid hchg
  have Hd := Lib.hid hd
  unfold chgV
  rw [hg]
  obtain ⟨cp, hcp⟩ : ∃ x, x = c.p := ⟨_, rfl⟩
  rw [← hcp] at h00 Hf Hwo Hchg Hd hpe hp ⊢
  have Hpe := Lib.hid hpe
  have hix1 := (ixE_look (L := L) (q := cp.data.toList)).1
  have hix2 := (ixE_look (L := L) (q := cp.data.toList)).2
  have Hix1 := Lib.hid hix1
  have Hix2 := Lib.hid hix2
  clear hw0 hst hf hwo hchg hd hn hcells h0 hb hg hcp hpe hix1 hix2
  by_cases he : cp.data.toList = []
  · obtain rfl := Hpe.out he
    rw [if_pos he] at Hd
    clear he
    go_enter Tryz.func47, Tryz.ntmps47
    go_upto_region 1 with fail
    rw [Hchg.out, ← Hw0.out]
    go_wp2_with fail
    go_ret2
    exact RDone.bad Hd.out Hst.out.below rfl
  · have b0 := emptyB_f he
    rw [if_neg he] at Hd
    clear he
    cases hL : lookE L cp.data.toList with
    | none =>
      rw [hL, if_pos rfl] at Hd
      rw [Hix1.out hL] at Hf
      clear hL
      go_enter Tryz.func47, Tryz.ntmps47
      go_upto_region 1 with fail
      rw [Hchg.out, ← Hw0.out]
      go_wp2_with fail
      refine Hf.out.mono ?_
      rintro r w1 ⟨rfl, rfl⟩
      go_wp2_with fail
      go_ret2
      exact RDone.bad Hd.out Hst.out.below rfl
    | some y =>
      obtain ⟨k, hk, _⟩ := Hix2.out y hL
      rw [hL, if_neg (by simp)] at Hd
      rw [hk] at Hf
      clear hL hk
      go_enter Tryz.func47, Tryz.ntmps47
      go_upto_region 1 with fail
      rw [Hchg.out, ← Hw0.out]
      go_wp2_with fail
      refine Hf.out.mono ?_
      rintro r w1 ⟨rfl, rfl⟩
      go_wp2_with fail
      refine Hwo.out.mono ?_
      rintro r w2 ⟨v2, rfl, hr2, hb2⟩
      have HR2 := Lib.hid (ownsRow_base hr2 Hst.out.below.size)
      have HB2 := Lib.hid (Hst.out.below.trans (hb2.mono Hst.out.below.size))
      clear hr2 hb2
      go_wp2_with fail
      go_ret2
      exact RDone.good Hd.out HB2.out rfl HR2.out
theorem done_ok {L : List Ent} {c : Chg} (hg : c.g = false) (hp : c.e.path = c.path) (h1 : itselfNo c.e = 0) (h2 : upNo L c.path = 0) : doneL L c = match lookE L c.path with
    | some x => if alike x c.e = true then .ok (laidL L c.e) else .error 14
    | none => .ok (laidL L c.e) := by
  unfold doneL
  rw [if_neg (by rw [hg]; decide), if_neg (fun x => x hp), if_neg (fun x => x h1), if_neg (fun x => x h2)]
  all_goals rfl
set_option maxRecDepth 100000 in
set_option maxHeartbeats 8000000 in
theorem done_lay10 {v : Value} {L : List Ent} (c : Chg) (w : World) (h : EntsAt w v L) (hg : c.g = false) (hi : Inc L) (hl : L.length ≤ 4294967296) (hb : ∀ e ∈ L, e.p.size ≤ 1099511627776) (hp : c.p.size ≤ 1099511627776) (hep : c.e.p.size ≤ 1099511627776) (hed : c.e.d.size ≤ 1099511627776) (hel : c.e.l.size ≤ 1099511627776) :
    Calls Tryz.prog 47 #[v, chgV c] w (RDone w L c) := by
  have hst := CAt.start c w
  obtain ⟨w0, hw0⟩ : ∃ x, x = w.alloc (.cells (chgC c).toArray 54) := ⟨_, rfl⟩
  rw [← hw0] at hst
  have hE := fun W (hW : Below w.heap.size w W) => h.below hW (Nat.le_refl _)
  have hf := fun W (hW : Below w.heap.size w W) => find07_any v L c.p W (hE W hW) (by omega) (fun e he => by have := hb e he; omega) (by omega)
  have hit := fun W => itself07_any c.e W hep hel hed
  have hup := fun W (hW : Below w.heap.size w W) => up07_any v L c.p W (hE W hW) (by omega) (fun e he => by have := hb e he; omega) hp
  have hla := fun W (hW : Below w.heap.size w W) => laid07_any v L c.e W (hE W hW) hi hl hb hep
  have hchg : #[Value.string c.p, Value.bool c.g, Value.string c.e.p, Value.int .i64 c.e.k, Value.int .i64 c.e.m, Value.string c.e.d, Value.string c.e.l] = (chgC c).toArray := rfl
  rw [hg] at hchg
  have dA := fun hne => done_arg (L := L) (c := c) hg hne
  have dS := fun hpq h0 => done_self (L := L) (c := c) hg hpq h0
  have dU := fun hpq h0 h1 => done_up (L := L) (c := c) hg hpq h0 h1
  have dO := fun hpq h0 h1 => done_ok (L := L) (c := c) hg hpq h0 h1
  have hix1 := (ixE_look (L := L) (q := c.p.data.toList)).1
  have hix2 := (ixE_look (L := L) (q := c.p.data.toList)).2
  have hcl := fun (k : Nat) (x : Ent) (hk : L[k]? = some x) W (hW : Below w.heap.size w W) => (show ∃ a, (∃ n cap, v = .slice (some a) n cap ∧ n = L.length) ∧ ∀ j u, (entC x)[j]? = some u → W.cell? ((a.add (k * 5)).add j) = some u from by
    obtain ⟨o, cap, e, _, _, hc⟩ := hE W hW
    obtain ⟨a, ha, _, h2⟩ := hc k x hk
    subst ha
    exact ⟨a, ⟨_, cap, e, rfl⟩, h2⟩)
  have HG := Lib.hid hg
  have Hw0 := Lib.hid hw0
  have Hst := Lib.hid hst
  have Hf := Lib.hid hf
  have Hit := Lib.hid hit
  have Hup := Lib.hid hup
  have Hla := Lib.hid hla
  have Hchg := Lib.hid hchg
  have DA := Lib.hid dA
  have DS := Lib.hid dS
  have DU := Lib.hid dU
  have DO := Lib.hid dO
  have Hix1 := Lib.hid hix1
  have Hix2 := Lib.hid hix2
  have Hcl := Lib.hid hcl
  have HE := Lib.hid hE
  have h00 := hst.c0
  have h01 := hst.c1
  have h02 := hst.c2
  rw [hg] at h01
  unfold chgV
  rw [hg]
  clear hw0 hst hf hit hup hla hchg dA dS dU dO hix1 hix2 hcl hg hb hi hE
  by_cases hpq : c.e.path = c.path
  · have hpe : c.e.p = c.p := ba_ext hpq
    rw [hpe] at h02
    have Hpe := Lib.hid hpe
    clear hpe
    by_cases h0 : itselfNo c.e = 0
    · by_cases h1 : upNo L c.path = 0
      · have hD := DO.out hpq h0 h1
        rw [h0] at Hit
        rw [show upNo L c.p.data.toList = 0 from h1] at Hup
        cases hL : lookE L c.path with
        | none =>
          rw [hL] at hD
          have HD := Lib.hid (show doneL L c = .ok (laidL L c.e) from hD)
          have hx := Hix1.out hL
          rw [show ixE L c.p.data.toList = -1 from hx] at Hf
          clear hD hx hL h0 h1 hpq
          obtain ⟨o, n, cap, rfl⟩ : ∃ o n cap, v = .slice o n cap := (by obtain ⟨o, cap, e, _⟩ := HE.out w (Below.refl _ _); exact ⟨o, _, cap, e⟩)
          go_enter Tryz.func47, Tryz.ntmps47
          go_upto_region 1 with fail
          rw [Hchg.out, ← Hw0.out]
          go_wp2_with (refine wpList_load_mid rfl _ _ rfl w.heap.size 2 rfl [.string c.e.p, .int .i64 c.e.k, .int .i64 c.e.m, .string c.e.d, .string c.e.l] _ Hst.out.r2 Tryz.underlying52 rfl (by kernel_rfl) ?_)
          refine (Hit.out w0).mono ?_
          rintro r w1 ⟨rfl, hb⟩
          have H1 := Lib.hid (Hst.out.step hb)
          have h10 := H1.out.c0
          clear hb h00 h01 h02
          go_wp2_with fail
          refine (Hup.out w1 H1.out.below).mono ?_
          rintro r w2 ⟨rfl, hb⟩
          have H2 := Lib.hid (H1.out.step hb)
          have h20 := H2.out.c0
          clear hb h10
          go_wp2_with fail
          refine (Hf.out w2 H2.out.below).mono ?_
          rintro r w3 ⟨rfl, rfl⟩
          go_wp2_with fail
          refine wp_region_quiet_below (by kernel_rfl) (by kernel_rfl) ?_
          iterate 3 (quiet_step (fail))
          iterate 9 (refine quiet_skip (by rfl) ?_; simp only [Act.put, List.setIfInBounds_toArray, List.set_cons_zero, List.set_cons_succ])
          iterate 1 (quiet_step (fail))
          refine wpQuiet_nil ?_
          intro w4 hwf
          have H4 := Lib.hid (H2.out.step (show Below _ _ w4 by obtain ⟨q, hq⟩ := hwf; rw [hq]; exact below_regrown _ _ _))
          clear hwf
          go_wp2_with (refine wpList_load_mid rfl _ _ rfl w.heap.size 2 rfl [.string c.e.p, .int .i64 c.e.k, .int .i64 c.e.m, .string c.e.d, .string c.e.l] _ H4.out.r2 Tryz.underlying52 rfl (by kernel_rfl) ?_)
          refine (Hla.out w4 H4.out.below).mono ?_
          rintro r w5 ⟨v5, rfl, hr, hb⟩
          have R5 := Lib.hid (ownsRow_base hr H4.out.below.size)
          have B5 := Lib.hid (H4.out.below.trans (hb.mono H4.out.below.size))
          clear hr hb
          go_wp2_with fail
          go_ret2
          exact RDone.good HD.out B5.out rfl R5.out
        | some y =>
          rw [hL] at hD
          obtain ⟨k, hx, hk⟩ := Hix2.out y hL
          rw [hx] at Hf
          obtain ⟨a, ⟨n, cap, rfl, hn⟩, _⟩ := Hcl.out k y hk w (Below.refl _ _)
          have hkn : k < n := by rw [hn]; exact (List.getElem?_eq_some_iff.1 hk).1
          have hcy := fun W (hW : Below w.heap.size w W) => (show ∀ j u, (entC y)[j]? = some u → W.cell? ((a.add (k * 5)).add j) = some u from by
            obtain ⟨a2, ⟨_, _, e, _⟩, h2⟩ := Hcl.out k y hk W hW
            injection e with e
            injection e with e
            subst e
            exact h2)
          obtain ⟨bx, hbx⟩ : ∃ b, (c.e.k == 1) = b := ⟨_, rfl⟩
          obtain ⟨bb, hby⟩ : ∃ b, (y.k == 1) = b := ⟨_, rfl⟩
          have hal : alike y c.e = (bb == bx) := alike_k y c.e hby hbx
          have hD2 : doneL L c = if alike y c.e = true then .ok (laidL L c.e) else .error 14 := hD
          rw [hal] at hD2
          have HD0 := Lib.hid hD2
          have cY := fun (W : World) d os => Calls.regrown_of (sort10_any y (grow (redrawn W d) os))
          have cX := fun (W : World) d os => Calls.regrown_of (sort10_any c.e (grow (redrawn W d) os))
          rw [hbx] at cX
          rw [hby] at cY
          have CX := Lib.hid cX
          have CY := Lib.hid cY
          have Hcy := Lib.hid hcy
          have Hn := Lib.hid hn
          clear hD hD2 hx hL h0 h1 hpq hk hcy hbx hby hal cX cY hn HE Hcl
          cases bx
          · cases bb
            · have HD := Lib.hid (HD0.out.trans (if_pos rfl))
              go_enter Tryz.func47, Tryz.ntmps47
              go_upto_region 1 with fail
              rw [Hchg.out, ← Hw0.out]
              go_wp2_with (refine wpList_load_mid rfl _ _ rfl w.heap.size 2 rfl [.string c.e.p, .int .i64 c.e.k, .int .i64 c.e.m, .string c.e.d, .string c.e.l] _ Hst.out.r2 Tryz.underlying52 rfl (by kernel_rfl) ?_)
              refine (Hit.out w0).mono ?_
              rintro r w1 ⟨rfl, hb⟩
              have H1 := Lib.hid (Hst.out.step hb)
              have h10 := H1.out.c0
              clear hb h00 h01 h02
              go_wp2_with fail
              refine (Hup.out w1 H1.out.below).mono ?_
              rintro r w2 ⟨rfl, hb⟩
              have H2 := Lib.hid (H1.out.step hb)
              have h20 := H2.out.c0
              clear hb h10
              go_wp2_with fail
              have Ky := Lib.hid (cells_regrown (Hcy.out w2 H2.out.below))
              have Kc := Lib.hid (cells_regrown H2.out.mid)
              refine (Hf.out w2 H2.out.below).mono ?_
              rintro r w3 ⟨rfl, rfl⟩
              go_wp2_with fail
              refine wp_region_quiet_below (by kernel_rfl) (by kernel_rfl) ?_
              iterate 6 (quiet_step (fail))
              refine quiet_load_guard (by rfl) _ _ rfl (a.add (k * 5)) rfl [.string y.p, .int .i64 y.k, .int .i64 y.m, .string y.d, .string y.l] _ Ky.out Tryz.underlying52 rfl (by kernel_rfl) ?_
              iterate 2 (quiet_step (exact CY.out _ _ _))
              refine quiet_load_guard (by rfl) _ _ rfl ⟨w.heap.size, 2, none⟩ rfl [.string c.e.p, .int .i64 c.e.k, .int .i64 c.e.m, .string c.e.d, .string c.e.l] _ Kc.out Tryz.underlying52 rfl (by kernel_rfl) ?_
              iterate 3 (quiet_step (exact CX.out _ _ _))
              refine wpQuiet_nil ?_
              intro w4 hwf
              have H4 := Lib.hid (H2.out.step (show Below _ _ w4 by obtain ⟨q, hq⟩ := hwf; rw [hq]; exact below_regrown _ _ _))
              clear hwf
              go_wp2_with (refine wpList_load_mid rfl _ _ rfl w.heap.size 2 rfl [.string c.e.p, .int .i64 c.e.k, .int .i64 c.e.m, .string c.e.d, .string c.e.l] _ H4.out.r2 Tryz.underlying52 rfl (by kernel_rfl) ?_)
              refine (Hla.out w4 H4.out.below).mono ?_
              rintro r w5 ⟨v5, rfl, hr, hb⟩
              have R5 := Lib.hid (ownsRow_base hr H4.out.below.size)
              have B5 := Lib.hid (H4.out.below.trans (hb.mono H4.out.below.size))
              clear hr hb
              go_wp2_with fail
              go_ret2
              exact RDone.good HD.out B5.out rfl R5.out
            · have HD := Lib.hid (HD0.out.trans (if_neg (by decide)))
              go_enter Tryz.func47, Tryz.ntmps47
              go_upto_region 1 with fail
              rw [Hchg.out, ← Hw0.out]
              go_wp2_with (refine wpList_load_mid rfl _ _ rfl w.heap.size 2 rfl [.string c.e.p, .int .i64 c.e.k, .int .i64 c.e.m, .string c.e.d, .string c.e.l] _ Hst.out.r2 Tryz.underlying52 rfl (by kernel_rfl) ?_)
              refine (Hit.out w0).mono ?_
              rintro r w1 ⟨rfl, hb⟩
              have H1 := Lib.hid (Hst.out.step hb)
              have h10 := H1.out.c0
              clear hb h00 h01 h02
              go_wp2_with fail
              refine (Hup.out w1 H1.out.below).mono ?_
              rintro r w2 ⟨rfl, hb⟩
              have H2 := Lib.hid (H1.out.step hb)
              have h20 := H2.out.c0
              clear hb h10
              go_wp2_with fail
              have Ky := Lib.hid (cells_regrown (Hcy.out w2 H2.out.below))
              have Kc := Lib.hid (cells_regrown H2.out.mid)
              refine (Hf.out w2 H2.out.below).mono ?_
              rintro r w3 ⟨rfl, rfl⟩
              go_wp2_with fail
              refine wp_region_quiet_below (by kernel_rfl) (by kernel_rfl) ?_
              iterate 6 (quiet_step (fail))
              refine quiet_load_guard (by rfl) _ _ rfl (a.add (k * 5)) rfl [.string y.p, .int .i64 y.k, .int .i64 y.m, .string y.d, .string y.l] _ Ky.out Tryz.underlying52 rfl (by kernel_rfl) ?_
              iterate 2 (quiet_step (exact CY.out _ _ _))
              refine quiet_load_guard (by rfl) _ _ rfl ⟨w.heap.size, 2, none⟩ rfl [.string c.e.p, .int .i64 c.e.k, .int .i64 c.e.m, .string c.e.d, .string c.e.l] _ Kc.out Tryz.underlying52 rfl (by kernel_rfl) ?_
              iterate 3 (quiet_step (exact CX.out _ _ _))
              refine wpQuiet_nil ?_
              intro w4 hwf
              have H4 := Lib.hid (H2.out.step (show Below _ _ w4 by obtain ⟨q, hq⟩ := hwf; rw [hq]; exact below_regrown _ _ _))
              clear hwf
              go_wp2_with fail
              go_ret2
              exact RDone.bad HD.out H4.out.below rfl
          · cases bb
            · have HD := Lib.hid (HD0.out.trans (if_neg (by decide)))
              go_enter Tryz.func47, Tryz.ntmps47
              go_upto_region 1 with fail
              rw [Hchg.out, ← Hw0.out]
              go_wp2_with (refine wpList_load_mid rfl _ _ rfl w.heap.size 2 rfl [.string c.e.p, .int .i64 c.e.k, .int .i64 c.e.m, .string c.e.d, .string c.e.l] _ Hst.out.r2 Tryz.underlying52 rfl (by kernel_rfl) ?_)
              refine (Hit.out w0).mono ?_
              rintro r w1 ⟨rfl, hb⟩
              have H1 := Lib.hid (Hst.out.step hb)
              have h10 := H1.out.c0
              clear hb h00 h01 h02
              go_wp2_with fail
              refine (Hup.out w1 H1.out.below).mono ?_
              rintro r w2 ⟨rfl, hb⟩
              have H2 := Lib.hid (H1.out.step hb)
              have h20 := H2.out.c0
              clear hb h10
              go_wp2_with fail
              have Ky := Lib.hid (cells_regrown (Hcy.out w2 H2.out.below))
              have Kc := Lib.hid (cells_regrown H2.out.mid)
              refine (Hf.out w2 H2.out.below).mono ?_
              rintro r w3 ⟨rfl, rfl⟩
              go_wp2_with fail
              refine wp_region_quiet_below (by kernel_rfl) (by kernel_rfl) ?_
              iterate 6 (quiet_step (fail))
              refine quiet_load_guard (by rfl) _ _ rfl (a.add (k * 5)) rfl [.string y.p, .int .i64 y.k, .int .i64 y.m, .string y.d, .string y.l] _ Ky.out Tryz.underlying52 rfl (by kernel_rfl) ?_
              iterate 2 (quiet_step (exact CY.out _ _ _))
              refine quiet_load_guard (by rfl) _ _ rfl ⟨w.heap.size, 2, none⟩ rfl [.string c.e.p, .int .i64 c.e.k, .int .i64 c.e.m, .string c.e.d, .string c.e.l] _ Kc.out Tryz.underlying52 rfl (by kernel_rfl) ?_
              iterate 3 (quiet_step (exact CX.out _ _ _))
              refine wpQuiet_nil ?_
              intro w4 hwf
              have H4 := Lib.hid (H2.out.step (show Below _ _ w4 by obtain ⟨q, hq⟩ := hwf; rw [hq]; exact below_regrown _ _ _))
              clear hwf
              go_wp2_with fail
              go_ret2
              exact RDone.bad HD.out H4.out.below rfl
            · have HD := Lib.hid (HD0.out.trans (if_pos rfl))
              go_enter Tryz.func47, Tryz.ntmps47
              go_upto_region 1 with fail
              rw [Hchg.out, ← Hw0.out]
              go_wp2_with (refine wpList_load_mid rfl _ _ rfl w.heap.size 2 rfl [.string c.e.p, .int .i64 c.e.k, .int .i64 c.e.m, .string c.e.d, .string c.e.l] _ Hst.out.r2 Tryz.underlying52 rfl (by kernel_rfl) ?_)
              refine (Hit.out w0).mono ?_
              rintro r w1 ⟨rfl, hb⟩
              have H1 := Lib.hid (Hst.out.step hb)
              have h10 := H1.out.c0
              clear hb h00 h01 h02
              go_wp2_with fail
              refine (Hup.out w1 H1.out.below).mono ?_
              rintro r w2 ⟨rfl, hb⟩
              have H2 := Lib.hid (H1.out.step hb)
              have h20 := H2.out.c0
              clear hb h10
              go_wp2_with fail
              have Ky := Lib.hid (cells_regrown (Hcy.out w2 H2.out.below))
              have Kc := Lib.hid (cells_regrown H2.out.mid)
              refine (Hf.out w2 H2.out.below).mono ?_
              rintro r w3 ⟨rfl, rfl⟩
              go_wp2_with fail
              refine wp_region_quiet_below (by kernel_rfl) (by kernel_rfl) ?_
              iterate 6 (quiet_step (fail))
              refine quiet_load_guard (by rfl) _ _ rfl (a.add (k * 5)) rfl [.string y.p, .int .i64 y.k, .int .i64 y.m, .string y.d, .string y.l] _ Ky.out Tryz.underlying52 rfl (by kernel_rfl) ?_
              iterate 2 (quiet_step (exact CY.out _ _ _))
              refine quiet_load_guard (by rfl) _ _ rfl ⟨w.heap.size, 2, none⟩ rfl [.string c.e.p, .int .i64 c.e.k, .int .i64 c.e.m, .string c.e.d, .string c.e.l] _ Kc.out Tryz.underlying52 rfl (by kernel_rfl) ?_
              iterate 3 (quiet_step (exact CX.out _ _ _))
              refine wpQuiet_nil ?_
              intro w4 hwf
              have H4 := Lib.hid (H2.out.step (show Below _ _ w4 by obtain ⟨q, hq⟩ := hwf; rw [hq]; exact below_regrown _ _ _))
              clear hwf
              go_wp2_with (refine wpList_load_mid rfl _ _ rfl w.heap.size 2 rfl [.string c.e.p, .int .i64 c.e.k, .int .i64 c.e.m, .string c.e.d, .string c.e.l] _ H4.out.r2 Tryz.underlying52 rfl (by kernel_rfl) ?_)
              refine (Hla.out w4 H4.out.below).mono ?_
              rintro r w5 ⟨v5, rfl, hr, hb⟩
              have R5 := Lib.hid (ownsRow_base hr H4.out.below.size)
              have B5 := Lib.hid (H4.out.below.trans (hb.mono H4.out.below.size))
              clear hr hb
              go_wp2_with fail
              go_ret2
              exact RDone.good HD.out B5.out rfl R5.out
      · obtain ⟨u, hu⟩ : ∃ u, u = upNo L c.path := ⟨_, rfl⟩
        have hD := DU.out hpq h0 h1
        have Hup2 := Hup
        rw [h0] at Hit
        rw [show upNo L c.p.data.toList = u from hu.symm] at Hup
        rw [← hu] at hD h1
        have HD := Lib.hid hD
        have hu0 : ¬ (u : Int) = 0 := by omega
        clear hD h0 hpq hu Hup2 h1
        obtain ⟨o, n, cap, rfl⟩ : ∃ o n cap, v = .slice o n cap := (by obtain ⟨o, cap, e, _⟩ := HE.out w (Below.refl _ _); exact ⟨o, _, cap, e⟩)
        go_enter Tryz.func47, Tryz.ntmps47
        go_upto_region 1 with fail
        rw [Hchg.out, ← Hw0.out]
        go_wp2_with (refine wpList_load_mid rfl _ _ rfl w.heap.size 2 rfl [.string c.e.p, .int .i64 c.e.k, .int .i64 c.e.m, .string c.e.d, .string c.e.l] _ Hst.out.r2 Tryz.underlying52 rfl (by kernel_rfl) ?_)
        refine (Hit.out w0).mono ?_
        rintro r w1 ⟨rfl, hb⟩
        have H1 := Lib.hid (Hst.out.step hb)
        have h10 := H1.out.c0
        clear hb h00 h01 h02
        go_wp2_with fail
        refine (Hup.out w1 H1.out.below).mono ?_
        rintro r w2 ⟨rfl, hb⟩
        have H2 := Lib.hid (H1.out.step hb)
        have h20 := H2.out.c0
        clear hb h10
        go_wp2_with fail
        go_ret2
        exact RDone.bad HD.out H2.out.below rfl
    · obtain ⟨u, hu⟩ : ∃ u, u = itselfNo c.e := ⟨_, rfl⟩
      have hD := DS.out hpq h0
      rw [← hu] at hD h0 Hit
      have HD := Lib.hid hD
      have hu0 : ¬ (u : Int) = 0 := by omega
      clear hD h0 hpq hu
      obtain ⟨o, n, cap, rfl⟩ : ∃ o n cap, v = .slice o n cap := (by obtain ⟨o, cap, e, _⟩ := HE.out w (Below.refl _ _); exact ⟨o, _, cap, e⟩)
      go_enter Tryz.func47, Tryz.ntmps47
      go_upto_region 1 with fail
      rw [Hchg.out, ← Hw0.out]
      go_wp2_with (refine wpList_load_mid rfl _ _ rfl w.heap.size 2 rfl [.string c.e.p, .int .i64 c.e.k, .int .i64 c.e.m, .string c.e.d, .string c.e.l] _ Hst.out.r2 Tryz.underlying52 rfl (by kernel_rfl) ?_)
      refine (Hit.out w0).mono ?_
      rintro r w1 ⟨rfl, hb⟩
      have H1 := Lib.hid (Hst.out.step hb)
      have h10 := H1.out.c0
      clear hb h00 h01 h02
      go_wp2_with fail
      go_ret2
      exact RDone.bad HD.out H1.out.below rfl
  · have hq : (c.e.p.toList == c.p.toList) = false := by
      rw [toList_data, toList_data]
      exact beq_eq_false_iff_ne.2 hpq
    have HD := Lib.hid (DA.out hpq)
    clear hpq
    obtain ⟨o, n, cap, rfl⟩ : ∃ o n cap, v = .slice o n cap := (by obtain ⟨o, cap, e, _⟩ := HE.out w (Below.refl _ _); exact ⟨o, _, cap, e⟩)
    go_enter Tryz.func47, Tryz.ntmps47
    go_upto_region 1 with fail
    rw [Hchg.out, ← Hw0.out]
    go_wp2_with fail
    go_ret2
    exact RDone.bad HD.out Hst.out.below rfl
theorem done10_any {v : Value} {L : List Ent} (c : Chg) (w : World) (h : EntsAt w v L) (hi : Inc L) (hl : L.length ≤ 4294967296) (hb : ∀ e ∈ L, e.p.size ≤ 1099511627776) (hp : c.p.size ≤ 1099511627776) (hep : c.e.p.size ≤ 1099511627776) (hed : c.e.d.size ≤ 1099511627776) (hel : c.e.l.size ≤ 1099511627776) :
    Calls Tryz.prog 47 #[v, chgV c] w (RDone w L c) := by
  cases hg : c.g with
  | true => exact done_gone10 c w h hg hl hb hp
  | false => exact done_lay10 c w h hg hi hl hb hp hep hed hel
end
end Go.Proofs.YtipfccfjniglbaaGreatDoor
namespace Go.Proofs.YtipfccfjniglbaaGreatDoor
section
open Go.RowKit Go.Maps Go.Shelf
open Go.Lib hiding intOf size_eq
def applyN (R : Except (Nat × Nat × Nat) (List Ent)) : Nat × Nat × Nat := match R with
  | .error x => x
  | .ok _ => (0, 0, 0)
def applyE (R : Except (Nat × Nat × Nat) (List Ent)) : List Ent := match R with
  | .error _ => []
  | .ok L => L
theorem ents_set {W : World} {v : Value} {L : List Ent} {f : Nat} {a b c : Int} {t : TypeId} {fz : Nat × Nat} {cs : Array Value} (h : EntsAt W v L) (hf : W.heap[f]? = some (.cells #[.int .i64 a, .int .i64 b, .int .i64 c] t fz)) : EntsAt (W.setRow f cs) v L := by
  obtain ⟨o, cap, h1, h2, h3, h4⟩ := h
  refine ⟨o, cap, h1, h2, h3, fun i e he => ?_⟩
  obtain ⟨ad, ha, hl, hc⟩ := h4 i e he
  refine ⟨ad, ha, by simpa using hl, fun j x hx => ?_⟩
  have hne : ad.block ≠ f := fun e2 => by
    have h0 := hc 0 _ rfl
    unfold World.cell? at h0
    rw [add_block, add_block, e2, hf] at h0
    generalize ((ad.add (i * 5)).add 0).off = q at h0
    match q, h0 with
    | 0, h0 => simp at h0
    | 1, h0 => simp at h0
    | 2, h0 => simp at h0
    | q + 3, h0 => simp at h0
  have := hc j x hx
  unfold World.cell? at this ⊢
  rw [setRow_other W f _ _ (by rw [add_block, add_block]; exact hne)]
  exact this
set_option maxRecDepth 100000 in
set_option maxHeartbeats 8000000 in
theorem rapply10_any (va vl : Value) (T : List Ent) (C : List Chg) (w : World) (ha : EntsAt w va T) (hc : ChgsAt w vl C) (sa : ∀ x ∈ T, x.p.size ≤ 1048576 ∧ x.d.size ≤ 1048576 ∧ x.l.size ≤ 1048576) (sc : ∀ c ∈ C, c.p.size ≤ 1048576 ∧ c.e.p.size ≤ 1048576 ∧ c.e.d.size ≤ 1048576 ∧ c.e.l.size ≤ 1048576) (hlT : T.length ≤ 1048576) (hlC : C.length ≤ 1048576) :
    Calls Tryz.prog 18 #[va, vl] w fun r w' => Below w.heap.size w w' ∧ ∃ v, r = .returned (.tuple #[v, fltA (applyN (applyL T C))]) ∧ EntsAt w' v (applyE (applyL T C)) := by
  obtain ⟨w0, hw0⟩ : ∃ x, x = w.alloc (.cells #[.int .i64 0, .int .i64 0, .int .i64 0] 25) := ⟨_, rfl⟩
  have hb0 : Below w.heap.size w w0 := by rw [hw0]; exact (Below.refl _ _).alloc (Nat.le_refl _) _
  have hc0 : w0.heap[w.heap.size]? = some (.cells #[.int .i64 0, .int .i64 0, .int .i64 0] 25 (0, 0)) := by rw [hw0]; exact World.alloc_heap_new w _
  have hbl := heap_lt hc0
  have hk : ∀ W, Below w0.heap.size w0 W → W.heap[w.heap.size]? = some (.cells #[.int .i64 0, .int .i64 0, .int .i64 0] 25 (0, 0)) := fun W hW => (hW.block _ hbl).trans hc0
  have h1 := rcheck07_any va T w0 (ha.below hb0 (Nat.le_refl _)) (fun x hx => ⟨Nat.le_trans (sa x hx).1 (by decide), Nat.le_trans (sa x hx).2.2 (by decide), Nat.le_trans (sa x hx).2.1 (by decide)⟩) (by omega)
  have h2 := fun (W : World) (hW : Below w0.heap.size w0 W) => copy_any va T W ((ha.below hb0 (Nat.le_refl _)).below hW (Nat.le_refl _)) (by omega)
  have hset : ∀ W (cs : Array Value), Below w0.heap.size w0 W → Below w.heap.size w (W.setRow w.heap.size cs) := fun W cs hW => by
    have h := hb0.trans (hW.mono (by omega))
    exact ⟨h.os, h.tape, h.output, by simpa using h.size, fun j hj => (setRow_other W w.heap.size j _ (by omega)).trans (h.block j hj)⟩
  have hcc : ∀ W, Below w0.heap.size w0 W → ChgsAt W vl C := fun W hW => ItemsAt.below (ItemsAt.below hc hb0 (Nat.le_refl _)) hW (Nat.le_refl _)
  have Hw0 := Lib.hid hw0
  have Hb0 := Lib.hid hb0
  have Hk := Lib.hid hk
  have Hbl := Lib.hid hbl
  have H1 := Lib.hid h1
  have H2 := Lib.hid h2
  have Hset := Lib.hid hset
  have Sc := Lib.hid sc
  by_cases ca : (checkL T).1 = 0
  · have gT := good_of_check ca
    have PT := Lib.hid gT.pre
    have HE := Lib.hid (fun L (h : doL T C 0 = .ok L) => apply_end ca h)
    have HBd := Lib.hid (fun n i (h : doL T C 0 = .error (n, i)) => apply_err ca h)
    obtain ⟨o, cap, rfl, hlc, hcm, hcells⟩ := hc
    obtain ⟨m, hm⟩ : ∃ m, m = C.length := ⟨_, rfl⟩
    obtain ⟨n, hn⟩ : ∃ n, n = T.length := ⟨_, rfl⟩
    rw [← hm] at hlc hlC hcc ⊢
    rw [← hn] at hlT
    rw [ca] at H1
    have Hcc := Lib.hid hcc
    have Hm := Lib.hid hm
    have Hn := Lib.hid hn
    clear hw0 hb0 hk hbl hc0 h1 h2 hset sc hcells ha sa ca gT hm hn hcc
    generalize ((checkL T).2 : Int) = z1 at *
    go_enter Tryz.func18, Tryz.ntmps18
    go_upto_region 1 with fail
    rw [← Hw0.out]
    go_wp2_with fail
    refine H1.out.mono ?_
    rintro r w1 ⟨rfl, hb⟩
    have B1 := Lib.hid hb
    clear hb
    go_wp2_with fail
    refine (H2.out w1 B1.out).mono ?_
    rintro r w2 ⟨v2, rfl, hv2, hb⟩
    have B2 := Lib.hid (B1.out.trans (hb.mono B1.out.size))
    have V2 := Lib.hid hv2
    clear hb hv2 B1
    go_wp2_with fail
    go_loopw [8, 9] (fun ov iv wr => ∃ (k : Nat) (L : List Ent), iv = .int .i64 (k : Int) ∧ k ≤ m ∧ EntsAt wr ov L ∧ Pre L ∧ L.length ≤ n + k ∧ doL T C 0 = doL L (C.drop k) k ∧ Below w0.heap.size w0 wr) (fun _ iv _ => m - (intOf iv).toNat)
    case atStart => exact ⟨0, T, rfl, Nat.zero_le _, V2.out, PT.out, by rw [← Hn.out]; omega, rfl, B2.out⟩
    case round =>
      obtain ⟨k, L, rfl, hk, hents, hpre, hlen, hdo, hbr⟩ := hrel
      clear V2 B2
      by_cases hlt : k < m
      · obtain ⟨c, hck⟩ : ∃ c, C[k]? = some c := ⟨_, List.getElem?_eq_getElem (by rw [← Hm.out]; exact hlt)⟩
        obtain ⟨s1, s2, s3, s4⟩ := Sc.out c (List.mem_of_getElem? hck)
        rw [drop_at hck] at hdo
        obtain ⟨a, rfl, hcw⟩ : ∃ a, o = some a ∧ ∀ j u, (chgC c)[j]? = some u → wr.cell? ((a.add (k * 7)).add j) = some u := by
          obtain ⟨o2, c2, e, _, _, h4⟩ := Hcc.out wr hbr
          injection e with e1 e2 e3
          subst e1
          obtain ⟨a, ha, _, h5⟩ := h4 k c hck
          exact ⟨a, ha, h5⟩
        have hdone := done10_any c wr hents hpre.inc (by omega) (fun e he => by have := itself_sizes (hpre.it e he); omega) (by omega) (by omega) (by omega) (by omega)
        unfold chgV at hdone
        have Hcw := Lib.hid hcw
        have Hdone := Lib.hid hdone
        have Hbr := Lib.hid hbr
        have Hdo := Lib.hid hdo
        have Hpre := Lib.hid hpre
        clear hcw hdone hbr hdo hck hents
        cases hd : doneL L c with
        | error nn =>
          obtain ⟨n1, n2⟩ := doneL_err hd
          have Hres := Lib.hid (HBd.out nn k (Hdo.out.trans (doL_err hd)))
          have Hd := Lib.hid hd
          have hnn : ¬ (nn : Int) = 0 := by omega
          clear hd hpre Hpre Hdo
          go_wp2_with (refine wpList_load_items rfl _ _ rfl (a.add (k * 7)) rfl [.string c.p, .bool c.g, .string c.e.p, .int .i64 c.e.k, .int .i64 c.e.m, .string c.e.d, .string c.e.l] _ Hcw.out Tryz.underlying54 rfl (by kernel_rfl) ?_)
          refine Hdone.out.mono ?_
          rintro r w3 hr3
          obtain ⟨v3, rfl, _⟩ := hr3.ans
          have B3 := Lib.hid (Hbr.out.trans (hr3.below.mono Hbr.out.size))
          have K3 := Lib.hid (Hk.out w3 B3.out)
          rw [Hd.out]
          unfold doneN
          clear hr3
          go_wp2_with (refine wpList_store_row rfl _ _ _ rfl w.heap.size #[.int .i64 (nn : Int), .int .i64 1, .int .i64 (k : Int)] rfl rfl 25 _ K3.out (by kernel_rfl) rfl (by simp [Value.oneCell']) ?_)
          refine bodyPost_ret_by (v := .tuple #[.slice none 0 0, .agg #[.int .i64 (nn : Int), .int .i64 1, .int .i64 (k : Int)]]) ?_ rfl ⟨Hset.out w3 _ B3.out, .slice none 0 0, ?_, ?_⟩
          · exact results_tmp_row (t := 4) (p := 5) (ty := 25) rfl _ _ w.heap.size _ _ _ _ rfl (grow_at K3.out) Tryz.underlying25 rfl (by kernel_rfl)
          · rw [Hres.out]; rfl
          · rw [Hres.out]; exact ItemsAt.nil _
        | ok L' =>
          have hlen2 := doneL_len hpre hd
          have Hpre2 := Lib.hid (doneL_pre hpre hd)
          have Hdo2 := Lib.hid (Hdo.out.trans (doL_cons hd))
          have Hd := Lib.hid hd
          clear hd hpre Hpre Hdo
          go_wp2_with (refine wpList_load_items rfl _ _ rfl (a.add (k * 7)) rfl [.string c.p, .bool c.g, .string c.e.p, .int .i64 c.e.k, .int .i64 c.e.m, .string c.e.d, .string c.e.l] _ Hcw.out Tryz.underlying54 rfl (by kernel_rfl) ?_)
          refine Hdone.out.mono ?_
          rintro r w3 hr3
          obtain ⟨v3, rfl, hv3⟩ := hr3.ans
          have B3 := Lib.hid (Hbr.out.trans (hr3.below.mono Hbr.out.size))
          have V3 := Lib.hid (RowE.ents (hv3 L' Hd.out))
          rw [Hd.out, show doneN (Except.ok L' : Except Nat (List Ent)) = 0 from rfl]
          clear hr3 hv3
          go_wp2_with fail
          go_roundw
          case rel => exact ⟨k + 1, L', by go_num, by omega, V3.out, Hpre2.out, by omega, Hdo2.out, B3.out⟩
          case measure => simp [intOf]; omega
      · obtain rfl : k = m := by omega
        have hend : doL T C 0 = .ok L := by rw [hdo, Hm.out, List.drop_length]; rfl
        have hres := HE.out L hend
        have hbyt := hpre.bytes
        have hby := fun W (hW : EntsAt W u8 L) => bytes10_any u8 L W hW (by omega) (by omega)
        obtain ⟨oL, cL, hu8, hL1, hL2, hL3⟩ := id hents
        have Hres := Lib.hid hres
        have Hby := Lib.hid hby
        have Hents := Lib.hid hents
        have Hbr := Lib.hid hbr
        have K3 := Lib.hid (Hk.out wr hbr)
        obtain ⟨s, hs⟩ : ∃ s, s = bytesE L := ⟨_, rfl⟩
        obtain ⟨nL, hnL⟩ : ∃ s, s = L.length := ⟨_, rfl⟩
        rw [← hs, ← hnL, ← Hm.out] at Hres
        rw [← hs] at Hby
        rw [← hnL] at hu8 hL1 hlen
        have hsm : s ≤ 4398046511104 := by rw [hs]; omega
        subst hu8
        clear hend hres hby hents hbr hpre hdo hbyt hs hnL hL3
        by_cases c1 : 4096 < nL
        · have HR := Lib.hid (Hres.out.trans (if_pos (.inl c1)))
          go_wp2_with (refine wpList_store_row rfl _ _ _ rfl w.heap.size #[.int .i64 5, .int .i64 1, .int .i64 (k : Int)] rfl rfl 25 _ K3.out (by kernel_rfl) rfl (by simp [Value.oneCell']) ?_)
          refine bodyPost_ret_by (v := .tuple #[.slice none 0 0, .agg #[.int .i64 5, .int .i64 1, .int .i64 (k : Int)]]) ?_ rfl ⟨Hset.out wr _ Hbr.out, .slice none 0 0, ?_, ?_⟩
          · exact results_tmp_row (t := 4) (p := 5) (ty := 25) rfl _ _ w.heap.size _ _ _ _ rfl (grow_at K3.out) Tryz.underlying25 rfl (by kernel_rfl)
          · rw [HR.out]; rfl
          · rw [HR.out]; exact ItemsAt.nil _
        · by_cases c2 : 16777216 < s
          · have HR := Lib.hid (Hres.out.trans (if_pos (.inr c2)))
            go_wp2_with fail
            refine (Hby.out wr Hents.out).mono ?_
            rintro r w3 ⟨rfl, rfl⟩
            go_wp2_with (refine wpList_store_row rfl _ _ _ rfl w.heap.size #[.int .i64 5, .int .i64 1, .int .i64 (k : Int)] rfl rfl 25 _ K3.out (by kernel_rfl) rfl (by simp [Value.oneCell']) ?_)
            refine bodyPost_ret_by (v := .tuple #[.slice none 0 0, .agg #[.int .i64 5, .int .i64 1, .int .i64 (k : Int)]]) ?_ rfl ⟨Hset.out w3 _ Hbr.out, .slice none 0 0, ?_, ?_⟩
            · exact results_tmp_row (t := 4) (p := 5) (ty := 25) rfl _ _ w.heap.size _ _ _ _ rfl (grow_at K3.out) Tryz.underlying25 rfl (by kernel_rfl)
            · rw [HR.out]; rfl
            · rw [HR.out]; exact ItemsAt.nil _
          · have HR := Lib.hid (Hres.out.trans (if_neg (by omega)))
            go_wp2_with fail
            refine (Hby.out wr Hents.out).mono ?_
            rintro r w3 ⟨rfl, rfl⟩
            go_wp2_with (refine wpList_store_row rfl _ _ _ rfl w.heap.size #[.int .i64 0, .int .i64 0, .int .i64 0] rfl rfl 25 _ K3.out (by kernel_rfl) rfl (by simp [Value.oneCell']) ?_)
            refine bodyPost_ret_by (v := .tuple #[.slice oL nL cL, .agg #[.int .i64 0, .int .i64 0, .int .i64 0]]) ?_ rfl ⟨Hset.out w3 _ Hbr.out, .slice oL nL cL, ?_, ?_⟩
            · exact results_tmp_row (t := 4) (p := 5) (ty := 25) rfl _ _ w.heap.size _ _ _ _ rfl (grow_at K3.out) Tryz.underlying25 rfl (by kernel_rfl)
            · rw [HR.out]; rfl
            · rw [HR.out]; exact ents_set Hents.out K3.out
  · have Hres := Lib.hid (apply_check (C := C) ca)
    have hca : ¬ ((checkL T).1 : Int) = 0 := by omega
    clear hw0 hb0 hk hbl hc0 h1 h2 hset ca ha sa sc hcc hc
    go_enter Tryz.func18, Tryz.ntmps18
    go_upto_region 1 with fail
    rw [← Hw0.out]
    go_wp2_with fail
    refine H1.out.mono ?_
    rintro r w1 ⟨rfl, hb⟩
    have B1 := Lib.hid hb
    have K1 := Lib.hid (Hk.out w1 B1.out)
    clear hb
    go_wp2_with (refine wpList_store_row rfl _ _ _ rfl w.heap.size #[.int .i64 ((checkL T).1 : Int), .int .i64 0, .int .i64 ((checkL T).2 : Int)] rfl rfl 25 _ K1.out (by kernel_rfl) rfl (by simp [Value.oneCell']) ?_)
    refine bodyPost_ret_by (v := .tuple #[.slice none 0 0, .agg #[.int .i64 ((checkL T).1 : Int), .int .i64 0, .int .i64 ((checkL T).2 : Int)]]) ?_ rfl ⟨Hset.out w1 _ B1.out, .slice none 0 0, ?_, ?_⟩
    · exact results_tmp_row (t := 4) (p := 5) (ty := 25) rfl _ _ w.heap.size _ _ _ _ rfl (grow_at K1.out) Tryz.underlying25 rfl (by kernel_rfl)
    · rw [Hres.out]; rfl
    · rw [Hres.out]; exact ItemsAt.nil _
end
end Go.Proofs.YtipfccfjniglbaaGreatDoor
namespace Go.Proofs.YtipfccfjniglbaaGreatDoor
section
open Go.RowKit Go.Maps Go.Shelf
open Go.Lib hiding intOf size_eq
def backC (T : List Ent) (R : Except (Nat × Nat × Nat) (List Ent)) : List Chg := match R with
  | .error _ => []
  | .ok L => chgL L T
theorem applyN_err {T : List Ent} {C : List Chg} : (∃ L, applyL T C = .ok L) ∨ ∃ x, applyL T C = .error x ∧ 1 ≤ x.1 ∧ x.1 ≤ 32 := by
  cases h : applyL T C with
  | ok L => exact .inl ⟨L, rfl⟩
  | error x =>
    obtain ⟨n, ln, at_⟩ := x
    exact .inr ⟨_, rfl, applyL_err h⟩
theorem chgs_set {W : World} {v : Value} {L : List Chg} {f : Nat} {a b c : Int} {t : TypeId} {fz : Nat × Nat} {cs : Array Value} (h : ChgsAt W v L) (hf : W.heap[f]? = some (.cells #[.int .i64 a, .int .i64 b, .int .i64 c] t fz)) : ChgsAt (W.setRow f cs) v L := by
  obtain ⟨o, cap, h1, h2, h3, h4⟩ := h
  refine ⟨o, cap, h1, h2, h3, fun i e he => ?_⟩
  obtain ⟨ad, ha, hl, hc⟩ := h4 i e he
  refine ⟨ad, ha, by simpa using hl, fun j x hx => ?_⟩
  have hne : ad.block ≠ f := fun e2 => by
    have h0 := hc 0 _ rfl
    unfold World.cell? at h0
    rw [gadd_block, gadd_block, e2, hf] at h0
    generalize ((ad.add (i * 7)).add 0).off = q at h0
    match q, h0 with
    | 0, h0 => simp at h0
    | 1, h0 => simp at h0
    | 2, h0 => simp at h0
    | q + 3, h0 => simp at h0
  have := hc j x hx
  unfold World.cell? at this ⊢
  rw [setRow_other W f _ _ (by rw [gadd_block, gadd_block]; exact hne)]
  exact this
attribute [local irreducible] wpStill wpQuiet
set_option maxRecDepth 100000 in
set_option maxHeartbeats 8000000 in
theorem rback10_any (va vl : Value) (T : List Ent) (C : List Chg) (w : World) (ha : EntsAt w va T) (hc : ChgsAt w vl C) (sa : ∀ x ∈ T, x.p.size ≤ 1048576 ∧ x.d.size ≤ 1048576 ∧ x.l.size ≤ 1048576) (sc : ∀ c ∈ C, c.p.size ≤ 1048576 ∧ c.e.p.size ≤ 1048576 ∧ c.e.d.size ≤ 1048576 ∧ c.e.l.size ≤ 1048576) (hlT : T.length ≤ 1048576) (hlC : C.length ≤ 1048576) :
    Calls Tryz.prog 24 #[va, vl] w fun r w' => Below w.heap.size w w' ∧ ∃ v, r = .returned (.tuple #[v, fltA (applyN (applyL T C))]) ∧ ChgsAt w' v (backC T (applyL T C)) := by
  obtain ⟨w0, hw0⟩ : ∃ x, x = w.alloc (.cells #[.int .i64 0, .int .i64 0, .int .i64 0] 25) := ⟨_, rfl⟩
  have hb0 : Below w.heap.size w w0 := by rw [hw0]; exact (Below.refl _ _).alloc (Nat.le_refl _) _
  have hc0 : w0.heap[w.heap.size]? = some (.cells #[.int .i64 0, .int .i64 0, .int .i64 0] 25 (0, 0)) := by rw [hw0]; exact World.alloc_heap_new w _
  have hbl := heap_lt hc0
  have hk : ∀ W, Below w0.heap.size w0 W → W.heap[w.heap.size]? = some (.cells #[.int .i64 0, .int .i64 0, .int .i64 0] 25 (0, 0)) := fun W hW => (hW.block _ hbl).trans hc0
  have h1 := rapply10_any va vl T C w0 (ha.below hb0 (Nat.le_refl _)) (ItemsAt.below hc hb0 (Nat.le_refl _)) sa sc hlT hlC
  have hset : ∀ W (cs : Array Value), Below w0.heap.size w0 W → Below w.heap.size w (W.setRow w.heap.size cs) := fun W cs hW => by
    have h := hb0.trans (hW.mono (by omega))
    exact ⟨h.os, h.tape, h.output, by simpa using h.size, fun j hj => (setRow_other W w.heap.size j _ (by omega)).trans (h.block j hj)⟩
  have Hw0 := Lib.hid hw0
  have Hk := Lib.hid hk
  have H1 := Lib.hid h1
  have Hset := Lib.hid hset
  rcases applyN_err (T := T) (C := C) with ⟨L, hA⟩ | ⟨x, hA, n1, n2⟩
  · obtain ⟨gT, gL⟩ := applyL_good (fun h => good_of_check h) hA
    have h3 := fun v (W : World) (hW : Below w0.heap.size w0 W) (hv : EntsAt W v L) => changes10_any v va L T W hv ((ha.below hb0 (Nat.le_refl _)).below hW (Nat.le_refl _)) (by have := gL.len; omega) (by omega) (fun e he => by have := itself_sizes (gL.it e he); omega) (fun e he => by have := (sa e he).1; omega)
    have href := refL_chg gL gT
    rw [href] at h3
    have H3 := Lib.hid h3
    have HA := Lib.hid hA
    rw [hA] at H1
    rw [show applyN (Except.ok L : Except (Nat × Nat × Nat) (List Ent)) = (0, 0, 0) from rfl, show applyE (Except.ok L : Except (Nat × Nat × Nat) (List Ent)) = L from rfl] at H1
    unfold fltA at H1
    clear hw0 hb0 hk hbl hc0 h1 hset h3 href hA gT gL ha hc sa sc
    go_enter Tryz.func24, Tryz.ntmps24
    go_upto_region 1 with fail
    rw [← Hw0.out]
    go_wp2_with fail
    refine H1.out.mono ?_
    rintro r w1 ⟨hb, v1, rfl, hv1⟩
    have B1 := Lib.hid hb
    have V2 := Lib.hid (EntsAt.new hv1 (.cells #[.int .i64 0, .int .i64 0, .int .i64 0] 25))
    have B2 := Lib.hid (B1.out.alloc B1.out.size (.cells #[.int .i64 0, .int .i64 0, .int .i64 0] 25))
    clear hb hv1
    go_wp2_with fail
    refine (H3.out v1 _ B2.out V2.out).mono ?_
    rintro r w3 ⟨v3, rfl, hr, hb⟩
    have B3 := Lib.hid (B2.out.trans (hb.mono (by rw [World.size_alloc]; have := B1.out.size; omega)))
    have K3 := Lib.hid (Hk.out w3 B3.out)
    have R3 := Lib.hid (RowE.chgs hr)
    clear hb hr
    go_wp2_with (refine wpList_store_row rfl _ _ _ rfl w.heap.size #[.int .i64 0, .int .i64 0, .int .i64 0] rfl rfl 25 _ K3.out (by kernel_rfl) rfl (by simp [Value.oneCell']) ?_)
    refine bodyPost_ret_by (v := .tuple #[v3, .agg #[.int .i64 0, .int .i64 0, .int .i64 0]]) ?_ rfl ⟨Hset.out w3 _ B3.out, v3, ?_, ?_⟩
    · exact results_tmp_row (t := 4) (p := 5) (ty := 25) rfl _ _ w.heap.size _ _ _ _ rfl (grow_at K3.out) Tryz.underlying25 rfl (by kernel_rfl)
    · rw [HA.out]; rfl
    · rw [HA.out]; exact chgs_set R3.out K3.out
  · obtain ⟨n, ln, at_⟩ := x
    have HA := Lib.hid hA
    rw [hA] at H1
    rw [show applyN (Except.error (n, ln, at_) : Except (Nat × Nat × Nat) (List Ent)) = (n, ln, at_) from rfl] at H1
    unfold fltA at H1
    have hnn : ¬ (n : Int) = 0 := by have : 1 ≤ n := n1; omega
    clear hw0 hb0 hk hbl hc0 h1 hset hA ha hc sa sc n1 n2
    go_enter Tryz.func24, Tryz.ntmps24
    go_upto_region 1 with fail
    rw [← Hw0.out]
    go_wp2_with fail
    refine H1.out.mono ?_
    rintro r w1 ⟨hb, v1, rfl, _⟩
    have B1 := Lib.hid hb
    obtain ⟨w2, hw2⟩ : ∃ z, z = w1.alloc (.cells #[.int .i64 (n : Int), .int .i64 (ln : Int), .int .i64 (at_ : Int)] 25) := ⟨_, rfl⟩
    have hc2 : w2.heap[w1.heap.size]? = some (.cells #[.int .i64 (n : Int), .int .i64 (ln : Int), .int .i64 (at_ : Int)] 25 (0, 0)) := by rw [hw2]; exact World.alloc_heap_new _ _
    have x0 : w2.cell? ⟨w1.heap.size, 0, none⟩ = some (.int .i64 (n : Int)) := block_cell (j := 0) hc2 rfl
    have B2 := Lib.hid (show Below w0.heap.size w0 w2 by rw [hw2]; exact B1.out.alloc B1.out.size _)
    have Hc2 := Lib.hid hc2
    have Hw2 := Lib.hid hw2
    clear hb hw2 hc2
    go_upto_region 2 with fail
    rw [← Hw2.out]
    go_wp2_with fail
    refine gregion_tail 2 (by kernel_rfl) (by kernel_rfl) ?_
    intro wz hz
    have BZ := Lib.hid (show Below w0.heap.size w0 wz by rw [hz]; exact below_drew B2.out)
    have KZ := Lib.hid (Hk.out wz BZ.out)
    have CZ := Lib.hid (show wz.heap[w1.heap.size]? = some (.cells #[.int .i64 (n : Int), .int .i64 (ln : Int), .int .i64 (at_ : Int)] 25 (0, 0)) by rw [hz]; exact Hc2.out)
    clear hz x0
    simp only [List.take_succ_cons, List.take_zero, List.drop_succ_cons, List.drop_zero]
    refine still_load_at2 rfl _ _ rfl ⟨w1.heap.size, 0, none⟩ rfl [.int .i64 (n : Int), .int .i64 (ln : Int), .int .i64 (at_ : Int)] _ (item_cells CZ.out) Tryz.underlying25 rfl (by kernel_rfl) ?_
    iterate 1 still_step
    refine wpStill_nil ?_
    go_wp2_with (refine wpList_store_row rfl _ _ _ rfl w.heap.size #[.int .i64 (n : Int), .int .i64 (ln : Int), .int .i64 (at_ : Int)] rfl rfl 25 _ KZ.out (by kernel_rfl) rfl (by simp [Value.oneCell']) ?_)
    refine bodyPost_ret_by (v := .tuple #[.slice none 0 0, .agg #[.int .i64 (n : Int), .int .i64 (ln : Int), .int .i64 (at_ : Int)]]) ?_ rfl ⟨Hset.out wz _ BZ.out, .slice none 0 0, ?_, ?_⟩
    · exact results_tmp_row (t := 4) (p := 5) (ty := 25) rfl _ _ w.heap.size _ _ _ _ rfl (grow_at KZ.out) Tryz.underlying25 rfl (by kernel_rfl)
    · rw [HA.out]; rfl
    · rw [HA.out]; exact ItemsAt.nil _
/-- Back in one form -/
theorem back_uni (va vl : Value) (T : List Ent) (C : List Chg) (w : World) (ha : EntsAt w va T) (hc : ChgsAt w vl C) (sa : Small T) (sc : SmallC C) (hlT : T.length ≤ 1048576) (hlC : C.length ≤ 1048576) (hg : Handle w) :
    Calls Tryz.prog 25 #[va, vl] w fun r w' => Below w.heap.size w w' ∧ ∃ v e, r = .returned (.tuple #[v, e]) ∧ ErrW e (applyN (applyL T C)) ∧ w'.ownsRow w.heap.size 54 7 v (backC T (applyL T C)).length ((backC T (applyL T C)).flatMap chgC) ∧ (backC T (applyL T C) = [] → v = .slice none 0 0) := by
  refine (back_any va vl T C w ha hc sa sc hlT hlC hg).mono ?_
  rintro r w' ⟨h1, v, e, h2, h3⟩
  refine ⟨h1, v, e, h2, ?_⟩
  rcases applyN_err (T := T) (C := C) with ⟨L, hA⟩ | ⟨⟨n, ln, at_⟩, hA, n1, n2⟩
  · rw [hA]
    obtain ⟨h4, h5, h6⟩ := h3.ok L hA
    exact ⟨.inl ⟨rfl, h4, rfl⟩, h5, h6⟩
  · rw [hA]
    obtain ⟨h4, h5⟩ := h3.err n ln at_ hA
    subst h4
    exact ⟨.inr ⟨n1, n2, h5⟩, World.ownsRow_nil _ _ _ _, fun _ => rfl⟩
end
end Go.Proofs.YtipfccfjniglbaaGreatDoor
