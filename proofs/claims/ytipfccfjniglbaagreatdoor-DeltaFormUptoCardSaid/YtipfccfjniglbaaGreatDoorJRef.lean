/- Joined: what these texts prove stands at the head of each part: EBase, EGone, EChg, ESaid. -/
import Derived.Test.YtipfccfjniglbaaGreatDoorDWorks
import Derived.Test.YtipfccfjniglbaaGreatDoorUOne
import Derived.Test.YtipfccfjniglbaaGreatDoorDMakes
import Derived.Test.YtipfccfjniglbaaGreatDoorDUndone
import Derived.Deep.RegionHeld3
set_option linter.unusedSimpArgs false
set_option linter.unusedVariables false
namespace Go.Proofs.YtipfccfjniglbaaGreatDoor
section
open Go.RowKit Go.Maps Go.Shelf Go.Sort
open Go.Lib hiding intOf size_eq
theorem quiet_neq_guard {P : Program} {ops : Array Oper} {C : World → Prop} {rest : List Oper} {o : Oper} {a : Act} {Q : Act → Prop} (hw : Region.wanted o (yielded ops a.tmps) = true) (ty t2 : TypeId) (x y : Operand) (ho : o.op = .binOp .neq ty x y t2)
    (xs ys : Array Value) (hx : a.eval x = .agg xs) (hy : a.eval y = .agg ys) (q : Bool) (hm : P.eqGuardType P.depth ty = false) (hr : ∀ w, (binOp .neq ty (.agg xs) (.agg ys)).run P w = .ok (.bool q) w)
    (h : wpQuiet P ops C Q rest (a.put o.dst (.bool q))) : wpQuiet P ops C Q (o :: rest) a := by
  refine wpQuiet_step (fun K hK => ?_)
  rw [if_pos hw]
  refine ⟨.bool q, fun w hC => ?_, hK _ h⟩
  unfold Oper.quietAt execOp
  simp only [ho, hx, hy, Sem.run_bind, run_eqGuard_agg w .neq ty x y xs ys hm, Result.andThen_ok, hr w, Sem.run_pure]
  exact ⟨rfl, rfl⟩
theorem quiet_skip {P : Program} {ops : Array Oper} {C : World → Prop} {rest : List Oper} {o : Oper} {a : Act} {Q : Act → Prop} (hw : Region.wanted o (yielded ops a.tmps) = false) (h : wpQuiet P ops C Q rest (a.put o.dst undef)) : wpQuiet P ops C Q (o :: rest) a := by
  refine wpQuiet_step (fun K hK => ?_)
  rw [if_neg (by rw [hw]; decide)]
  exact hK _ h
set_option maxRecDepth 100000 in
theorem sort10_any (e : Ent) (w : World) : Calls Tryz.prog 77 #[.agg #[.string e.p, .int .i64 e.k, .int .i64 e.m, .string e.d, .string e.l]] w fun r w' => r = .returned (.bool (e.k == 1)) ∧ Below w.heap.size w w' := by
  go_enter Tryz.func77, Tryz.ntmps77
  go_wp2
  go_ret
  exact ⟨rfl, (Below.refl _ _).alloc (Nat.le_refl _) _⟩
theorem alike_k (x y : Ent) {bx bc : Bool} (hx : (x.k == 1) = bx) (hy : (y.k == 1) = bc) : alike x y = (bx == bc) := by
  have hb : ∀ z : Int, (z == 1) = decide (z = 1) := fun z => by by_cases h : z = 1 <;> simp [h]
  rw [← hx, ← hy, hb, hb]
  rfl
theorem cells_regrown {w : World} {a : Addr} {cs : List Value} (h : ∀ j x, cs[j]? = some x → w.cell? (a.add j) = some x) : ∀ W, (∃ p : Regrown, W = grow (redrawn w p.d) p.os) → ∀ j x, cs[j]? = some x → W.cell? (a.add j) = some x :=
  fun W ⟨q, hq⟩ j x hj => by rw [hq]; exact cell_regrown (h j x hj) q.d q.os
theorem ent_cells_at {w : World} {o : Option Addr} {n cap : Nat} {L : List Ent} (h : EntsAt w (.slice o n cap) L) {k : Nat} {x : Ent} (hk : L[k]? = some x) : ∃ a, o = some a ∧ ∀ j u, (entC x)[j]? = some u → w.cell? ((a.add (k * 5)).add j) = some u := by
  obtain ⟨o2, c2, e, _, _, hc⟩ := h
  injection e with e1 e2 e3
  subst e1
  obtain ⟨a, ha, _, h2⟩ := hc k x hk
  exact ⟨a, ha, h2⟩
set_option maxRecDepth 100000 in
set_option maxHeartbeats 4000000 in
theorem lost10_any (x : Ent) (v : Value) (L : List Ent) (w : World) (h : EntsAt w v L) (hl : L.length ≤ 1099511627776) (hb : ∀ e ∈ L, e.p.size < 4611686018427387904) (hx : x.p.size < 4611686018427387904) :
    Calls Tryz.prog 97 #[.agg #[.string x.p, .int .i64 x.k, .int .i64 x.m, .string x.d, .string x.l], v] w fun r w' => r = .returned (.bool (lostE L x)) ∧ Below w.heap.size w w' := by
  obtain ⟨w0, hw0⟩ : ∃ z, z = w.alloc (.cells #[.string x.p, .int .i64 x.k, .int .i64 x.m, .string x.d, .string x.l] 52) := ⟨_, rfl⟩
  have hb0 : Below w.heap.size w w0 := by rw [hw0]; exact (Below.refl _ _).alloc (Nat.le_refl _) _
  have hc0 : w0.heap[w.heap.size]? = some (.cells #[.string x.p, .int .i64 x.k, .int .i64 x.m, .string x.d, .string x.l] 52 (0, 0)) := by rw [hw0]; exact World.alloc_heap_new w _
  have hp0 : w0.cell? ⟨w.heap.size, 0, none⟩ = some (.string x.p) := block_cell (j := 0) hc0 rfl
  have h0 := h.below hb0 (Nat.le_refl _)
  have hf := find07_any v L x.p w0 h0 hl hb hx
  have hcell : ∀ j u, (entC x)[j]? = some u → w0.cell? ((⟨w.heap.size, 0, none⟩ : Addr).add j) = some u := item_cells (cs := entC x) hc0
  obtain ⟨o, cap, rfl, hlc, hcm, hcells⟩ := h
  obtain ⟨n, hn⟩ : ∃ n, n = L.length := ⟨_, rfl⟩
  rw [← hn] at hlc hl h0 hf ⊢
  have Hw0 := Lib.hid hw0
  have Hb0 := Lib.hid hb0
  have Hf := Lib.hid hf
  have Kx := Lib.hid (cells_regrown hcell)
  have Hlen := Lib.hid hn
  cases hL : lookE L x.path with
  | none =>
    have hix : ixE L x.p.data.toList = -1 := ixE_look.1 hL
    have hres : lostE L x = true := by unfold lostE; rw [hL]
    have Hres := Lib.hid hres
    rw [hix] at Hf
    clear hw0 hb0 hf hcell hn hcells hL hix hres hb hc0 h0
    go_enter Tryz.func97, Tryz.ntmps97
    go_upto_region 1 with fail
    rw [← Hw0.out]
    go_wp2_with fail
    refine Hf.out.mono ?_
    rintro r w1 ⟨rfl, rfl⟩
    go_wp2_with fail
    refine wp_region_quiet_below (by kernel_rfl) (by kernel_rfl) ?_
    iterate 3 (quiet_step (fail))
    iterate 8 (refine quiet_skip (by rfl) ?_; simp only [Act.put, List.setIfInBounds_toArray, List.set_cons_zero, List.set_cons_succ])
    iterate 2 (quiet_step (fail))
    refine wpQuiet_nil ?_
    intro wf hwf
    obtain ⟨⟨dq, oq⟩, hwf2⟩ := hwf
    subst hwf2
    have Bf := Lib.hid (Hb0.out.trans ((below_regrown w1 dq oq).mono Hb0.out.size))
    go_wp2_with fail
    go_ret
    exact ⟨by rw [Hres.out]; rfl, Bf.out⟩
  | some y =>
    obtain ⟨k, hix0, hk⟩ := ixE_look.2 y hL
    have hix : ixE L x.p.data.toList = (k : Int) := hix0
    have hkn : k < n := by rw [hn]; exact (List.getElem?_eq_some_iff.1 hk).1
    obtain ⟨a, rfl, hya⟩ := ent_cells_at h0 hk
    have Ky := Lib.hid (cells_regrown hya)
    obtain ⟨bx, hbx⟩ : ∃ b, (x.k == 1) = b := ⟨_, rfl⟩
    obtain ⟨bb, hby⟩ : ∃ b, (y.k == 1) = b := ⟨_, rfl⟩
    have hres : lostE L x = !(bb == bx) := by unfold lostE; rw [hL]; show (!alike y x) = _; rw [alike_k y x hby hbx]
    have Hres := Lib.hid hres
    have cY := fun d os => Calls.regrown_of (sort10_any y (grow (redrawn w0 d) os))
    have cX := fun d os => Calls.regrown_of (sort10_any x (grow (redrawn w0 d) os))
    rw [hbx] at cX
    rw [hby] at cY
    have CX := Lib.hid cX
    have CY := Lib.hid cY
    rw [hix] at Hf
    clear hw0 hb0 hf hcell hn hcells hL hix hix0 hres hb hc0 h0 hya hk hbx hby cX cY
    cases bx <;> cases bb
    all_goals
      go_enter Tryz.func97, Tryz.ntmps97
      go_upto_region 1 with fail
      rw [← Hw0.out]
      go_wp2_with fail
      refine Hf.out.mono ?_
      rintro r w1 ⟨rfl, rfl⟩
      go_wp2_with fail
      refine wp_region_quiet_below (by kernel_rfl) (by kernel_rfl) ?_
      iterate 6 (quiet_step (fail))
      refine quiet_load_guard (by rfl) _ _ rfl (a.add (k * 5)) rfl [.string y.p, .int .i64 y.k, .int .i64 y.m, .string y.d, .string y.l] _ Ky.out Tryz.underlying52 rfl (by kernel_rfl) ?_
      quiet_step (exact CY.out _ _)
      refine quiet_load_guard (by rfl) _ _ rfl ⟨w.heap.size, 0, none⟩ rfl [.string x.p, .int .i64 x.k, .int .i64 x.m, .string x.d, .string x.l] _ Kx.out Tryz.underlying52 rfl (by kernel_rfl) ?_
      iterate 4 (quiet_step (exact CX.out _ _))
      refine wpQuiet_nil ?_
      intro wf hwf
      obtain ⟨⟨dq, oq⟩, hwf2⟩ := hwf
      subst hwf2
      have Bf := Lib.hid (Hb0.out.trans ((below_regrown w1 dq oq).mono Hb0.out.size))
      go_wp2_with fail
      go_ret
      exact ⟨by rw [Hres.out]; rfl, Bf.out⟩
set_option maxRecDepth 100000 in
set_option maxHeartbeats 4000000 in
theorem laid10_any (y : Ent) (v : Value) (L : List Ent) (w : World) (h : EntsAt w v L) (hl : L.length ≤ 1099511627776) (hb : ∀ e ∈ L, e.p.size < 4611686018427387904) (hy : y.p.size < 4611686018427387904) :
    Calls Tryz.prog 65 #[v, .agg #[.string y.p, .int .i64 y.k, .int .i64 y.m, .string y.d, .string y.l]] w fun r w' => r = .returned (.bool (laidR L y)) ∧ Below w.heap.size w w' := by
  obtain ⟨w0, hw0⟩ : ∃ z, z = w.alloc (.cells #[.string y.p, .int .i64 y.k, .int .i64 y.m, .string y.d, .string y.l] 52) := ⟨_, rfl⟩
  have hb0 : Below w.heap.size w w0 := by rw [hw0]; exact (Below.refl _ _).alloc (Nat.le_refl _) _
  have hc0 : w0.heap[w.heap.size]? = some (.cells #[.string y.p, .int .i64 y.k, .int .i64 y.m, .string y.d, .string y.l] 52 (0, 0)) := by rw [hw0]; exact World.alloc_heap_new w _
  have hp0 : w0.cell? ⟨w.heap.size, 0, none⟩ = some (.string y.p) := block_cell (j := 0) hc0 rfl
  have h0 := h.below hb0 (Nat.le_refl _)
  have hf := find07_any v L y.p w0 h0 hl hb hy
  have hcell : ∀ j u, (entC y)[j]? = some u → w0.cell? ((⟨w.heap.size, 0, none⟩ : Addr).add j) = some u := item_cells (cs := entC y) hc0
  obtain ⟨o, cap, rfl, hlc, hcm, hcells⟩ := h
  obtain ⟨n, hn⟩ : ∃ n, n = L.length := ⟨_, rfl⟩
  rw [← hn] at hlc hl h0 hf ⊢
  have Hw0 := Lib.hid hw0
  have Hb0 := Lib.hid hb0
  have Hf := Lib.hid hf
  have Kx := Lib.hid (cells_regrown hcell)
  have Hlen := Lib.hid hn
  cases hL : lookE L y.path with
  | none =>
    have hix : ixE L y.p.data.toList = -1 := ixE_look.1 hL
    have hres : laidR L y = true := by unfold laidR; rw [hL]
    have Hres := Lib.hid hres
    rw [hix] at Hf
    clear hw0 hb0 hf hcell hn hcells hL hix hres hb hc0 h0
    go_enter Tryz.func65, Tryz.ntmps65
    go_upto_region 1 with fail
    rw [← Hw0.out]
    go_wp2_with fail
    refine Hf.out.mono ?_
    rintro r w1 ⟨rfl, rfl⟩
    go_wp2_with fail
    refine wp_region_quiet_below (by kernel_rfl) (by kernel_rfl) ?_
    iterate 3 (quiet_step (fail))
    iterate 6 (refine quiet_skip (by rfl) ?_; simp only [Act.put, List.setIfInBounds_toArray, List.set_cons_zero, List.set_cons_succ])
    iterate 2 (quiet_step (fail))
    refine wpQuiet_nil ?_
    intro wf hwf
    obtain ⟨⟨dq, oq⟩, hwf2⟩ := hwf
    subst hwf2
    have Bf := Lib.hid (Hb0.out.trans ((below_regrown w1 dq oq).mono Hb0.out.size))
    go_wp2_with fail
    go_ret
    exact ⟨by rw [Hres.out]; rfl, Bf.out⟩
  | some x =>
    obtain ⟨k, hix0, hk⟩ := ixE_look.2 x hL
    have hix : ixE L y.p.data.toList = (k : Int) := hix0
    have hkn : k < n := by rw [hn]; exact (List.getElem?_eq_some_iff.1 hk).1
    obtain ⟨a, rfl, hya⟩ := ent_cells_at h0 hk
    have Ky := Lib.hid (cells_regrown hya)
    obtain ⟨q, hq⟩ : ∃ q, q = entEq x y := ⟨_, rfl⟩
    have hres : laidR L y = !q := by unfold laidR; rw [hL, hq]
    have hneq := neq_ent x y
    rw [← hq] at hneq
    have Hneq := Lib.hid hneq
    have Hres := Lib.hid hres
    rw [hix] at Hf
    clear hw0 hb0 hf hcell hn hcells hL hix hix0 hres hb hc0 h0 hya hk hq hneq
    go_enter Tryz.func65, Tryz.ntmps65
    go_upto_region 1 with fail
    rw [← Hw0.out]
    go_wp2_with fail
    refine Hf.out.mono ?_
    rintro r w1 ⟨rfl, rfl⟩
    go_wp2_with fail
    refine wp_region_quiet_below (by kernel_rfl) (by kernel_rfl) ?_
    iterate 6 (quiet_step (fail))
    refine quiet_load_guard (by rfl) _ _ rfl (a.add (k * 5)) rfl [.string x.p, .int .i64 x.k, .int .i64 x.m, .string x.d, .string x.l] _ Ky.out Tryz.underlying52 rfl (by kernel_rfl) ?_
    refine quiet_load_guard (by rfl) _ _ rfl ⟨w.heap.size, 0, none⟩ rfl [.string y.p, .int .i64 y.k, .int .i64 y.m, .string y.d, .string y.l] _ Kx.out Tryz.underlying52 rfl (by kernel_rfl) ?_
    refine quiet_neq_guard (by rfl) _ _ _ _ rfl _ _ rfl rfl (!q) (by kernel_rfl) Hneq.out ?_
    iterate 2 (quiet_step (fail))
    refine wpQuiet_nil ?_
    intro wf hwf
    obtain ⟨⟨dq, oq⟩, hwf2⟩ := hwf
    subst hwf2
    have Bf := Lib.hid (Hb0.out.trans ((below_regrown w1 dq oq).mono Hb0.out.size))
    go_wp2_with fail
    go_ret
    exact ⟨by rw [Hres.out]; rfl, Bf.out⟩
set_option maxRecDepth 100000 in
set_option maxHeartbeats 2000000 in
theorem bytes10_any (v : Value) (L : List Ent) (w : World) (h : EntsAt w v L) (hl : L.length ≤ 1099511627776) (hb : bytesE L ≤ 1125899906842624) :
    Calls Tryz.prog 48 #[v] w fun r w' => r = .returned (.int .i64 (bytesE L : Int)) ∧ w' = w := by
  obtain ⟨o, cap, rfl, hlc, hcm, hcells⟩ := h
  obtain ⟨n, hn⟩ : ∃ n, n = L.length := ⟨_, rfl⟩
  rw [← hn] at hlc hl ⊢
  have Hcells := Lib.hid hcells
  have Hn := Lib.hid hn
  have Hb := Lib.hid hb
  clear hcells hn hb
  go_enter Tryz.func48, Tryz.ntmps48
  go_wp2
  go_loopw [3, 4] (fun sv iv wr => ∃ (k m : Nat), iv = .int .i64 (k : Int) ∧ sv = .int .i64 (m : Int) ∧ k ≤ n ∧ m = bytesE (L.take k) ∧ wr = w) (fun _ iv _ => n - (intOf iv).toNat)
  case atStart => exact ⟨0, 0, rfl, rfl, Nat.zero_le _, rfl, rfl⟩
  case round =>
    obtain ⟨k, m, rfl, rfl, hk, hm, rfl⟩ := hrel
    by_cases hlt : k < n
    · obtain ⟨e, hek⟩ : ∃ e, L[k]? = some e := ⟨_, List.getElem?_eq_getElem (by rw [← Hn.out]; exact hlt)⟩
      obtain ⟨a, rfl, hal, hcs⟩ := Hcells.out k e hek
      have c3 : wr.cell? ⟨(a.add (k * 5)).block, (a.add (k * 5)).off + 3, none⟩ = some (.string e.d) := by
        rw [← addpos3 (a.add (k * 5))]
        exact hcs 3 _ rfl
      have hst := bytes_step3 hek
      have hle := bytes_take3 L (k + 1)
      have hbb := Hb.out
      have hmd : m + e.d.size ≤ 1125899906842624 := by rw [hm]; omega
      have Hst := Lib.hid (show m + e.d.size = bytesE (L.take (k + 1)) by rw [hst, hm])
      clear hst hle hbb hm hcs hek
      go_wp2
      go_roundw
      case rel => exact ⟨k + 1, m + e.d.size, by go_num, by go_num, by omega, Hst.out, (by first | rfl | trivial)⟩
      case measure => simp [intOf]; omega
    · obtain rfl : k = n := by omega
      have hm2 : m = bytesE L := by rw [hm, Hn.out, List.take_length]
      have Hm := Lib.hid hm2
      clear hm hm2
      go_wp2
      go_ret
      exact ⟨by rw [← Hm.out]; rfl, rfl⟩
end
end Go.Proofs.YtipfccfjniglbaaGreatDoor
namespace Go.Proofs.YtipfccfjniglbaaGreatDoor
section
open Go.RowKit Go.Maps Go.Shelf Go.Sort
open Go.Lib hiding intOf size_eq
theorem any_take {f : Ent → Bool} {L : List Ent} {k : Nat} {x : Ent} (h : L[k]? = some x) : (L.take (k + 1)).any f = ((L.take k).any f || f x) := by
  rw [gtakeS h, List.any_append]
  simp
set_option maxRecDepth 100000 in
set_option maxHeartbeats 4000000 in
theorem gone10_any (va vb : Value) (A B : List Ent) (i : Nat) (x : Ent) (w : World) (ha : EntsAt w va A) (hb : EntsAt w vb B) (hx : A[i]? = some x) (la : A.length ≤ 1099511627776) (lb : B.length ≤ 1099511627776) (sa : ∀ e ∈ A, e.p.size < 1152921504606846976) (sb : ∀ e ∈ B, e.p.size < 1152921504606846976) :
    Calls Tryz.prog 64 #[va, vb, .int .i64 (i : Int)] w fun r w' => r = .returned (.bool (goneR B (A.take i) x)) ∧ Below w.heap.size w w' := by
  have hlost := fun (z : Ent) (hz : z.p.size < 1152921504606846976) (W : World) (hW : Below w.heap.size w W) => lost10_any z vb B W (hb.below hW (Nat.le_refl _)) lb (fun e he => by have := sb e he; omega) (by omega)
  have hxs := sa x (List.mem_of_getElem? hx)
  obtain ⟨lx, hlx⟩ : ∃ q, lostE B x = q := ⟨_, rfl⟩
  have hl0 := hlost x hxs w (Below.refl _ _)
  rw [hlx] at hl0
  have hA := ha
  obtain ⟨oa, ca, rfl, hac, ham, hacells⟩ := ha
  obtain ⟨ob, cb, rfl, hbc, hbm, hbcells⟩ := hb
  obtain ⟨n, hn⟩ : ∃ n, n = A.length := ⟨_, rfl⟩
  obtain ⟨m, hm⟩ : ∃ m, m = B.length := ⟨_, rfl⟩
  rw [← hn] at hac la hA
  rw [← hn]
  rw [← hm] at hbc lb hl0 hlost ⊢
  have hin : i < n := by rw [hn]; exact (List.getElem?_eq_some_iff.1 hx).1
  obtain ⟨a, rfl, hxa⟩ := ent_cells_at hA hx
  have hcw := fun (k : Nat) (z : Ent) (hk : A[k]? = some z) (W : World) (hW : Below w.heap.size w W) => (show ∀ j u, (entC z)[j]? = some u → W.cell? ((a.add (k * 5)).add j) = some u from by
    obtain ⟨a2, e, h2⟩ := ent_cells_at (hA.below hW (Nat.le_refl _)) hk
    injection e with e
    subst e
    exact h2)
  have Hl0 := Lib.hid hl0
  have Hlost := Lib.hid hlost
  have Hlx := Lib.hid hlx
  have Hxa := Lib.hid hxa
  have Hcw := Lib.hid hcw
  have Hx := Lib.hid hx
  have Hn := Lib.hid hn
  have Sa := Lib.hid sa
  clear hl0 hlost hlx hxa hcw hx hn hm hacells hbcells sa sb hA
  cases lx with
  | false =>
    have Hres := Lib.hid (show goneR B (A.take i) x = false by unfold goneR; rw [Hlx.out]; rfl)
    go_enter Tryz.func64, Tryz.ntmps64
    go_wp2_with (first
      | (refine wpList_load_items rfl _ _ rfl (a.add (i * 5)) rfl [.string x.p, .int .i64 x.k, .int .i64 x.m, .string x.d, .string x.l] _ Hxa.out Tryz.underlying52 rfl (by kernel_rfl) ?_)
      | (go_at_call 97; refine Hl0.out.mono ?_; rintro r w1 ⟨rfl, hb1⟩; have HB1 := Lib.hid hb1; clear hb1))
    go_ret
    exact ⟨by rw [Hres.out]; rfl, HB1.out⟩
  | true =>
    go_enter Tryz.func64, Tryz.ntmps64
    go_wp2_with (first
      | (refine wpList_load_items rfl _ _ rfl (a.add (i * 5)) rfl [.string x.p, .int .i64 x.k, .int .i64 x.m, .string x.d, .string x.l] _ Hxa.out Tryz.underlying52 rfl (by kernel_rfl) ?_)
      | (go_at_call 97; refine Hl0.out.mono ?_; rintro r w1 ⟨rfl, hb1⟩; have HB1 := Lib.hid hb1; clear hb1))
    go_loopw [7] (fun kv wr => ∃ (k : Nat), kv = .int .i64 (k : Int) ∧ k ≤ i ∧ Below w.heap.size w wr ∧ ((A.take k).any fun z => belowP z.path x.path && lostE B z) = false) (fun kv _ => i - (intOf kv).toNat)
    case atStart => exact ⟨0, rfl, Nat.zero_le _, HB1.out, rfl⟩
    case round =>
      obtain ⟨k, rfl, hk, hbr, hany⟩ := hrel
      have Hbr := Lib.hid hbr
      have Hany := Lib.hid hany
      clear hany hbr
      by_cases hlt : k < i
      · obtain ⟨z, hzk⟩ : ∃ z, A[k]? = some z := ⟨_, List.getElem?_eq_getElem (by rw [← Hn.out]; omega)⟩
        have hzs := Sa.out z (List.mem_of_getElem? hzk)
        have hkn : k < n := by omega
        have kz := Hcw.out k z hzk wr Hbr.out
        have kx := Hcw.out i x Hx.out wr Hbr.out
        have zk0 := kz 0 _ rfl
        have xk0 := kx 0 _ rfl
        rw [show (a.add (k * 5)).add 0 = a.add (k * 5) from if_pos rfl] at zk0
        rw [show (a.add (i * 5)).add 0 = a.add (i * 5) from if_pos rfl] at xk0
        have x1 : ∀ d os, (grow (redrawn wr d) os).cell? (a.add (k * 5)) = some (.string z.p) := fun d os => cell_regrown zk0 d os
        have x2 : ∀ d os, (grow (redrawn wr d) os).cell? (a.add (i * 5)) = some (.string x.p) := fun d os => cell_regrown xk0 d os
        have Kz := Lib.hid (cells_regrown kz)
        obtain ⟨q, hq⟩ : ∃ q, belowP z.path x.path = q := ⟨_, rfl⟩
        obtain ⟨lz, hlz⟩ : ∃ q, lostE B z = q := ⟨_, rfl⟩
        have cB := fun d os => Calls.regrown_of ((rbelow_any z.p x.p (grow (redrawn wr d) os) hzs hxs).mono (R' := fun e w' => e = .returned (.bool q) ∧ Below (grow (redrawn wr d) os).heap.size (grow (redrawn wr d) os) w') (fun e w' ⟨h1, h2⟩ => ⟨by rw [h1, ← hq]; rfl, by subst h2; exact Below.refl _ _⟩))
        have cL := fun d os => Calls.regrown_of (Hlost.out z hzs (grow (redrawn wr d) os) (Hbr.out.trans ((below_regrown wr d os).mono Hbr.out.size)))
        rw [hlz] at cL
        have CB := Lib.hid cB
        have CL := Lib.hid cL
        have Hst := Lib.hid (show ((A.take (k + 1)).any fun z => belowP z.path x.path && lostE B z) = (q && lz) by rw [any_take hzk, Hany.out, hq, hlz]; rfl)
        have Hzk := Lib.hid hzk
        clear cB cL hq hlz hzk kz kx zk0 xk0
        go_wp2_with fail
        refine wp_region_quiet_below (by kernel_rfl) (by kernel_rfl) ?_
        iterate 10 (quiet_step (fail))
        iterate 2 (quiet_step (exact CB.out _ _))
        cases q with
        | false =>
          iterate 6 (refine quiet_skip (by rfl) ?_; simp only [Act.put, List.setIfInBounds_toArray, List.set_cons_zero, List.set_cons_succ])
          iterate 1 (quiet_step (fail))
          refine wpQuiet_nil ?_
          intro wf hwf
          obtain ⟨⟨dq, oq⟩, hwf2⟩ := hwf
          subst hwf2
          have Bf := Lib.hid (Hbr.out.trans ((below_regrown wr dq oq).mono Hbr.out.size))
          clear x1 x2
          go_wp2_with fail
          go_roundw
          case rel => exact ⟨k + 1, by go_num, by omega, Bf.out, by rw [Hst.out]; rfl⟩
          case measure => simp [intOf]; omega
        | true =>
          iterate 3 (quiet_step (fail))
          refine quiet_load_guard (by rfl) _ _ rfl (a.add (k * 5)) rfl [.string z.p, .int .i64 z.k, .int .i64 z.m, .string z.d, .string z.l] _ Kz.out Tryz.underlying52 rfl (by kernel_rfl) ?_
          iterate 3 (quiet_step (exact CL.out _ _))
          refine wpQuiet_nil ?_
          intro wf hwf
          obtain ⟨⟨dq, oq⟩, hwf2⟩ := hwf
          subst hwf2
          have Bf := Lib.hid (Hbr.out.trans ((below_regrown wr dq oq).mono Hbr.out.size))
          clear x1 x2
          cases lz with
          | false =>
            go_wp2_with fail
            go_roundw
            case rel => exact ⟨k + 1, by go_num, by omega, Bf.out, by rw [Hst.out]; rfl⟩
            case measure => simp [intOf]; omega
          | true =>
            have Hres := Lib.hid (show goneR B (A.take i) x = false by
              unfold goneR
              rw [Hlx.out]
              have : ((A.take i).any fun z => belowP z.path x.path && lostE B z) = true := by
                have h1 : ((A.take (k + 1)).any fun z => belowP z.path x.path && lostE B z) = true := Hst.out
                rw [List.any_eq_true] at h1 ⊢
                obtain ⟨y, hy, hy2⟩ := h1
                refine ⟨y, ?_, hy2⟩
                have : A.take (k + 1) = (A.take i).take (k + 1) := by rw [List.take_take, Nat.min_eq_left (by omega)]
                rw [this] at hy
                exact List.mem_of_mem_take hy
              rw [this]
              rfl)
            go_wp2_with fail
            go_ret
            exact ⟨by rw [Hres.out]; rfl, Bf.out⟩
      · obtain rfl : k = i := by omega
        have Hres := Lib.hid (show goneR B (A.take k) x = true by unfold goneR; rw [Hlx.out, Hany.out]; rfl)
        go_wp2_with fail
        go_ret
        exact ⟨by rw [Hres.out]; rfl, Hbr.out⟩
end
end Go.Proofs.YtipfccfjniglbaaGreatDoor
namespace Go.Proofs.YtipfccfjniglbaaGreatDoor
section
open Go.RowKit Go.Maps Go.Shelf Go.Sort
open Go.Lib hiding intOf size_eq
theorem ref_x (a0 b0 : List Ent) (f : Nat) (pa : List Ent) (x : Ent) (a : List Ent) : refF a0 b0 (f + 1) pa (x :: a) [] = (if goneR b0 pa x = true then [goneOf x] else []) ++ refF a0 b0 f (pa ++ [x]) a [] := rfl
theorem ref_y (a0 b0 : List Ent) (f : Nat) (pa : List Ent) (y : Ent) (b : List Ent) : refF a0 b0 (f + 1) pa [] (y :: b) = (if laidR a0 y = true then [layOf y] else []) ++ refF a0 b0 f pa [] b := rfl
theorem ref_xy (a0 b0 : List Ent) (f : Nat) (pa : List Ent) (x y : Ent) (a b : List Ent) : refF a0 b0 (f + 1) pa (x :: a) (y :: b) =
    if compareP x.path y.path < 0 then (if goneR b0 pa x = true then [goneOf x] else []) ++ refF a0 b0 f (pa ++ [x]) a (y :: b)
    else if 0 < compareP x.path y.path then (if laidR a0 y = true then [layOf y] else []) ++ refF a0 b0 f pa (x :: a) b
    else (if goneR b0 pa x = true then [goneOf x] else []) ++ ((if laidR a0 y = true then [layOf y] else []) ++ refF a0 b0 f (pa ++ [x]) a b) := rfl
theorem ref_nil (a0 b0 : List Ent) (f : Nat) (pa : List Ent) : refF a0 b0 f pa [] [] = [] := by cases f <;> rfl
theorem flat_oneC (P : List Chg) (c : Chg) : (P ++ [c]).flatMap chgC = P.flatMap chgC ++ chgC c := by rw [List.flatMap_append, List.flatMap_singleton]
theorem ent5 {W : World} {a : Addr} {y : Ent} (h : ∀ j u, (entC y)[j]? = some u → W.cell? (a.add j) = some u) : W.cell? a = some (.string y.p) ∧ W.cell? ⟨a.block, a.off + 1, none⟩ = some (.int .i64 y.k) ∧ W.cell? ⟨a.block, a.off + 2, none⟩ = some (.int .i64 y.m) ∧ W.cell? ⟨a.block, a.off + 3, none⟩ = some (.string y.d) ∧ W.cell? ⟨a.block, a.off + 4, none⟩ = some (.string y.l) := by
  have hp : ∀ m, m ≠ 0 → a.add m = ⟨a.block, a.off + m, none⟩ := fun m hm => by unfold Addr.add; rw [if_neg hm]
  refine ⟨?_, ?_, ?_, ?_, ?_⟩
  · have := h 0 _ rfl
    rwa [show a.add 0 = a from if_pos rfl] at this
  · rw [← hp 1 (by decide)]; exact h 1 _ rfl
  · rw [← hp 2 (by decide)]; exact h 2 _ rfl
  · rw [← hp 3 (by decide)]; exact h 3 _ rfl
  · rw [← hp 4 (by decide)]; exact h 4 _ rfl
set_option maxRecDepth 100000 in
set_option maxHeartbeats 16000000 in
theorem changes10_any (va vb : Value) (A B : List Ent) (w : World) (ha : EntsAt w va A) (hb : EntsAt w vb B) (la : A.length ≤ 4294967296) (lb : B.length ≤ 4294967296) (sa : ∀ e ∈ A, e.p.size ≤ 1099511627776) (sb : ∀ e ∈ B, e.p.size ≤ 1099511627776) :
    Calls Tryz.prog 40 #[va, vb] w fun r w' => ∃ v, r = .returned v ∧ w'.ownsRow w.heap.size 54 7 v (refL A B).length ((refL A B).flatMap chgC) ∧ Below w.heap.size w w' := by
  obtain ⟨i0, hi, hz0, hz1, hz2⟩ := info_parts Tryz.infoChange
  have hgone := fun (i : Nat) (x : Ent) (hx : A[i]? = some x) (W : World) (hW : Below w.heap.size w W) => gone10_any va vb A B i x W (ha.below hW (Nat.le_refl _)) (hb.below hW (Nat.le_refl _)) hx (by omega) (by omega) (fun e he => by have := sa e he; omega) (fun e he => by have := sb e he; omega)
  have hlaid := fun (y : Ent) (hy : y ∈ B) (W : World) (hW : Below w.heap.size w W) => laid10_any y va A W (ha.below hW (Nat.le_refl _)) (by omega) (fun e he => by have := sa e he; omega) (by have := sb y hy; omega)
  obtain ⟨n, hn⟩ : ∃ n, n = A.length := ⟨_, rfl⟩
  obtain ⟨m, hm⟩ : ∃ m, m = B.length := ⟨_, rfl⟩
  have hA := ha
  have hB := hb
  obtain ⟨oa, ca, rfl, hac, ham, hacells⟩ := ha
  obtain ⟨ob, cb, rfl, hbc, hbm, hbcells⟩ := hb
  rw [← hn] at hac la hA hgone hlaid ⊢
  rw [← hm] at hbc lb hB hgone ⊢
  have hcA := fun (k : Nat) (z : Ent) (hk : A[k]? = some z) => (show ∃ a, oa = some a ∧ ∀ W, Below w.heap.size w W → ∀ j u, (entC z)[j]? = some u → W.cell? ((a.add (k * 5)).add j) = some u from by
    obtain ⟨a, e, h2⟩ := ent_cells_at hA hk
    refine ⟨a, e, fun W hW => ?_⟩
    obtain ⟨a2, e2, h3⟩ := ent_cells_at (hA.below hW (Nat.le_refl _)) hk
    rw [e] at e2
    injection e2 with e2
    subst e2
    exact h3)
  have hcB := fun (k : Nat) (z : Ent) (hk : B[k]? = some z) => (show ∃ a, ob = some a ∧ ∀ W, Below w.heap.size w W → ∀ j u, (entC z)[j]? = some u → W.cell? ((a.add (k * 5)).add j) = some u from by
    obtain ⟨a, e, h2⟩ := ent_cells_at hB hk
    refine ⟨a, e, fun W hW => ?_⟩
    obtain ⟨a2, e2, h3⟩ := ent_cells_at (hB.below hW (Nat.le_refl _)) hk
    rw [e] at e2
    injection e2 with e2
    subst e2
    exact h3)
  have Hi := Lib.hid hi
  have Hz0 := Lib.hid hz0
  have Hz1 := Lib.hid hz1
  have Hz2 := Lib.hid hz2
  have Hgone := Lib.hid hgone
  have Hlaid := Lib.hid hlaid
  have HcA := Lib.hid hcA
  have HcB := Lib.hid hcB
  have Hn := Lib.hid hn
  have Hm := Lib.hid hm
  have Sa := Lib.hid sa
  have Sb := Lib.hid sb
  have Hstart := Lib.hid (show ([] : List Chg) ++ refF A B (n + m) (A.take 0) (A.drop 0) (B.drop 0) = refL A B by rw [hn, hm]; rfl)
  clear hi hz0 hz1 hz2 hgone hlaid hcA hcB hn hm sa sb hA hB hacells hbcells
  go_enter Tryz.func40, Tryz.ntmps40
  go_wp2_with fail
  go_loopw [5, 6, 7] (fun ov iv kv wr => ∃ (i k f : Nat) (P : List Chg), iv = .int .i64 (i : Int) ∧ kv = .int .i64 (k : Int) ∧ i ≤ n ∧ k ≤ m ∧ P.length ≤ i + k ∧ wr.ownsRow w.heap.size 54 7 ov P.length (P.flatMap chgC) ∧ P ++ refF A B f (A.take i) (A.drop i) (B.drop k) = refL A B ∧ n + m ≤ f + i + k ∧ Below w.heap.size w wr) (fun _ iv kv _ => n + m - (intOf iv).toNat - (intOf kv).toNat)
  case atStart => exact ⟨0, 0, n + m, [], rfl, rfl, Nat.zero_le _, Nat.zero_le _, Nat.le_refl _, World.ownsRow_nil _ _ _ _, Hstart.out, by omega, Below.refl _ _⟩
  case round =>
    obtain ⟨i, k, f, P, rfl, rfl, hi, hk, hpl, hrow, href, hf, hbr⟩ := hrel
    obtain ⟨pl, hplen⟩ : ∃ z, z = P.length := ⟨_, rfl⟩
    rw [← hplen] at hrow hpl
    have hbs := hbr.size
    have Hrow := Lib.hid hrow
    have Href := Lib.hid href
    have Hbr := Lib.hid hbr
    have Hpl := Lib.hid hplen
    have hplm : pl < 17179869184 := by omega
    clear hrow href hbr hplen
    by_cases hin : i < n
    · by_cases hkm : k < m
      · obtain ⟨f, rfl⟩ : ∃ f', f = f' + 1 := ⟨f - 1, by omega⟩
        obtain ⟨x, hx⟩ : ∃ x, A[i]? = some x := ⟨_, List.getElem?_eq_getElem (by rw [← Hn.out]; exact hin)⟩
        obtain ⟨aa, rfl, hxa⟩ := HcA.out i x hx
        have hxs := Sa.out x (List.mem_of_getElem? hx)
        have HxA := Lib.hid (fun (W : World) (hW : Below w.heap.size w W) => (show W.cell? (aa.add (i * 5)) = some (.string x.p) from by
          have := hxa W hW 0 _ rfl
          rwa [show (aa.add (i * 5)).add 0 = aa.add (i * 5) from if_pos rfl] at this))
        obtain ⟨g, hg⟩ : ∃ q, goneR B (A.take i) x = q := ⟨_, rfl⟩
        have hgo := Hgone.out i x hx
        rw [hg] at hgo
        have Hgo := Lib.hid hgo
        have Hg := Lib.hid hg
        have Hdx := Lib.hid (drop_at hx)
        have Htx := Lib.hid (gtakeS hx)
        clear hxa hgo hg hx
        obtain ⟨y, hy⟩ : ∃ y, B[k]? = some y := ⟨_, List.getElem?_eq_getElem (by rw [← Hm.out]; exact hkm)⟩
        obtain ⟨ab, rfl, hya⟩ := HcB.out k y hy
        have hys := Sb.out y (List.mem_of_getElem? hy)
        have HyB := Lib.hid (fun (W : World) (hW : Below w.heap.size w W) => (show W.cell? (ab.add (k * 5)) = some (.string y.p) from by
          have := hya W hW 0 _ rfl
          rwa [show (ab.add (k * 5)).add 0 = ab.add (k * 5) from if_pos rfl] at this))
        have HyC := Lib.hid hya
        obtain ⟨l, hl⟩ : ∃ q, laidR A y = q := ⟨_, rfl⟩
        have hla := Hlaid.out y (List.mem_of_getElem? hy)
        rw [hl] at hla
        have Hla := Lib.hid hla
        have Hl := Lib.hid hl
        have Hdy := Lib.hid (drop_at hy)
        clear hya hla hl hy
        obtain ⟨c, hc⟩ : ∃ c, compareP x.path y.path = c := ⟨_, rfl⟩
        have cM := fun d os => Calls.regrown_of ((rcompare_any x.p y.p (grow (redrawn wr d) os) hxs hys).mono (R' := fun e w' => e = .returned (.int .i64 c) ∧ Below (grow (redrawn wr d) os).heap.size (grow (redrawn wr d) os) w') (fun e w' ⟨h1, h2⟩ => ⟨by rw [h1, ← hc]; rfl, h2⟩))
        have CM := Lib.hid cM
        have x1 : ∀ d os, (grow (redrawn wr d) os).cell? (aa.add (i * 5)) = some (.string x.p) := fun d os => cell_regrown (HxA.out wr Hbr.out) d os
        have x2 : ∀ d os, (grow (redrawn wr d) os).cell? (ab.add (k * 5)) = some (.string y.p) := fun d os => cell_regrown (HyB.out wr Hbr.out) d os
        clear cM
        have HCC := Lib.hid hc
        clear hc
        go_wp2_with fail
        refine wp_region_quiet_below (by kernel_rfl) (by kernel_rfl) ?_
        repeat (quiet_step (exact CM.out _ _))
        refine wpQuiet_nil ?_
        intro WC hwf
        have BC := Lib.hid (show Below w.heap.size w WC by obtain ⟨q, hq⟩ := hwf; rw [hq]; exact Hbr.out.trans ((below_regrown wr _ _).mono Hbr.out.size))
        have RC := Lib.hid (show WC.ownsRow w.heap.size 54 7 u5 pl (P.flatMap chgC) by obtain ⟨q, hq⟩ := hwf; rw [hq]; exact row_belowE Hrow.out (below_regrown wr _ _))
        clear x1 x2 hwf CM Hrow
        by_cases h1 : c < 0
        · have h2 : c ≤ 0 := by omega
          have h3 : ¬ (0 ≤ c) := by omega
          have HC := Lib.hid (show compareP x.path y.path < 0 by rw [HCC.out]; exact h1)
          cases g with
          | false =>
            have HREF := Lib.hid (show (P) ++ refF A B f (A.take (i + 1)) (A.drop (i + 1)) (B.drop (k)) = refL A B by
              have h := Href.out
              rw [Hdx.out, Hdy.out, ref_xy, if_pos HC.out, Hg.out] at h
              simp only [Bool.false_eq_true, if_false, List.nil_append] at h
              rw [Htx.out, Hdy.out]
              rw [← h]
              all_goals simp only [List.append_assoc])
            go_wp2_with fail
            refine (Hgo.out WC BC.out).mono ?_
            rintro r w1g ⟨rfl, hb⟩
            have B1g := Lib.hid (BC.out.trans (hb.mono BC.out.size))
            have R1g := Lib.hid (row_belowE RC.out hb)
            have c1g := HxA.out w1g B1g.out
            clear hb
            clear c1g
            go_wp2_with fail
            go_roundw
            case rel =>
              refine ⟨i + 1, k, f, P, by go_num, by go_num, by omega, by omega, ?_, ?_, HREF.out, by omega, B1g.out⟩
              · have := Hpl.out; omega
              · rw [← Hpl.out]; exact R1g.out
            case measure => simp [intOf]; omega
          | true =>
            have HREF := Lib.hid (show (P ++ [goneOf x]) ++ refF A B f (A.take (i + 1)) (A.drop (i + 1)) (B.drop (k)) = refL A B by
              have h := Href.out
              rw [Hdx.out, Hdy.out, ref_xy, if_pos HC.out, Hg.out] at h
              simp only [if_true] at h
              rw [Htx.out, Hdy.out]
              rw [← h]
              all_goals simp only [List.append_assoc])
            go_wp2_with fail
            refine (Hgo.out WC BC.out).mono ?_
            rintro r w1g ⟨rfl, hb⟩
            have B1g := Lib.hid (BC.out.trans (hb.mono BC.out.size))
            have R1g := Lib.hid (row_belowE RC.out hb)
            have c1g := HxA.out w1g B1g.out
            clear hb
            go_wp2_with (first
              | (at_builtin; go_loud (refine wpList_append_own _ rfl _ _ 23 rfl w.heap.size 54 i0 _ 7 88 Tryz.underlying23 Hi.out Hz0.out Hz1.out Hz2.out rfl (by decide) _ _ _ rfl (R1g.out.alloc _) ⟨w1g.heap.size, 0, none⟩ 1 1 (chgC (goneOf x)) rfl rfl (item_cells (cs := chgC (goneOf x)) (World.alloc_heap_new w1g _)) (by simp [chgC, Value.oneCell']) (by unfold maxLen; omega) (by omega) (by rw [World.size_alloc]; have := B1g.out.size; omega) ?_); intro v2g w2g howng hgrg _
                 have B2g := Lib.hid ((B1g.out.alloc B1g.out.size _).grown hgrg (by rw [World.size_alloc]; have := B1g.out.size; omega) (fun k e => (World.ownsRow.lt R1g.out k e).1))
                 have R2g := Lib.hid howng
                 clear howng hgrg c1g))
            go_wp2_with fail
            go_roundw
            case rel =>
              refine ⟨i + 1, k, f, P ++ [goneOf x], by go_num, by go_num, by omega, by omega, ?_, ?_, HREF.out, by omega, B2g.out⟩
              · simp only [List.length_append, List.length_cons, List.length_nil]; have := Hpl.out; omega
              · have hq := R2g.out
                have e1 : (P ++ [goneOf x]).length = pl + 1 := by simp only [List.length_append, List.length_cons, List.length_nil]; have := Hpl.out; omega
                rw [e1, flat_oneC]
                exact hq
            case measure => simp [intOf]; omega
        · by_cases h2 : 0 < c
          · have h3 : ¬ (c ≤ 0) := by omega
            have h4 : 0 ≤ c := by omega
            have HC := Lib.hid (show ¬ compareP x.path y.path < 0 by rw [HCC.out]; exact h1)
            have HC2 := Lib.hid (show 0 < compareP x.path y.path by rw [HCC.out]; exact h2)
            cases l with
            | false =>
              have HREF := Lib.hid (show (P) ++ refF A B f (A.take (i)) (A.drop (i)) (B.drop (k + 1)) = refL A B by
                have h := Href.out
                rw [Hdx.out, Hdy.out, ref_xy, if_neg HC.out, if_pos HC2.out, Hl.out] at h
                simp only [Bool.false_eq_true, if_false, List.nil_append] at h
                rw [Hdx.out]
                rw [← h]
                all_goals simp only [List.append_assoc])
              go_wp2_with (refine wpList_load_items rfl _ _ rfl (ab.add (k * 5)) rfl [.string y.p, .int .i64 y.k, .int .i64 y.m, .string y.d, .string y.l] _ (HyC.out WC BC.out) Tryz.underlying52 rfl (by kernel_rfl) ?_)
              refine (Hla.out WC BC.out).mono ?_
              rintro r w3l ⟨rfl, hb⟩
              have B3l := Lib.hid (BC.out.trans (hb.mono BC.out.size))
              have R3l := Lib.hid (row_belowE RC.out hb)
              clear hb
              go_wp2_with fail
              go_roundw
              case rel =>
                refine ⟨i, k + 1, f, P, by go_num, by go_num, by omega, by omega, ?_, ?_, HREF.out, by omega, B3l.out⟩
                · have := Hpl.out; omega
                · rw [← Hpl.out]; exact R3l.out
              case measure => simp [intOf]; omega
            | true =>
              have HREF := Lib.hid (show (P ++ [layOf y]) ++ refF A B f (A.take (i)) (A.drop (i)) (B.drop (k + 1)) = refL A B by
                have h := Href.out
                rw [Hdx.out, Hdy.out, ref_xy, if_neg HC.out, if_pos HC2.out, Hl.out] at h
                simp only [if_true] at h
                rw [Hdx.out]
                rw [← h]
                all_goals simp only [List.append_assoc])
              go_wp2_with (refine wpList_load_items rfl _ _ rfl (ab.add (k * 5)) rfl [.string y.p, .int .i64 y.k, .int .i64 y.m, .string y.d, .string y.l] _ (HyC.out WC BC.out) Tryz.underlying52 rfl (by kernel_rfl) ?_)
              refine (Hla.out WC BC.out).mono ?_
              rintro r w3l ⟨rfl, hb⟩
              have B3l := Lib.hid (BC.out.trans (hb.mono BC.out.size))
              have R3l := Lib.hid (row_belowE RC.out hb)
              clear hb
              go_wp2_with fail
              have BZl := Lib.hid (show Below w.heap.size w w3l.drew from below_drew B3l.out)
              have RZl := Lib.hid (row_belowE R3l.out (show Below w3l.heap.size w3l w3l.drew from below_drew (Below.refl _ _)))
              have hsd := ent5 (HyC.out w3l.drew BZl.out)
              have BDl := Lib.hid (show Below w.heap.size w ((w3l.alloc (.cells #[.string y.p, .bool false, .string y.p, .int .i64 y.k, .int .i64 y.m, .string y.d, .string y.l] 54)).drew) from below_drew (B3l.out.alloc B3l.out.size _))
              have hs3 := ent5 (HyC.out _ BDl.out)
              go_region_held3 (fun W => W.cell? (ab.add (k * 5)) = some (.string y.p) ∧ W.cell? ⟨(ab.add (k * 5)).block, (ab.add (k * 5)).off + 1, none⟩ = some (.int .i64 y.k) ∧ W.cell? ⟨(ab.add (k * 5)).block, (ab.add (k * 5)).off + 2, none⟩ = some (.int .i64 y.m) ∧ W.cell? ⟨(ab.add (k * 5)).block, (ab.add (k * 5)).off + 3, none⟩ = some (.string y.d) ∧ W.cell? ⟨(ab.add (k * 5)).block, (ab.add (k * 5)).off + 4, none⟩ = some (.string y.l)) (first | assumption | go_keep)
                (first
                | (refine gstep_append_own (by rfl) _ _ 23 (by rfl) w.heap.size 54 i0 _ 7 88 Tryz.underlying23 Hi.out Hz0.out Hz1.out Hz2.out rfl (by decide) _ _ _ (by rfl) (RZl.out.alloc _) ⟨w3l.heap.size, 0, none⟩ 1 1 (chgC (layOf y)) (by rfl) rfl (item_cells (cs := chgC (layOf y)) (World.alloc_heap_new w3l.drew _)) (by simp [chgC, Value.oneCell']) (by unfold maxLen; omega) (by omega) BDl.out.size ?_
                   intro v4l w4l hown hgr _
                   have B4l := Lib.hid (BDl.out.grown hgr BDl.out.size (fun k e => (World.ownsRow.lt RZl.out k e).1))
                   have R4l := Lib.hid hown
                   have hs4 := ent5 (HyC.out w4l B4l.out)
                   clear hown hgr))
              clear hs4 hs3
              go_wp2_with fail
              go_roundw
              case rel =>
                refine ⟨i, k + 1, f, P ++ [layOf y], by go_num, by go_num, by omega, by omega, ?_, ?_, HREF.out, by omega, B4l.out⟩
                · simp only [List.length_append, List.length_cons, List.length_nil]; have := Hpl.out; omega
                · have hq := R4l.out
                  have e1 : (P ++ [layOf y]).length = pl + 1 := by simp only [List.length_append, List.length_cons, List.length_nil]; have := Hpl.out; omega
                  rw [e1, flat_oneC]
                  exact hq
              case measure => simp [intOf]; omega
          · have HC := Lib.hid (show ¬ compareP x.path y.path < 0 by rw [HCC.out]; exact h1)
            have HC2 := Lib.hid (show ¬ 0 < compareP x.path y.path by rw [HCC.out]; exact h2)
            obtain rfl : c = 0 := by omega
            cases g with
            | false =>
              cases l with
              | false =>
                have HREF := Lib.hid (show (P) ++ refF A B f (A.take (i + 1)) (A.drop (i + 1)) (B.drop (k + 1)) = refL A B by
                  have h := Href.out
                  rw [Hdx.out, Hdy.out, ref_xy, if_neg HC.out, if_neg HC2.out, Hg.out, Hl.out] at h
                  simp only [Bool.false_eq_true, if_false, List.nil_append] at h
                  rw [Htx.out]
                  rw [← h]
                  all_goals simp only [List.append_assoc])
                go_wp2_with fail
                refine (Hgo.out WC BC.out).mono ?_
                rintro r w1g ⟨rfl, hb⟩
                have B1g := Lib.hid (BC.out.trans (hb.mono BC.out.size))
                have R1g := Lib.hid (row_belowE RC.out hb)
                have c1g := HxA.out w1g B1g.out
                clear hb
                clear c1g
                go_wp2_with (refine wpList_load_items rfl _ _ rfl (ab.add (k * 5)) rfl [.string y.p, .int .i64 y.k, .int .i64 y.m, .string y.d, .string y.l] _ (HyC.out w1g B1g.out) Tryz.underlying52 rfl (by kernel_rfl) ?_)
                refine (Hla.out w1g B1g.out).mono ?_
                rintro r w3l ⟨rfl, hb⟩
                have B3l := Lib.hid (B1g.out.trans (hb.mono B1g.out.size))
                have R3l := Lib.hid (row_belowE R1g.out hb)
                clear hb
                go_wp2_with fail
                go_roundw
                case rel =>
                  refine ⟨i + 1, k + 1, f, P, by go_num, by go_num, by omega, by omega, ?_, ?_, HREF.out, by omega, B3l.out⟩
                  · have := Hpl.out; omega
                  · rw [← Hpl.out]; exact R3l.out
                case measure => simp [intOf]; omega
              | true =>
                have HREF := Lib.hid (show (P ++ [layOf y]) ++ refF A B f (A.take (i + 1)) (A.drop (i + 1)) (B.drop (k + 1)) = refL A B by
                  have h := Href.out
                  rw [Hdx.out, Hdy.out, ref_xy, if_neg HC.out, if_neg HC2.out, Hg.out, Hl.out] at h
                  simp only [Bool.false_eq_true, if_false, List.nil_append] at h
                  simp only [if_true] at h
                  rw [Htx.out]
                  rw [← h]
                  all_goals simp only [List.append_assoc])
                go_wp2_with fail
                refine (Hgo.out WC BC.out).mono ?_
                rintro r w1g ⟨rfl, hb⟩
                have B1g := Lib.hid (BC.out.trans (hb.mono BC.out.size))
                have R1g := Lib.hid (row_belowE RC.out hb)
                have c1g := HxA.out w1g B1g.out
                clear hb
                clear c1g
                go_wp2_with (refine wpList_load_items rfl _ _ rfl (ab.add (k * 5)) rfl [.string y.p, .int .i64 y.k, .int .i64 y.m, .string y.d, .string y.l] _ (HyC.out w1g B1g.out) Tryz.underlying52 rfl (by kernel_rfl) ?_)
                refine (Hla.out w1g B1g.out).mono ?_
                rintro r w3l ⟨rfl, hb⟩
                have B3l := Lib.hid (B1g.out.trans (hb.mono B1g.out.size))
                have R3l := Lib.hid (row_belowE R1g.out hb)
                clear hb
                go_wp2_with fail
                have BZl := Lib.hid (show Below w.heap.size w w3l.drew from below_drew B3l.out)
                have RZl := Lib.hid (row_belowE R3l.out (show Below w3l.heap.size w3l w3l.drew from below_drew (Below.refl _ _)))
                have hsd := ent5 (HyC.out w3l.drew BZl.out)
                have BDl := Lib.hid (show Below w.heap.size w ((w3l.alloc (.cells #[.string y.p, .bool false, .string y.p, .int .i64 y.k, .int .i64 y.m, .string y.d, .string y.l] 54)).drew) from below_drew (B3l.out.alloc B3l.out.size _))
                have hs3 := ent5 (HyC.out _ BDl.out)
                go_region_held3 (fun W => W.cell? (ab.add (k * 5)) = some (.string y.p) ∧ W.cell? ⟨(ab.add (k * 5)).block, (ab.add (k * 5)).off + 1, none⟩ = some (.int .i64 y.k) ∧ W.cell? ⟨(ab.add (k * 5)).block, (ab.add (k * 5)).off + 2, none⟩ = some (.int .i64 y.m) ∧ W.cell? ⟨(ab.add (k * 5)).block, (ab.add (k * 5)).off + 3, none⟩ = some (.string y.d) ∧ W.cell? ⟨(ab.add (k * 5)).block, (ab.add (k * 5)).off + 4, none⟩ = some (.string y.l)) (first | assumption | go_keep)
                  (first
                  | (refine gstep_append_own (by rfl) _ _ 23 (by rfl) w.heap.size 54 i0 _ 7 88 Tryz.underlying23 Hi.out Hz0.out Hz1.out Hz2.out rfl (by decide) _ _ _ (by rfl) (RZl.out.alloc _) ⟨w3l.heap.size, 0, none⟩ 1 1 (chgC (layOf y)) (by rfl) rfl (item_cells (cs := chgC (layOf y)) (World.alloc_heap_new w3l.drew _)) (by simp [chgC, Value.oneCell']) (by unfold maxLen; omega) (by omega) BDl.out.size ?_
                     intro v4l w4l hown hgr _
                     have B4l := Lib.hid (BDl.out.grown hgr BDl.out.size (fun k e => (World.ownsRow.lt RZl.out k e).1))
                     have R4l := Lib.hid hown
                     have hs4 := ent5 (HyC.out w4l B4l.out)
                     clear hown hgr))
                clear hs4 hs3
                go_wp2_with fail
                go_roundw
                case rel =>
                  refine ⟨i + 1, k + 1, f, P ++ [layOf y], by go_num, by go_num, by omega, by omega, ?_, ?_, HREF.out, by omega, B4l.out⟩
                  · simp only [List.length_append, List.length_cons, List.length_nil]; have := Hpl.out; omega
                  · have hq := R4l.out
                    have e1 : (P ++ [layOf y]).length = pl + 1 := by simp only [List.length_append, List.length_cons, List.length_nil]; have := Hpl.out; omega
                    rw [e1, flat_oneC]
                    exact hq
                case measure => simp [intOf]; omega
            | true =>
              cases l with
              | false =>
                have HREF := Lib.hid (show (P ++ [goneOf x]) ++ refF A B f (A.take (i + 1)) (A.drop (i + 1)) (B.drop (k + 1)) = refL A B by
                  have h := Href.out
                  rw [Hdx.out, Hdy.out, ref_xy, if_neg HC.out, if_neg HC2.out, Hg.out, Hl.out] at h
                  simp only [Bool.false_eq_true, if_false, List.nil_append] at h
                  simp only [if_true] at h
                  rw [Htx.out]
                  rw [← h]
                  all_goals simp only [List.append_assoc])
                go_wp2_with fail
                refine (Hgo.out WC BC.out).mono ?_
                rintro r w1g ⟨rfl, hb⟩
                have B1g := Lib.hid (BC.out.trans (hb.mono BC.out.size))
                have R1g := Lib.hid (row_belowE RC.out hb)
                have c1g := HxA.out w1g B1g.out
                clear hb
                go_wp2_with (first
                  | (at_builtin; go_loud (refine wpList_append_own _ rfl _ _ 23 rfl w.heap.size 54 i0 _ 7 88 Tryz.underlying23 Hi.out Hz0.out Hz1.out Hz2.out rfl (by decide) _ _ _ rfl (R1g.out.alloc _) ⟨w1g.heap.size, 0, none⟩ 1 1 (chgC (goneOf x)) rfl rfl (item_cells (cs := chgC (goneOf x)) (World.alloc_heap_new w1g _)) (by simp [chgC, Value.oneCell']) (by unfold maxLen; omega) (by omega) (by rw [World.size_alloc]; have := B1g.out.size; omega) ?_); intro v2g w2g howng hgrg _
                     have B2g := Lib.hid ((B1g.out.alloc B1g.out.size _).grown hgrg (by rw [World.size_alloc]; have := B1g.out.size; omega) (fun k e => (World.ownsRow.lt R1g.out k e).1))
                     have R2g := Lib.hid howng
                     clear howng hgrg c1g)
                  | (refine wpList_load_items rfl _ _ rfl (ab.add (k * 5)) rfl [.string y.p, .int .i64 y.k, .int .i64 y.m, .string y.d, .string y.l] _ (HyC.out w2g B2g.out) Tryz.underlying52 rfl (by kernel_rfl) ?_))
                refine (Hla.out w2g B2g.out).mono ?_
                rintro r w3l ⟨rfl, hb⟩
                have B3l := Lib.hid (B2g.out.trans (hb.mono B2g.out.size))
                have R3l := Lib.hid (row_belowE R2g.out hb)
                clear hb
                go_wp2_with fail
                go_roundw
                case rel =>
                  refine ⟨i + 1, k + 1, f, P ++ [goneOf x], by go_num, by go_num, by omega, by omega, ?_, ?_, HREF.out, by omega, B3l.out⟩
                  · simp only [List.length_append, List.length_cons, List.length_nil]; have := Hpl.out; omega
                  · have hq := R3l.out
                    have e1 : (P ++ [goneOf x]).length = pl + 1 := by simp only [List.length_append, List.length_cons, List.length_nil]; have := Hpl.out; omega
                    rw [e1, flat_oneC]
                    exact hq
                case measure => simp [intOf]; omega
              | true =>
                have HREF := Lib.hid (show (P ++ [goneOf x] ++ [layOf y]) ++ refF A B f (A.take (i + 1)) (A.drop (i + 1)) (B.drop (k + 1)) = refL A B by
                  have h := Href.out
                  rw [Hdx.out, Hdy.out, ref_xy, if_neg HC.out, if_neg HC2.out, Hg.out, Hl.out] at h
                  simp only [if_true] at h
                  rw [Htx.out]
                  rw [← h]
                  all_goals simp only [List.append_assoc])
                go_wp2_with fail
                refine (Hgo.out WC BC.out).mono ?_
                rintro r w1g ⟨rfl, hb⟩
                have B1g := Lib.hid (BC.out.trans (hb.mono BC.out.size))
                have R1g := Lib.hid (row_belowE RC.out hb)
                have c1g := HxA.out w1g B1g.out
                clear hb
                go_wp2_with (first
                  | (at_builtin; go_loud (refine wpList_append_own _ rfl _ _ 23 rfl w.heap.size 54 i0 _ 7 88 Tryz.underlying23 Hi.out Hz0.out Hz1.out Hz2.out rfl (by decide) _ _ _ rfl (R1g.out.alloc _) ⟨w1g.heap.size, 0, none⟩ 1 1 (chgC (goneOf x)) rfl rfl (item_cells (cs := chgC (goneOf x)) (World.alloc_heap_new w1g _)) (by simp [chgC, Value.oneCell']) (by unfold maxLen; omega) (by omega) (by rw [World.size_alloc]; have := B1g.out.size; omega) ?_); intro v2g w2g howng hgrg _
                     have B2g := Lib.hid ((B1g.out.alloc B1g.out.size _).grown hgrg (by rw [World.size_alloc]; have := B1g.out.size; omega) (fun k e => (World.ownsRow.lt R1g.out k e).1))
                     have R2g := Lib.hid howng
                     clear howng hgrg c1g)
                  | (refine wpList_load_items rfl _ _ rfl (ab.add (k * 5)) rfl [.string y.p, .int .i64 y.k, .int .i64 y.m, .string y.d, .string y.l] _ (HyC.out w2g B2g.out) Tryz.underlying52 rfl (by kernel_rfl) ?_))
                refine (Hla.out w2g B2g.out).mono ?_
                rintro r w3l ⟨rfl, hb⟩
                have B3l := Lib.hid (B2g.out.trans (hb.mono B2g.out.size))
                have R3l := Lib.hid (row_belowE R2g.out hb)
                clear hb
                go_wp2_with fail
                have BZl := Lib.hid (show Below w.heap.size w w3l.drew from below_drew B3l.out)
                have RZl := Lib.hid (row_belowE R3l.out (show Below w3l.heap.size w3l w3l.drew from below_drew (Below.refl _ _)))
                have hsd := ent5 (HyC.out w3l.drew BZl.out)
                have BDl := Lib.hid (show Below w.heap.size w ((w3l.alloc (.cells #[.string y.p, .bool false, .string y.p, .int .i64 y.k, .int .i64 y.m, .string y.d, .string y.l] 54)).drew) from below_drew (B3l.out.alloc B3l.out.size _))
                have hs3 := ent5 (HyC.out _ BDl.out)
                go_region_held3 (fun W => W.cell? (ab.add (k * 5)) = some (.string y.p) ∧ W.cell? ⟨(ab.add (k * 5)).block, (ab.add (k * 5)).off + 1, none⟩ = some (.int .i64 y.k) ∧ W.cell? ⟨(ab.add (k * 5)).block, (ab.add (k * 5)).off + 2, none⟩ = some (.int .i64 y.m) ∧ W.cell? ⟨(ab.add (k * 5)).block, (ab.add (k * 5)).off + 3, none⟩ = some (.string y.d) ∧ W.cell? ⟨(ab.add (k * 5)).block, (ab.add (k * 5)).off + 4, none⟩ = some (.string y.l)) (first | assumption | go_keep)
                  (first
                  | (refine gstep_append_own (by rfl) _ _ 23 (by rfl) w.heap.size 54 i0 _ 7 88 Tryz.underlying23 Hi.out Hz0.out Hz1.out Hz2.out rfl (by decide) _ _ _ (by rfl) (RZl.out.alloc _) ⟨w3l.heap.size, 0, none⟩ 1 1 (chgC (layOf y)) (by rfl) rfl (item_cells (cs := chgC (layOf y)) (World.alloc_heap_new w3l.drew _)) (by simp [chgC, Value.oneCell']) (by unfold maxLen; omega) (by omega) BDl.out.size ?_
                     intro v4l w4l hown hgr _
                     have B4l := Lib.hid (BDl.out.grown hgr BDl.out.size (fun k e => (World.ownsRow.lt RZl.out k e).1))
                     have R4l := Lib.hid hown
                     have hs4 := ent5 (HyC.out w4l B4l.out)
                     clear hown hgr))
                clear hs4 hs3
                go_wp2_with fail
                go_roundw
                case rel =>
                  refine ⟨i + 1, k + 1, f, P ++ [goneOf x] ++ [layOf y], by go_num, by go_num, by omega, by omega, ?_, ?_, HREF.out, by omega, B4l.out⟩
                  · simp only [List.length_append, List.length_cons, List.length_nil]; have := Hpl.out; omega
                  · have hq := R4l.out
                    have e1 : (P ++ [goneOf x] ++ [layOf y]).length = pl + 1 + 1 := by simp only [List.length_append, List.length_cons, List.length_nil]; have := Hpl.out; omega
                    rw [e1, flat_oneC, flat_oneC]
                    exact hq
                case measure => simp [intOf]; omega
      · obtain rfl : k = m := by omega
        have Hnil := Lib.hid (show B.drop k = [] by rw [Hm.out, List.drop_length])
        obtain ⟨f, rfl⟩ : ∃ f', f = f' + 1 := ⟨f - 1, by omega⟩
        obtain ⟨x, hx⟩ : ∃ x, A[i]? = some x := ⟨_, List.getElem?_eq_getElem (by rw [← Hn.out]; exact hin)⟩
        obtain ⟨aa, rfl, hxa⟩ := HcA.out i x hx
        have hxs := Sa.out x (List.mem_of_getElem? hx)
        have HxA := Lib.hid (fun (W : World) (hW : Below w.heap.size w W) => (show W.cell? (aa.add (i * 5)) = some (.string x.p) from by
          have := hxa W hW 0 _ rfl
          rwa [show (aa.add (i * 5)).add 0 = aa.add (i * 5) from if_pos rfl] at this))
        obtain ⟨g, hg⟩ : ∃ q, goneR B (A.take i) x = q := ⟨_, rfl⟩
        have hgo := Hgone.out i x hx
        rw [hg] at hgo
        have Hgo := Lib.hid hgo
        have Hg := Lib.hid hg
        have Hdx := Lib.hid (drop_at hx)
        have Htx := Lib.hid (gtakeS hx)
        clear hxa hgo hg hx
        obtain ⟨WC, hwc⟩ : ∃ x, x = wr := ⟨_, rfl⟩
        subst hwc
        have BC := Hbr
        have RC := Hrow
        cases g with
        | false =>
          have HREF := Lib.hid (show (P) ++ refF A B f (A.take (i + 1)) (A.drop (i + 1)) (B.drop (k)) = refL A B by
            have h := Href.out
            rw [Hdx.out, Hnil.out, ref_x, Hg.out] at h
            simp only [Bool.false_eq_true, if_false, List.nil_append] at h
            rw [Htx.out, Hnil.out]
            rw [← h]
            all_goals simp only [List.append_assoc])
          go_wp2_with fail
          refine (Hgo.out WC BC.out).mono ?_
          rintro r w1g ⟨rfl, hb⟩
          have B1g := Lib.hid (BC.out.trans (hb.mono BC.out.size))
          have R1g := Lib.hid (row_belowE RC.out hb)
          have c1g := HxA.out w1g B1g.out
          clear hb
          clear c1g
          go_wp2_with fail
          go_roundw
          case rel =>
            refine ⟨i + 1, k, f, P, by go_num, by go_num, by omega, by omega, ?_, ?_, HREF.out, by omega, B1g.out⟩
            · have := Hpl.out; omega
            · rw [← Hpl.out]; exact R1g.out
          case measure => simp [intOf]; omega
        | true =>
          have HREF := Lib.hid (show (P ++ [goneOf x]) ++ refF A B f (A.take (i + 1)) (A.drop (i + 1)) (B.drop (k)) = refL A B by
            have h := Href.out
            rw [Hdx.out, Hnil.out, ref_x, Hg.out] at h
            simp only [if_true] at h
            rw [Htx.out, Hnil.out]
            rw [← h]
            all_goals simp only [List.append_assoc])
          go_wp2_with fail
          refine (Hgo.out WC BC.out).mono ?_
          rintro r w1g ⟨rfl, hb⟩
          have B1g := Lib.hid (BC.out.trans (hb.mono BC.out.size))
          have R1g := Lib.hid (row_belowE RC.out hb)
          have c1g := HxA.out w1g B1g.out
          clear hb
          go_wp2_with (first
            | (at_builtin; go_loud (refine wpList_append_own _ rfl _ _ 23 rfl w.heap.size 54 i0 _ 7 88 Tryz.underlying23 Hi.out Hz0.out Hz1.out Hz2.out rfl (by decide) _ _ _ rfl (R1g.out.alloc _) ⟨w1g.heap.size, 0, none⟩ 1 1 (chgC (goneOf x)) rfl rfl (item_cells (cs := chgC (goneOf x)) (World.alloc_heap_new w1g _)) (by simp [chgC, Value.oneCell']) (by unfold maxLen; omega) (by omega) (by rw [World.size_alloc]; have := B1g.out.size; omega) ?_); intro v2g w2g howng hgrg _
               have B2g := Lib.hid ((B1g.out.alloc B1g.out.size _).grown hgrg (by rw [World.size_alloc]; have := B1g.out.size; omega) (fun k e => (World.ownsRow.lt R1g.out k e).1))
               have R2g := Lib.hid howng
               clear howng hgrg c1g))
          go_wp2_with fail
          go_roundw
          case rel =>
            refine ⟨i + 1, k, f, P ++ [goneOf x], by go_num, by go_num, by omega, by omega, ?_, ?_, HREF.out, by omega, B2g.out⟩
            · simp only [List.length_append, List.length_cons, List.length_nil]; have := Hpl.out; omega
            · have hq := R2g.out
              have e1 : (P ++ [goneOf x]).length = pl + 1 := by simp only [List.length_append, List.length_cons, List.length_nil]; have := Hpl.out; omega
              rw [e1, flat_oneC]
              exact hq
          case measure => simp [intOf]; omega
    · obtain rfl : i = n := by omega
      by_cases hkm : k < m
      · have Hnil := Lib.hid (show A.drop i = [] by rw [Hn.out, List.drop_length])
        obtain ⟨f, rfl⟩ : ∃ f', f = f' + 1 := ⟨f - 1, by omega⟩
        obtain ⟨y, hy⟩ : ∃ y, B[k]? = some y := ⟨_, List.getElem?_eq_getElem (by rw [← Hm.out]; exact hkm)⟩
        obtain ⟨ab, rfl, hya⟩ := HcB.out k y hy
        have hys := Sb.out y (List.mem_of_getElem? hy)
        have HyB := Lib.hid (fun (W : World) (hW : Below w.heap.size w W) => (show W.cell? (ab.add (k * 5)) = some (.string y.p) from by
          have := hya W hW 0 _ rfl
          rwa [show (ab.add (k * 5)).add 0 = ab.add (k * 5) from if_pos rfl] at this))
        have HyC := Lib.hid hya
        obtain ⟨l, hl⟩ : ∃ q, laidR A y = q := ⟨_, rfl⟩
        have hla := Hlaid.out y (List.mem_of_getElem? hy)
        rw [hl] at hla
        have Hla := Lib.hid hla
        have Hl := Lib.hid hl
        have Hdy := Lib.hid (drop_at hy)
        clear hya hla hl hy
        obtain ⟨WC, hwc⟩ : ∃ x, x = wr := ⟨_, rfl⟩
        subst hwc
        have BC := Hbr
        have RC := Hrow
        cases l with
        | false =>
          have HREF := Lib.hid (show (P) ++ refF A B f (A.take (i)) (A.drop (i)) (B.drop (k + 1)) = refL A B by
            have h := Href.out
            rw [Hdy.out, Hnil.out, ref_y, Hl.out] at h
            simp only [Bool.false_eq_true, if_false, List.nil_append] at h
            rw [Hnil.out]
            rw [← h]
            all_goals simp only [List.append_assoc])
          go_wp2_with (refine wpList_load_items rfl _ _ rfl (ab.add (k * 5)) rfl [.string y.p, .int .i64 y.k, .int .i64 y.m, .string y.d, .string y.l] _ (HyC.out WC BC.out) Tryz.underlying52 rfl (by kernel_rfl) ?_)
          refine (Hla.out WC BC.out).mono ?_
          rintro r w3l ⟨rfl, hb⟩
          have B3l := Lib.hid (BC.out.trans (hb.mono BC.out.size))
          have R3l := Lib.hid (row_belowE RC.out hb)
          clear hb
          go_wp2_with fail
          go_roundw
          case rel =>
            refine ⟨i, k + 1, f, P, by go_num, by go_num, by omega, by omega, ?_, ?_, HREF.out, by omega, B3l.out⟩
            · have := Hpl.out; omega
            · rw [← Hpl.out]; exact R3l.out
          case measure => simp [intOf]; omega
        | true =>
          have HREF := Lib.hid (show (P ++ [layOf y]) ++ refF A B f (A.take (i)) (A.drop (i)) (B.drop (k + 1)) = refL A B by
            have h := Href.out
            rw [Hdy.out, Hnil.out, ref_y, Hl.out] at h
            simp only [if_true] at h
            rw [Hnil.out]
            rw [← h]
            all_goals simp only [List.append_assoc])
          go_wp2_with (refine wpList_load_items rfl _ _ rfl (ab.add (k * 5)) rfl [.string y.p, .int .i64 y.k, .int .i64 y.m, .string y.d, .string y.l] _ (HyC.out WC BC.out) Tryz.underlying52 rfl (by kernel_rfl) ?_)
          refine (Hla.out WC BC.out).mono ?_
          rintro r w3l ⟨rfl, hb⟩
          have B3l := Lib.hid (BC.out.trans (hb.mono BC.out.size))
          have R3l := Lib.hid (row_belowE RC.out hb)
          clear hb
          go_wp2_with fail
          have BZl := Lib.hid (show Below w.heap.size w w3l.drew from below_drew B3l.out)
          have RZl := Lib.hid (row_belowE R3l.out (show Below w3l.heap.size w3l w3l.drew from below_drew (Below.refl _ _)))
          have hsd := ent5 (HyC.out w3l.drew BZl.out)
          have BDl := Lib.hid (show Below w.heap.size w ((w3l.alloc (.cells #[.string y.p, .bool false, .string y.p, .int .i64 y.k, .int .i64 y.m, .string y.d, .string y.l] 54)).drew) from below_drew (B3l.out.alloc B3l.out.size _))
          have hs3 := ent5 (HyC.out _ BDl.out)
          go_region_held3 (fun W => W.cell? (ab.add (k * 5)) = some (.string y.p) ∧ W.cell? ⟨(ab.add (k * 5)).block, (ab.add (k * 5)).off + 1, none⟩ = some (.int .i64 y.k) ∧ W.cell? ⟨(ab.add (k * 5)).block, (ab.add (k * 5)).off + 2, none⟩ = some (.int .i64 y.m) ∧ W.cell? ⟨(ab.add (k * 5)).block, (ab.add (k * 5)).off + 3, none⟩ = some (.string y.d) ∧ W.cell? ⟨(ab.add (k * 5)).block, (ab.add (k * 5)).off + 4, none⟩ = some (.string y.l)) (first | assumption | go_keep)
            (first
            | (refine gstep_append_own (by rfl) _ _ 23 (by rfl) w.heap.size 54 i0 _ 7 88 Tryz.underlying23 Hi.out Hz0.out Hz1.out Hz2.out rfl (by decide) _ _ _ (by rfl) (RZl.out.alloc _) ⟨w3l.heap.size, 0, none⟩ 1 1 (chgC (layOf y)) (by rfl) rfl (item_cells (cs := chgC (layOf y)) (World.alloc_heap_new w3l.drew _)) (by simp [chgC, Value.oneCell']) (by unfold maxLen; omega) (by omega) BDl.out.size ?_
               intro v4l w4l hown hgr _
               have B4l := Lib.hid (BDl.out.grown hgr BDl.out.size (fun k e => (World.ownsRow.lt RZl.out k e).1))
               have R4l := Lib.hid hown
               have hs4 := ent5 (HyC.out w4l B4l.out)
               clear hown hgr))
          clear hs4 hs3
          go_wp2_with fail
          go_roundw
          case rel =>
            refine ⟨i, k + 1, f, P ++ [layOf y], by go_num, by go_num, by omega, by omega, ?_, ?_, HREF.out, by omega, B4l.out⟩
            · simp only [List.length_append, List.length_cons, List.length_nil]; have := Hpl.out; omega
            · have hq := R4l.out
              have e1 : (P ++ [layOf y]).length = pl + 1 := by simp only [List.length_append, List.length_cons, List.length_nil]; have := Hpl.out; omega
              rw [e1, flat_oneC]
              exact hq
          case measure => simp [intOf]; omega
      · obtain rfl : k = m := by omega
        have HE := Lib.hid (show P = refL A B by
          have h := Href.out
          rw [Hn.out, Hm.out, List.drop_length, List.drop_length, ref_nil, List.append_nil] at h
          exact h)
        go_wp2_with fail
        go_ret
        exact ⟨_, rfl, by rw [← HE.out, ← Hpl.out]; exact Hrow.out, Hbr.out⟩
end
end Go.Proofs.YtipfccfjniglbaaGreatDoor
namespace Go.Proofs.YtipfccfjniglbaaGreatDoor
section
open Go.RowKit Go.Maps Go.Shelf
open Go.Lib hiding intOf size_eq
/-- an error, as three numbers say it -/
def ErrW (e : Value) (x : Nat × Nat × Nat) : Prop := (x.1 = 0 ∧ e = .nilIface ∧ x.2 = (0, 0)) ∨ (1 ≤ x.1 ∧ x.1 ≤ 32 ∧ e = fltV (x.1 : Int) (x.2.1 : Int) (x.2.2 : Int))
def fltA (x : Nat × Nat × Nat) : Value := .agg #[.int .i64 (x.1 : Int), .int .i64 (x.2.1 : Int), .int .i64 (x.2.2 : Int)]
set_option maxRecDepth 100000 in
set_option maxHeartbeats 2000000 in
theorem said10_any (e : Value) (x : Nat × Nat × Nat) (w : World) (h : ErrW e x) (hg : Handle w) : Calls Tryz.prog 13 #[e, fltA x] w fun r w' => r = .returned (.bool true) ∧ Below w.heap.size w w' := by
  obtain ⟨n, ln, at_⟩ := x
  unfold fltA
  rcases h with ⟨h1, rfl, h2⟩ | ⟨h1, h2, rfl⟩
  · obtain ⟨e1, e2⟩ := Prod.mk.inj (show (ln, at_) = (0, 0) from h2)
    obtain rfl : n = 0 := h1
    subst e1 e2
    have H := Lib.hid (at_ok 0 0)
    go_enter Tryz.func13, Tryz.ntmps13
    go_wp2_with fail
    refine (H.out _).mono ?_
    rintro r w1 ⟨rfl, rfl⟩
    go_wp2_with fail
    go_ret
    exact ⟨rfl, (Below.refl _ _).alloc (Nat.le_refl _) _⟩
  · have H := Lib.hid (fun (W : World) (hW : Handle W) => at_fault n (ln : Int) (at_ : Int) W h1 h2 hW)
    have Hg := Lib.hid (hg.alloc (.cells #[.int .i64 (n : Int), .int .i64 (ln : Int), .int .i64 (at_ : Int)] 25))
    clear hg h1 h2
    unfold fltV at H ⊢
    go_enter Tryz.func13, Tryz.ntmps13
    go_wp2_with fail
    refine (H.out _ Hg.out).mono ?_
    rintro r w1 ⟨rfl, hb⟩
    have HB := Lib.hid (((Below.refl w.heap.size w).alloc (Nat.le_refl _) _).trans (hb.mono (by rw [World.size_alloc]; omega)))
    clear hb
    go_wp2_with fail
    go_ret
    exact ⟨rfl, HB.out⟩
/-- what Diff answers, in one form -/
def diffN (A B : List Ent) : Nat × Nat × Nat := if (checkL A).1 ≠ 0 then ((checkL A).1, 0, (checkL A).2) else if (checkL B).1 ≠ 0 then ((checkL B).1, 1, (checkL B).2) else (0, 0, 0)
def diffC (A B : List Ent) : List Chg := if (checkL A).1 ≠ 0 then [] else if (checkL B).1 ≠ 0 then [] else chgL A B
theorem diffC_len (A B : List Ent) : (diffC A B).length ≤ A.length + B.length := by
  have := chg_le A B
  unfold diffC
  split
  · simp
  · split
    · simp
    · exact this
theorem diff_k0 {A B : List Ent} (ca : (checkL A).1 = 0) (cb : (checkL B).1 = 0) : diffN A B = (0, 0, 0) ∧ diffC A B = chgL A B := by
  unfold diffN diffC
  exact ⟨by rw [if_neg (fun x => x ca), if_neg (fun x => x cb)], by rw [if_neg (fun x => x ca), if_neg (fun x => x cb)]⟩
theorem diff_k1 {A B : List Ent} (ca : (checkL A).1 = 0) (cb : (checkL B).1 ≠ 0) : diffN A B = ((checkL B).1, 1, (checkL B).2) ∧ diffC A B = [] := by
  unfold diffN diffC
  exact ⟨by rw [if_neg (fun x => x ca), if_pos cb], by rw [if_neg (fun x => x ca), if_pos cb]⟩
theorem diff_k2 {A B : List Ent} (ca : (checkL A).1 ≠ 0) : diffN A B = ((checkL A).1, 0, (checkL A).2) ∧ diffC A B = [] := by
  unfold diffN diffC
  exact ⟨if_pos ca, if_pos ca⟩
theorem diff_uni (va vb : Value) (A B : List Ent) (w : World) (ha : EntsAt w va A) (hb : EntsAt w vb B) (sa : Small A) (sb : Small B) (hl : A.length + B.length < 1099511627776) (hg : Handle w) :
    Calls Tryz.prog 12 #[va, vb] w fun r w' => Below w.heap.size w w' ∧ ∃ v e, r = .returned (.tuple #[v, e]) ∧ ErrW e (diffN A B) ∧ w'.ownsRow w.heap.size 54 7 v (diffC A B).length ((diffC A B).flatMap chgC) ∧ (diffC A B = [] → v = .slice none 0 0) := by
  refine (diff_any va vb A B w ha hb sa sb hl hg).mono ?_
  rintro r w' ⟨h1, v, e, h2, h3⟩
  refine ⟨h1, v, e, h2, ?_⟩
  have hA := check_le A
  have hB := check_le B
  by_cases ca : (checkL A).1 = 0
  · by_cases cb : (checkL B).1 = 0
    · obtain ⟨k1, k2⟩ := diff_k0 ca cb
      rw [k1, k2]
      obtain ⟨h4, h5, h6⟩ := h3.c ca cb
      exact ⟨.inl ⟨rfl, h4, rfl⟩, h5, h6⟩
    · obtain ⟨k1, k2⟩ := diff_k1 ca cb
      rw [k1, k2]
      obtain ⟨h4, h5⟩ := h3.b ca cb
      subst h4
      exact ⟨.inr ⟨Nat.pos_of_ne_zero cb, Nat.le_trans hB (by decide), h5⟩, World.ownsRow_nil _ _ _ _, fun _ => rfl⟩
  · obtain ⟨k1, k2⟩ := diff_k2 (B := B) ca
    rw [k1, k2]
    obtain ⟨h4, h5⟩ := h3.a ca
    subst h4
    exact ⟨.inr ⟨Nat.pos_of_ne_zero ca, Nat.le_trans hA (by decide), h5⟩, World.ownsRow_nil _ _ _ _, fun _ => rfl⟩
theorem Small.r {L : List Ent} (h : ∀ x ∈ L, x.p.size ≤ 1099511627776 ∧ x.l.size ≤ 1099511627776 ∧ x.d.size ≤ 1099511627776) : ∀ e ∈ L, e.p.size ≤ 1099511627776 := fun e he => (h e he).1
theorem results_tmp_row {P : Program} {fn : Func} {t p : Tmp} {ty : TypeId} (h : fn.results = #[.tmp t, .cell p ty]) (tmps : Array Value) (w : World) (g : Nat) (tt : TypeId) (cs : Array Value) (fr : Nat × Nat) (d : TypeDesc)
    (hp : tmps.getD p undef = .pointer (some ⟨g, 0, none⟩)) (hg : w.heap[g]? = some (.cells cs tt fr))
    (hu : P.underlying ty = some d) (hd : (match d with | .struct _ | .array _ _ => true | _ => false) = true) (hi : (P.info? ty).map (·.size) = some cs.size) :
    (results fn tmps).run P w = .ok (.tuple #[tmps.getD t undef, .agg cs]) w := by
  have hp' : tmps[p]?.getD undef = .pointer (some ⟨g, 0, none⟩) := by simpa using hp
  simp [results, h, hp', asAddr, run_loadVar_row w g tt ty cs fr d hg hu hd hi]
set_option maxRecDepth 100000 in
set_option maxHeartbeats 4000000 in
theorem rdiff10_any (va vb : Value) (A B : List Ent) (w : World) (ha : EntsAt w va A) (hb : EntsAt w vb B) (sa : ∀ x ∈ A, x.p.size ≤ 1099511627776 ∧ x.l.size ≤ 1099511627776 ∧ x.d.size ≤ 1099511627776) (sb : ∀ x ∈ B, x.p.size ≤ 1099511627776 ∧ x.l.size ≤ 1099511627776 ∧ x.d.size ≤ 1099511627776) (la : A.length ≤ 4294967296) (lb : B.length ≤ 4294967296) :
    Calls Tryz.prog 10 #[va, vb] w fun r w' => Below w.heap.size w w' ∧ ∃ v, r = .returned (.tuple #[v, fltA (diffN A B)]) ∧ ChgsAt w' v (diffC A B) := by
  obtain ⟨w0, hw0⟩ : ∃ x, x = w.alloc (.cells #[.int .i64 0, .int .i64 0, .int .i64 0] 25) := ⟨_, rfl⟩
  have hb0 : Below w.heap.size w w0 := by rw [hw0]; exact (Below.refl _ _).alloc (Nat.le_refl _) _
  have hc0 : w0.heap[w.heap.size]? = some (.cells #[.int .i64 0, .int .i64 0, .int .i64 0] 25 (0, 0)) := by rw [hw0]; exact World.alloc_heap_new w _
  have hbl := heap_lt hc0
  have hk : ∀ W, Below w0.heap.size w0 W → W.heap[w.heap.size]? = some (.cells #[.int .i64 0, .int .i64 0, .int .i64 0] 25 (0, 0)) := fun W hW => (hW.block _ hbl).trans hc0
  have h1 := rcheck07_any va A w0 (ha.below hb0 (Nat.le_refl _)) sa (by omega)
  have h2 := fun (W : World) (hW : Below w0.heap.size w0 W) => rcheck07_any vb B W ((hb.below hb0 (Nat.le_refl _)).below hW (Nat.le_refl _)) sb (by omega)
  have h3 := fun (W : World) (hW : Below w0.heap.size w0 W) => changes10_any va vb A B W ((ha.below hb0 (Nat.le_refl _)).below hW (Nat.le_refl _)) ((hb.below hb0 (Nat.le_refl _)).below hW (Nat.le_refl _)) la lb (Small.r sa) (Small.r sb)
  have hset : ∀ W cs, Below w0.heap.size w0 W → cs.size = 3 → Below w.heap.size w (W.setRow w.heap.size cs) := fun W cs hW hcs => by
    have h := hb0.trans (hW.mono (by omega))
    exact ⟨h.os, h.tape, h.output, by simpa using h.size, fun j hj => (setRow_other W w.heap.size j _ (by omega)).trans (h.block j hj)⟩
  have Hw0 := Lib.hid hw0
  have Hb0 := Lib.hid hb0
  have Hk := Lib.hid hk
  have Hbl := Lib.hid hbl
  have H1 := Lib.hid h1
  have H2 := Lib.hid h2
  have H3 := Lib.hid h3
  have Hset := Lib.hid hset
  clear hw0 hb0 hk hc0 hbl h1 h2 h3 hset
  by_cases ca : (checkL A).1 = 0
  · by_cases cb : (checkL B).1 = 0
    · have hN := (diff_k0 ca cb).1
      have hC : diffC A B = refL A B := by rw [(diff_k0 ca cb).2, refL_chg (good_of_check ca) (good_of_check cb)]
      have HN := Lib.hid hN
      have HC := Lib.hid hC
      rw [ca] at H1
      rw [cb] at H2
      clear ca cb hN hC ha hb sa sb
      generalize ((checkL A).2 : Int) = z1 at *
      generalize ((checkL B).2 : Int) = z2 at *
      go_enter Tryz.func10, Tryz.ntmps10
      go_upto_region 1 with fail
      rw [← Hw0.out]
      go_wp2_with fail
      refine H1.out.mono ?_
      rintro r w1 ⟨rfl, hb1⟩
      have B1 := Lib.hid hb1
      clear hb1
      go_wp2_with fail
      refine (H2.out w1 B1.out).mono ?_
      rintro r w2 ⟨rfl, hb2⟩
      have B2 := Lib.hid (B1.out.trans (hb2.mono B1.out.size))
      clear hb2
      go_wp2_with fail
      refine (H3.out w2 B2.out).mono ?_
      rintro r w3 ⟨v, rfl, hr, hb3⟩
      have B3 := Lib.hid (B2.out.trans (hb3.mono B2.out.size))
      have K3 := Lib.hid (Hk.out w3 B3.out)
      have R3 := Lib.hid hr
      have L3 := Lib.hid hb3.size
      clear hb3 hr
      go_wp2_with (refine wpList_store_row rfl _ _ _ rfl w.heap.size #[.int .i64 0, .int .i64 0, .int .i64 0] rfl rfl 25 _ K3.out (by kernel_rfl) rfl (by simp [Value.oneCell']) ?_)
      refine bodyPost_ret_by (v := .tuple #[v, .agg #[.int .i64 0, .int .i64 0, .int .i64 0]]) ?_ rfl ⟨Hset.out w3 _ B3.out rfl, v, ?_, ?_⟩
      · exact results_tmp_row (t := 4) (p := 5) (ty := 25) rfl _ _ w.heap.size _ _ _ _ rfl (grow_at K3.out) Tryz.underlying25 rfl (by kernel_rfl)
      · rw [HN.out]; rfl
      · rw [HC.out]
        refine ItemsAt.keep (RowE.chgs R3.out) (by simp) fun oo nn cc kk e1 e2 => ?_
        refine setRow_other w3 w.heap.size kk _ (fun e3 => ?_)
        have h5 := (World.ownsRow.lt R3.out kk (by
          subst e1
          rcases R3.out.2 with ⟨e4, _⟩ | ⟨g, cap, cur, e4, _⟩
          · cases e4
          · injection e4 with e4 _ _
            injection e4 with e4
            subst e4
            rw [e2]
            rfl)).1
        have h6 := B2.out.size
        have h7 := Hbl.out
        omega
    · have hN := (diff_k1 ca cb).1
      have hC := (diff_k1 ca cb).2
      have HN := Lib.hid hN
      have HC := Lib.hid hC
      have hcb : ¬ ((checkL B).1 : Int) = 0 := by omega
      rw [ca] at H1
      clear ca cb hN hC ha hb sa sb H3
      generalize ((checkL A).2 : Int) = z1 at *
      go_enter Tryz.func10, Tryz.ntmps10
      go_upto_region 1 with fail
      rw [← Hw0.out]
      go_wp2_with fail
      refine H1.out.mono ?_
      rintro r w1 ⟨rfl, hb1⟩
      have B1 := Lib.hid hb1
      clear hb1
      go_wp2_with fail
      refine (H2.out w1 B1.out).mono ?_
      rintro r w2 ⟨rfl, hb2⟩
      have B2 := Lib.hid (B1.out.trans (hb2.mono B1.out.size))
      have K2 := Lib.hid (Hk.out w2 B2.out)
      clear hb2
      go_wp2_with (refine wpList_store_row rfl _ _ _ rfl w.heap.size #[.int .i64 ((checkL B).1 : Int), .int .i64 1, .int .i64 ((checkL B).2 : Int)] rfl rfl 25 _ K2.out (by kernel_rfl) rfl (by simp [Value.oneCell']) ?_)
      refine bodyPost_ret_by (v := .tuple #[.slice none 0 0, .agg #[.int .i64 ((checkL B).1 : Int), .int .i64 1, .int .i64 ((checkL B).2 : Int)]]) ?_ rfl ⟨Hset.out w2 _ B2.out rfl, .slice none 0 0, ?_, ?_⟩
      · exact results_tmp_row (t := 4) (p := 5) (ty := 25) rfl _ _ w.heap.size _ _ _ _ rfl (grow_at K2.out) Tryz.underlying25 rfl (by kernel_rfl)
      · rw [HN.out]; rfl
      · rw [HC.out]; exact ItemsAt.nil _
  · have hN := (diff_k2 (B := B) ca).1
    have hC := (diff_k2 (B := B) ca).2
    have HN := Lib.hid hN
    have HC := Lib.hid hC
    have hca : ¬ ((checkL A).1 : Int) = 0 := by omega
    clear ca hN hC ha hb sa sb H3 H2
    go_enter Tryz.func10, Tryz.ntmps10
    go_upto_region 1 with fail
    rw [← Hw0.out]
    go_wp2_with fail
    refine H1.out.mono ?_
    rintro r w1 ⟨rfl, hb1⟩
    have B1 := Lib.hid hb1
    have K1 := Lib.hid (Hk.out w1 B1.out)
    clear hb1
    go_wp2_with (refine wpList_store_row rfl _ _ _ rfl w.heap.size #[.int .i64 ((checkL A).1 : Int), .int .i64 0, .int .i64 ((checkL A).2 : Int)] rfl rfl 25 _ K1.out (by kernel_rfl) rfl (by simp [Value.oneCell']) ?_)
    refine bodyPost_ret_by (v := .tuple #[.slice none 0 0, .agg #[.int .i64 ((checkL A).1 : Int), .int .i64 0, .int .i64 ((checkL A).2 : Int)]]) ?_ rfl ⟨Hset.out w1 _ B1.out rfl, .slice none 0 0, ?_, ?_⟩
    · exact results_tmp_row (t := 4) (p := 5) (ty := 25) rfl _ _ w.heap.size _ _ _ _ rfl (grow_at K1.out) Tryz.underlying25 rfl (by kernel_rfl)
    · rw [HN.out]; rfl
    · rw [HC.out]; exact ItemsAt.nil _
end
end Go.Proofs.YtipfccfjniglbaaGreatDoor
