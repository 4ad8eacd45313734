/- The contract of the tree's set, for an entry that is new: the walk. -/
import Derived.Test.YtdkodedocklmdaaGreatDoorTSetA
import Derived.Deep.DeepCutAuto
import Derived.Deep.CutBlock
import Derived.StillTailTactics
set_option linter.unusedSimpArgs false
set_option linter.unusedVariables false
namespace Go.Proofs.YtdkodedocklmdaaGreatDoor
open Go.RowKit Go.Maps
open Go.Lib hiding intOf
set_option maxRecDepth 100000 in
set_option maxHeartbeats 4000000 in
theorem set_any {T rt rm base : Nat} {nd : List Nd} (e : Ent) (o : Option Nd) (w : World) (h : TreeAt w T rt rm base nd) (hg : Good (ents nd ++ [e])) (ho : findO nd (parent e.path) = some o) (hp : e.p.size < 4611686018427387904) (hd : e.d.size < 4611686018427387904) :
    Calls Tryz.prog 63 #[.pointer (some ⟨T, 0, none⟩), .pointer (some ⟨spotB rt o, 0, none⟩), entV e] w fun r w' => r = .returned (.tuple #[]) ∧ ∃ y : Nd, y.e = e ∧ TreeAt w' T rt rm base (nd ++ [y]) ∧ w'.os = w.os ∧ w'.tape = w.tape ∧ w'.output = w.output ∧ w.heap.size ≤ w'.heap.size ∧ ∀ k, k < w.heap.size → ¬ IsBlk T rt rm nd k → w'.heap[k]? = w.heap[k]? := by
  show Calls _ _ #[.pointer (some ⟨T, 0, none⟩), .pointer (some ⟨spotB rt o, 0, none⟩), .agg (entC e).toArray] _ _
  have hmm := @run_makeMap Tryz.prog
  have hla := fun W => last_any e.p W hp
  have hle : (bs (lastName e.p.data.toList)).size ≤ maxLen := by
    have : (lastName e.p.data.toList).length ≤ e.p.data.toList.length := by unfold lastName; simp
    rw [← Lib.size_eq] at this
    rw [bs_size]; unfold maxLen; omega
  obtain ⟨hin, hq⟩ := findO_in ho
  have hwf2 : Wf (nd ++ [(⟨e, 0, 0⟩ : Nd)]) := Good.wf (by rw [ents_append]; exact hg)
  have hno : kidN nd (spotQ o) (lastName e.path) = none := by
    rw [hq, kid_look h.wf.ok (last_no47 _), ← (hwf2.ok ⟨e, 0, 0⟩ (by simp)).is_join]
    cases hl : lookN nd e.path with
    | none => rfl
    | some z =>
      obtain ⟨hz, hzp⟩ := lookN_some hl
      exact absurd hzp ((List.pairwise_append.1 hwf2.one).2.2 z hz ⟨e, 0, 0⟩ (List.mem_singleton.2 rfl))
  have hno2 : kidN nd (spotQ o) (bs (lastName e.p.data.toList)).data.toList = none := hno
  have hspot := h.spot hin
  obtain ⟨n, D, hm0, hn, hD⟩ := hspot.2
  rw [hq] at hD
  have hgood2 := hg.len
  have hby2 := hg.byt
  rw [List.length_append, ents_length, List.length_singleton] at hgood2
  rw [bytesE_append, show bytesE (ents nd) = bytesN nd from rfl, show bytesE [e] = e.d.size by simp [bytesE]] at hby2
  -- the worlds in which region 6 runs
  obtain ⟨w0, hw0⟩ : ∃ x, x = w.alloc (.cells (entC e).toArray 38) := ⟨_, rfl⟩
  have hsz0 : w0.heap.size = w.heap.size + 1 := by rw [hw0]; simp
  have hold0 : ∀ k, k < w.heap.size → w0.heap[k]? = w.heap[k]? := fun k hk => by rw [hw0]; exact heap_alloc_old w _ hk
  have hbx : w0.heap[w.heap.size]? = some (.cells (entC e).toArray 38 (0, 0)) := by rw [hw0]; exact World.alloc_heap_new w _
  have hupb : spotB rt o < w.heap.size := heap_lt hspot.1
  have hup0 : w0.heap[spotB rt o]? = some (nodeObj (spotE o) (spotM rm o)) := (hold0 _ hupb).trans hspot.1
  have c5 := (node_cells hup0).2.2.2.2.2
  have cp : w0.cell? ⟨w.heap.size, 0, none⟩ = some (.string e.p) := by unfold World.cell?; rw [hbx]; rfl
  have hka : KidsAt w0 (spotM rm o) nd (spotQ o) := hspot.2.block (fun es c hx => (hold0 _ (heap_lt hx)).trans hx)
  have Hla := Lib.hid hla
  have Hle := Lib.hid hle
  have Hno := Lib.hid hno2
  have Hka := Lib.hid hka
  clear hla hle hno hno2 hka hspot hwf2
  have HT := Lib.hid h
  have Hg := Lib.hid hg
  have Ho := Lib.hid ho
  have Hm0 := Lib.hid hm0
  have HD := Lib.hid hD
  have Hin := Lib.hid hin
  have Hw0 := Lib.hid hw0
  have Hold := Lib.hid hold0
  have Hbx := Lib.hid hbx
  have Hup0 := Lib.hid hup0
  have Hq := Lib.hid hq
  clear h hg ho hm0 hD hin hold0 hbx hup0 hq hw0
  go_enter Tryz.func63, Tryz.ntmps63
  go_upto_region 1 with fail
  rw [← Hw0.out]
  generalize spotB rt o = U at *
  generalize hM : spotM rm o = M at *
  have HMe := Lib.hid hM
  clear hM
  go_wp2_with (first
    | (go_at_call 61; refine (Hla.out _).mono ?_; rintro r w1 ⟨rfl, rfl⟩)
    | (at_lookup; refine wpList_lookup_kid rfl _ _ rfl M nd (spotQ o) rfl Hka.out _ rfl Hle.out ?_; rw [Hno.out]; change wpList _ _ _ _ (Act.put _ _ (.pointer none)) _))
  have hU : ∀ W : World, (∀ k, k < w0.heap.size → W.heap[k]? = w0.heap[k]?) → W.cell? ⟨U, 5, none⟩ = some (.map (some M)) := fun W hW => by
    unfold World.cell? at c5 ⊢
    rw [hW U (by omega)]
    exact c5
  have ea : ∀ k, k < w0.heap.size → (w0.alloc (.map #[] 0)).heap[k]? = w0.heap[k]? := fun k hk => heap_alloc_old w0 _ hk
  have eb : ∀ k, k < w0.heap.size → ((w0.alloc (.map #[] 0)).alloc (.cells #[.string e.p, .int .i64 e.k, .int .i64 e.m, .string e.d, .string e.l, .map (some w0.heap.size)] 100)).heap[k]? = w0.heap[k]? := fun k hk => (heap_alloc_old _ _ (by simp; omega)).trans (ea k hk)
  have c5a := hU _ ea
  have c5b := hU _ eb
  have hbx0 : w0.drew.heap[w.heap.size]? = some (.cells #[.string e.p, .int .i64 e.k, .int .i64 e.m, .string e.d, .string e.l] 38 (0, 0)) := Hbx.out
  have hbx1 : (w0.alloc (.map #[] 0)).drew.heap[w.heap.size]? = some (.cells #[.string e.p, .int .i64 e.k, .int .i64 e.m, .string e.d, .string e.l] 38 (0, 0)) := (ea _ (by omega)).trans Hbx.out
  have hbx2 := (eb _ (by omega)).trans Hbx.out
  have hmw : ((w0.alloc (.map #[] 0)).alloc (.cells #[.string e.p, .int .i64 e.k, .int .i64 e.m, .string e.d, .string e.l, .map (some w0.heap.size)] 100)).drew.ownsMap Tryz.prog 9 ptrElem M n D := by
    obtain ⟨es, ck, q1, q2⟩ := Hm0.out
    exact ⟨es, ck, (eb _ (by have := heap_lt q1; omega)).trans ((Hold.out _ (heap_lt q1)).trans q1), q2⟩
  have hm1 : ((w0.alloc (.map #[] 0)).alloc (.cells #[.string e.p, .int .i64 e.k, .int .i64 e.m, .string e.d, .string e.l, .map (some w0.heap.size)] 100)).ownsMap Tryz.prog 9 ptrElem w0.heap.size 0 (.map []) := (World.ownsMap_made w0 _ _ _).alloc _
  have hb1 : ((w0.alloc (.map #[] 0)).alloc (.cells #[.string e.p, .int .i64 e.k, .int .i64 e.m, .string e.d, .string e.l, .map (some w0.heap.size)] 100)).heap[w0.heap.size + 1]? = some (nodeObj e w0.heap.size) := by
    have h := World.alloc_heap_new (w0.alloc (.map #[] 0)) (.cells #[.string e.p, .int .i64 e.k, .int .i64 e.m, .string e.d, .string e.l, .map (some w0.heap.size)] 100)
    rw [show (w0.alloc (.map #[] 0)).heap.size = w0.heap.size + 1 by simp] at h
    exact h
  have hs1 : ∀ k, k < w.heap.size → ((w0.alloc (.map #[] 0)).alloc (.cells #[.string e.p, .int .i64 e.k, .int .i64 e.m, .string e.d, .string e.l, .map (some w0.heap.size)] 100)).drew.heap[k]? = w.heap[k]? := fun k hk => (eb k (by omega)).trans (Hold.out k hk)
  have hz1 : ((w0.alloc (.map #[] 0)).alloc (.cells #[.string e.p, .int .i64 e.k, .int .i64 e.m, .string e.d, .string e.l, .map (some w0.heap.size)] 100)).drew.heap.size = w0.heap.size + 2 := by simp
  have htr := HT.out.tr
  have htl := heap_lt htr
  have fin : ∀ w3 : World, w3.ownsMap Tryz.prog 9 ptrElem M (n + 1) (D.put (.string (lastName e.path)) (.lit (.int .i64 ((w0.heap.size + 1 : Nat) : Int)))) → ((w0.alloc (.map #[] 0)).alloc (.cells #[.string e.p, .int .i64 e.k, .int .i64 e.m, .string e.d, .string e.l, .map (some w0.heap.size)] 100)).drew.grownBy w3 (some M) →
      w3.frozen? ⟨T, 1, none⟩ = false ∧ w3.cell? ⟨T, 1, none⟩ = some (.int .i64 (nd.length : Int)) ∧ (∀ w4, w4 = w3.setCell ⟨T, 1, none⟩ (.int .i64 ((nd.length : Int) + 1)) → w4.drew.frozen? ⟨T, 2, none⟩ = false ∧ w4.drew.cell? ⟨T, 2, none⟩ = some (.int .i64 (bytesN nd : Int)) ∧ w4.drew.cell? ⟨w.heap.size, 3, none⟩ = some (.string e.d) ∧ w4.frozen? ⟨T, 2, none⟩ = false ∧ w4.cell? ⟨T, 2, none⟩ = some (.int .i64 (bytesN nd : Int)) ∧ w4.cell? ⟨w.heap.size, 3, none⟩ = some (.string e.d)) ∧
      ∀ w4, w4 = (w3.setCell ⟨T, 1, none⟩ (.int .i64 ((nd.length : Int) + 1))).setCell ⟨T, 2, none⟩ (.int .i64 ((bytesN nd : Int) + (e.d.size : Int))) →
        ∃ y : Nd, y.e = e ∧ TreeAt w4.drew T rt rm base (nd ++ [y]) ∧ w4.drew.os = w.os ∧ w4.drew.tape = w.tape ∧ w4.drew.output = w.output ∧ w.heap.size ≤ w4.drew.heap.size ∧ ∀ k, k < w.heap.size → ¬ IsBlk T rt rm nd k → w4.drew.heap[k]? = w.heap[k]? := by
    intro w3 hown hgr
    have hM2 := HMe.out
    subst hM2
    have hMlt := Hm0.out.lt
    have hMT : T ≠ spotM rm o := fun e2 => by
      obtain ⟨es, c, hx, _⟩ := Hm0.out
      rw [← e2, htr] at hx
      cases hx
    have t3 : w3.heap[T]? = some (.cells #[.pointer (some ⟨rt, 0, none⟩), .int .i64 (nd.length : Int), .int .i64 (bytesN nd : Int)] 102 (0, 0)) := by
      rw [hgr.block T (by omega) (fun e2 => hMT (by injection e2)), hs1 T htl]
      exact htr
    have b3 : w3.heap[w.heap.size]? = some (.cells (entC e).toArray 38 (0, 0)) := by
      rw [hgr.block _ (by omega) (fun e2 => by injection e2 with e2; omega)]
      exact hbx2
    refine ⟨by unfold World.frozen?; rw [t3]; rfl, by unfold World.cell?; rw [t3]; rfl, fun w4 hw4 => ?_, fun w4 hw4 => ?_⟩
    · have t4 := heap_setCell_same w3 T 1 _ _ (.int .i64 ((nd.length : Int) + 1)) t3
      have b4 := (heap_setCell_other w3 ⟨T, 1, none⟩ w.heap.size (.int .i64 ((nd.length : Int) + 1)) (by show w.heap.size ≠ T; omega)).trans b3
      rw [← hw4] at t4 b4
      have r1 : w4.frozen? ⟨T, 2, none⟩ = false := by unfold World.frozen?; rw [t4]; rfl
      have r2 : w4.cell? ⟨T, 2, none⟩ = some (.int .i64 (bytesN nd : Int)) := by unfold World.cell?; rw [t4]; rfl
      have r3 : w4.cell? ⟨w.heap.size, 3, none⟩ = some (.string e.d) := by unfold World.cell?; rw [b4]; rfl
      exact ⟨r1, r2, r3, r1, r2, r3⟩
    obtain ⟨y, q1, q2, q3, q4⟩ := HT.out.set Hg.out Ho.out HD.out hn (b := w0.heap.size + 1) (m := w0.heap.size) (by omega) (by omega) Hm0.out (by omega) hs1 hb1 hm1 hown hgr hw4
    have o1 : w0.os = w.os := by rw [Hw0.out]; rfl
    have o2 : w0.tape = w.tape := by rw [Hw0.out]; rfl
    have o3 : w0.output = w.output := by rw [Hw0.out]; rfl
    refine ⟨y, q1, q2.same (fun _ _ => rfl), ?_, ?_, ?_, ?_, q4⟩
    · rw [hw4]; exact hgr.os.trans o1
    · rw [hw4]; exact hgr.tape.trans o2
    · rw [hw4]; exact hgr.output.trans o3
    · show w.heap.size ≤ w4.heap.size; rw [q3]; have := hgr.size; omega
  have Fin := Lib.hid fin
  have Hmw := Lib.hid hmw
  have Hbx0 := Lib.hid hbx0
  have Hbx1 := Lib.hid hbx1
  clear fin hmw hbx0 hbx1 hbx2 hm1 hb1 hs1 hz1 htr hU ea eb hsz0
  refine wp_region_any (by kernel_rfl) ?_
  change wpAny _ _ _ _ _ _ _ (World.drew w0)
  refine wpAny_take (i := 0) (v := .pointer (some ⟨U, 0, none⟩)) rfl (by kernel_rfl) (by kernel_rfl) (by kernel_rfl) (fun _ _ _ h => h) (Or.inl ⟨by rfl, fun w => by go_simp⟩) ?_
  refine wpAny_take (i := 1) (v := .pointer (some ⟨U, 0, none⟩)) rfl (by kernel_rfl) (by kernel_rfl) (by kernel_rfl) (fun _ _ _ h => h) (Or.inl ⟨by rfl, fun w => by go_simp⟩) ?_
  refine wpAny_take (i := 2) (v := .pointer (some ⟨U, 5, none⟩)) rfl (by kernel_rfl) (by kernel_rfl) (by kernel_rfl) (fun _ _ _ h => h) (Or.inl ⟨by rfl, fun w => by go_simp⟩) ?_
  refine wpAny_take (i := 4) (v := .string (bs (lastName e.p.data.toList))) rfl (by kernel_rfl) (by kernel_rfl) (by kernel_rfl) (fun _ _ _ h => h) (Or.inl ⟨by rfl, fun w => by go_simp⟩) ?_
  refine wpAny_ready (rs := [3, 5, 6]) (by kernel_rfl) (by simp) ?_
  refine AllReady.cons rfl (fun J hJ => ?_) (AllReady.cons rfl (fun J hJ => ?_) (AllReady.cons rfl (fun J hJ => ?_) AllReady.nil))
  · go_simp
    refine hJ _ _ ?_
    clear hJ J
    refine wpAny_ready (rs := [5, 6]) (by kernel_rfl) (by simp) ?_
    refine AllReady.cons rfl (fun J hJ => ?_) (AllReady.cons rfl (fun J hJ => ?_) AllReady.nil)
    · refine step_load_row rfl _ _ rfl w.heap.size rfl 38 #[.string e.p, .int .i64 e.k, .int .i64 e.m, .string e.d, .string e.l] (0, 0) _ Hbx0.out Tryz.underlying38 rfl (by kernel_rfl) ?_
      refine hJ _ _ ?_
      clear hJ J
      refine wpAny_ready (rs := [6]) (by kernel_rfl) (by simp) ?_
      refine AllReady.cons rfl (fun J hJ => ?_) AllReady.nil
      go_simp
      refine hJ _ _ ?_
      clear hJ J
      refine wpAny_take (i := 7) (v := .agg #[.string e.p, .int .i64 e.k, .int .i64 e.m, .string e.d, .string e.l, .map (some w0.heap.size)]) rfl (by kernel_rfl) (by kernel_rfl) (by kernel_rfl) (fun _ _ _ h => h) (Or.inl ⟨by rfl, fun w => by go_simp⟩) ?_
      refine wpAny_ready (rs := [8]) (by kernel_rfl) (by simp) ?_
      refine AllReady.cons rfl (fun J hJ => ?_) AllReady.nil
      go_simp
      refine hJ _ _ ?_
      clear hJ J
      refine wpAny_ready (rs := [9]) (by kernel_rfl) (by simp) ?_
      refine AllReady.cons (o := { dst := none, op := .mapUpdate 98 (.tmp 43) (.tmp 44) (.tmp 48), type := _, pos := _, after := _, guard := none }) rfl (fun J hJ => ?_) AllReady.nil
      refine step_mapUpdate_kid rfl _ _ _ rfl M n D rfl Hmw.out (by unfold maxLen; omega) (bs (lastName e.p.data.toList)) rfl Hle.out (w0.heap.size + 1) rfl ?_
      intro w3 hown3 hgr3
      obtain ⟨fz1, t1, hf4, hf⟩ := Fin.out w3 hown3 hgr3
      have Hf := Lib.hid hf
      have Hf4 := Lib.hid hf4
      clear hf hf4 hown3 hgr3
      go_simp
      refine hJ _ _ ?_
      clear hJ J
      refine wpAny_done (by kernel_rfl) ?_ _
      go_wp2_with fail
      obtain ⟨w4, hw4⟩ : ∃ y, y = w3.setCell ⟨T, 1, none⟩ (.int .i64 ((nd.length : Int) + 1)) := ⟨_, rfl⟩
      obtain ⟨u1, u2, u3, u4, u5, u6⟩ := Hf4.out w4 hw4
      have Hw4 := Lib.hid hw4
      rw [← hw4]
      clear hw4
      go_still_tail 10, (by kernel_rfl)
      go_wp2_with fail
      refine bodyPost_end (results_none rfl _ _ _) rfl ⟨rfl, ?_⟩
      exact Hf.out _ (by rw [Hw4.out])
    · go_simp
      refine hJ _ _ ?_
      clear hJ J
      refine wpAny_ready (rs := [5]) (by kernel_rfl) (by simp) ?_
      refine AllReady.cons rfl (fun J hJ => ?_) AllReady.nil
      refine step_load_row rfl _ _ rfl w.heap.size rfl 38 #[.string e.p, .int .i64 e.k, .int .i64 e.m, .string e.d, .string e.l] (0, 0) _ Hbx1.out Tryz.underlying38 rfl (by kernel_rfl) ?_
      refine hJ _ _ ?_
      clear hJ J
      refine wpAny_take (i := 7) (v := .agg #[.string e.p, .int .i64 e.k, .int .i64 e.m, .string e.d, .string e.l, .map (some w0.heap.size)]) rfl (by kernel_rfl) (by kernel_rfl) (by kernel_rfl) (fun _ _ _ h => h) (Or.inl ⟨by rfl, fun w => by go_simp⟩) ?_
      refine wpAny_ready (rs := [8]) (by kernel_rfl) (by simp) ?_
      refine AllReady.cons rfl (fun J hJ => ?_) AllReady.nil
      go_simp
      refine hJ _ _ ?_
      clear hJ J
      refine wpAny_ready (rs := [9]) (by kernel_rfl) (by simp) ?_
      refine AllReady.cons (o := { dst := none, op := .mapUpdate 98 (.tmp 43) (.tmp 44) (.tmp 48), type := _, pos := _, after := _, guard := none }) rfl (fun J hJ => ?_) AllReady.nil
      refine step_mapUpdate_kid rfl _ _ _ rfl M n D rfl Hmw.out (by unfold maxLen; omega) (bs (lastName e.p.data.toList)) rfl Hle.out (w0.heap.size + 1) rfl ?_
      intro w3 hown3 hgr3
      obtain ⟨fz1, t1, hf4, hf⟩ := Fin.out w3 hown3 hgr3
      have Hf := Lib.hid hf
      have Hf4 := Lib.hid hf4
      clear hf hf4 hown3 hgr3
      go_simp
      refine hJ _ _ ?_
      clear hJ J
      refine wpAny_done (by kernel_rfl) ?_ _
      go_wp2_with fail
      obtain ⟨w4, hw4⟩ : ∃ y, y = w3.setCell ⟨T, 1, none⟩ (.int .i64 ((nd.length : Int) + 1)) := ⟨_, rfl⟩
      obtain ⟨u1, u2, u3, u4, u5, u6⟩ := Hf4.out w4 hw4
      have Hw4 := Lib.hid hw4
      rw [← hw4]
      clear hw4
      go_still_tail 10, (by kernel_rfl)
      go_wp2_with fail
      refine bodyPost_end (results_none rfl _ _ _) rfl ⟨rfl, ?_⟩
      exact Hf.out _ (by rw [Hw4.out])
  · refine step_load_row rfl _ _ rfl w.heap.size rfl 38 #[.string e.p, .int .i64 e.k, .int .i64 e.m, .string e.d, .string e.l] (0, 0) _ Hbx0.out Tryz.underlying38 rfl (by kernel_rfl) ?_
    refine hJ _ _ ?_
    clear hJ J
    refine wpAny_ready (rs := [3, 6]) (by kernel_rfl) (by simp) ?_
    refine AllReady.cons rfl (fun J hJ => ?_) (AllReady.cons rfl (fun J hJ => ?_) AllReady.nil)
    · go_simp
      refine hJ _ _ ?_
      clear hJ J
      refine wpAny_ready (rs := [6]) (by kernel_rfl) (by simp) ?_
      refine AllReady.cons rfl (fun J hJ => ?_) AllReady.nil
      go_simp
      refine hJ _ _ ?_
      clear hJ J
      refine wpAny_take (i := 7) (v := .agg #[.string e.p, .int .i64 e.k, .int .i64 e.m, .string e.d, .string e.l, .map (some w0.heap.size)]) rfl (by kernel_rfl) (by kernel_rfl) (by kernel_rfl) (fun _ _ _ h => h) (Or.inl ⟨by rfl, fun w => by go_simp⟩) ?_
      refine wpAny_ready (rs := [8]) (by kernel_rfl) (by simp) ?_
      refine AllReady.cons rfl (fun J hJ => ?_) AllReady.nil
      go_simp
      refine hJ _ _ ?_
      clear hJ J
      refine wpAny_ready (rs := [9]) (by kernel_rfl) (by simp) ?_
      refine AllReady.cons (o := { dst := none, op := .mapUpdate 98 (.tmp 43) (.tmp 44) (.tmp 48), type := _, pos := _, after := _, guard := none }) rfl (fun J hJ => ?_) AllReady.nil
      refine step_mapUpdate_kid rfl _ _ _ rfl M n D rfl Hmw.out (by unfold maxLen; omega) (bs (lastName e.p.data.toList)) rfl Hle.out (w0.heap.size + 1) rfl ?_
      intro w3 hown3 hgr3
      obtain ⟨fz1, t1, hf4, hf⟩ := Fin.out w3 hown3 hgr3
      have Hf := Lib.hid hf
      have Hf4 := Lib.hid hf4
      clear hf hf4 hown3 hgr3
      go_simp
      refine hJ _ _ ?_
      clear hJ J
      refine wpAny_done (by kernel_rfl) ?_ _
      go_wp2_with fail
      obtain ⟨w4, hw4⟩ : ∃ y, y = w3.setCell ⟨T, 1, none⟩ (.int .i64 ((nd.length : Int) + 1)) := ⟨_, rfl⟩
      obtain ⟨u1, u2, u3, u4, u5, u6⟩ := Hf4.out w4 hw4
      have Hw4 := Lib.hid hw4
      rw [← hw4]
      clear hw4
      go_still_tail 10, (by kernel_rfl)
      go_wp2_with fail
      refine bodyPost_end (results_none rfl _ _ _) rfl ⟨rfl, ?_⟩
      exact Hf.out _ (by rw [Hw4.out])
    · go_simp
      refine hJ _ _ ?_
      clear hJ J
      refine wpAny_take (i := 7) (v := .agg #[.string e.p, .int .i64 e.k, .int .i64 e.m, .string e.d, .string e.l, .map (some w0.heap.size)]) rfl (by kernel_rfl) (by kernel_rfl) (by kernel_rfl) (fun _ _ _ h => h) (Or.inl ⟨by rfl, fun w => by go_simp⟩) ?_
      refine wpAny_ready (rs := [3, 8]) (by kernel_rfl) (by simp) ?_
      refine AllReady.cons rfl (fun J hJ => ?_) (AllReady.cons rfl (fun J hJ => ?_) AllReady.nil)
      · go_simp
        refine hJ _ _ ?_
        clear hJ J
        refine wpAny_ready (rs := [8]) (by kernel_rfl) (by simp) ?_
        refine AllReady.cons rfl (fun J hJ => ?_) AllReady.nil
        go_simp
        refine hJ _ _ ?_
        clear hJ J
        refine wpAny_ready (rs := [9]) (by kernel_rfl) (by simp) ?_
        refine AllReady.cons (o := { dst := none, op := .mapUpdate 98 (.tmp 43) (.tmp 44) (.tmp 48), type := _, pos := _, after := _, guard := none }) rfl (fun J hJ => ?_) AllReady.nil
        refine step_mapUpdate_kid rfl _ _ _ rfl M n D rfl Hmw.out (by unfold maxLen; omega) (bs (lastName e.p.data.toList)) rfl Hle.out (w0.heap.size + 1) rfl ?_
        intro w3 hown3 hgr3
        obtain ⟨fz1, t1, hf4, hf⟩ := Fin.out w3 hown3 hgr3
        have Hf := Lib.hid hf
        have Hf4 := Lib.hid hf4
        clear hf hf4 hown3 hgr3
        go_simp
        refine hJ _ _ ?_
        clear hJ J
        refine wpAny_done (by kernel_rfl) ?_ _
        go_wp2_with fail
        obtain ⟨w4, hw4⟩ : ∃ y, y = w3.setCell ⟨T, 1, none⟩ (.int .i64 ((nd.length : Int) + 1)) := ⟨_, rfl⟩
        obtain ⟨u1, u2, u3, u4, u5, u6⟩ := Hf4.out w4 hw4
        have Hw4 := Lib.hid hw4
        rw [← hw4]
        clear hw4
        go_still_tail 10, (by kernel_rfl)
        go_wp2_with fail
        refine bodyPost_end (results_none rfl _ _ _) rfl ⟨rfl, ?_⟩
        exact Hf.out _ (by rw [Hw4.out])
      · go_simp
        refine hJ _ _ ?_
        clear hJ J
        refine wpAny_ready (rs := [3]) (by kernel_rfl) (by simp) ?_
        refine AllReady.cons rfl (fun J hJ => ?_) AllReady.nil
        go_simp
        refine hJ _ _ ?_
        clear hJ J
        refine wpAny_ready (rs := [9]) (by kernel_rfl) (by simp) ?_
        refine AllReady.cons (o := { dst := none, op := .mapUpdate 98 (.tmp 43) (.tmp 44) (.tmp 48), type := _, pos := _, after := _, guard := none }) rfl (fun J hJ => ?_) AllReady.nil
        refine step_mapUpdate_kid rfl _ _ _ rfl M n D rfl Hmw.out (by unfold maxLen; omega) (bs (lastName e.p.data.toList)) rfl Hle.out (w0.heap.size + 1) rfl ?_
        intro w3 hown3 hgr3
        obtain ⟨fz1, t1, hf4, hf⟩ := Fin.out w3 hown3 hgr3
        have Hf := Lib.hid hf
        have Hf4 := Lib.hid hf4
        clear hf hf4 hown3 hgr3
        go_simp
        refine hJ _ _ ?_
        clear hJ J
        refine wpAny_done (by kernel_rfl) ?_ _
        go_wp2_with fail
        obtain ⟨w4, hw4⟩ : ∃ y, y = w3.setCell ⟨T, 1, none⟩ (.int .i64 ((nd.length : Int) + 1)) := ⟨_, rfl⟩
        obtain ⟨u1, u2, u3, u4, u5, u6⟩ := Hf4.out w4 hw4
        have Hw4 := Lib.hid hw4
        rw [← hw4]
        clear hw4
        go_still_tail 10, (by kernel_rfl)
        go_wp2_with fail
        refine bodyPost_end (results_none rfl _ _ _) rfl ⟨rfl, ?_⟩
        exact Hf.out _ (by rw [Hw4.out])
  · go_simp
    refine hJ _ _ ?_
    clear hJ J
    refine wpAny_ready (rs := [3, 5]) (by kernel_rfl) (by simp) ?_
    refine AllReady.cons rfl (fun J hJ => ?_) (AllReady.cons rfl (fun J hJ => ?_) AllReady.nil)
    · go_simp
      refine hJ _ _ ?_
      clear hJ J
      refine wpAny_ready (rs := [5]) (by kernel_rfl) (by simp) ?_
      refine AllReady.cons rfl (fun J hJ => ?_) AllReady.nil
      refine step_load_row rfl _ _ rfl w.heap.size rfl 38 #[.string e.p, .int .i64 e.k, .int .i64 e.m, .string e.d, .string e.l] (0, 0) _ Hbx1.out Tryz.underlying38 rfl (by kernel_rfl) ?_
      refine hJ _ _ ?_
      clear hJ J
      refine wpAny_take (i := 7) (v := .agg #[.string e.p, .int .i64 e.k, .int .i64 e.m, .string e.d, .string e.l, .map (some w0.heap.size)]) rfl (by kernel_rfl) (by kernel_rfl) (by kernel_rfl) (fun _ _ _ h => h) (Or.inl ⟨by rfl, fun w => by go_simp⟩) ?_
      refine wpAny_ready (rs := [8]) (by kernel_rfl) (by simp) ?_
      refine AllReady.cons rfl (fun J hJ => ?_) AllReady.nil
      go_simp
      refine hJ _ _ ?_
      clear hJ J
      refine wpAny_ready (rs := [9]) (by kernel_rfl) (by simp) ?_
      refine AllReady.cons (o := { dst := none, op := .mapUpdate 98 (.tmp 43) (.tmp 44) (.tmp 48), type := _, pos := _, after := _, guard := none }) rfl (fun J hJ => ?_) AllReady.nil
      refine step_mapUpdate_kid rfl _ _ _ rfl M n D rfl Hmw.out (by unfold maxLen; omega) (bs (lastName e.p.data.toList)) rfl Hle.out (w0.heap.size + 1) rfl ?_
      intro w3 hown3 hgr3
      obtain ⟨fz1, t1, hf4, hf⟩ := Fin.out w3 hown3 hgr3
      have Hf := Lib.hid hf
      have Hf4 := Lib.hid hf4
      clear hf hf4 hown3 hgr3
      go_simp
      refine hJ _ _ ?_
      clear hJ J
      refine wpAny_done (by kernel_rfl) ?_ _
      go_wp2_with fail
      obtain ⟨w4, hw4⟩ : ∃ y, y = w3.setCell ⟨T, 1, none⟩ (.int .i64 ((nd.length : Int) + 1)) := ⟨_, rfl⟩
      obtain ⟨u1, u2, u3, u4, u5, u6⟩ := Hf4.out w4 hw4
      have Hw4 := Lib.hid hw4
      rw [← hw4]
      clear hw4
      go_still_tail 10, (by kernel_rfl)
      go_wp2_with fail
      refine bodyPost_end (results_none rfl _ _ _) rfl ⟨rfl, ?_⟩
      exact Hf.out _ (by rw [Hw4.out])
    · refine step_load_row rfl _ _ rfl w.heap.size rfl 38 #[.string e.p, .int .i64 e.k, .int .i64 e.m, .string e.d, .string e.l] (0, 0) _ Hbx1.out Tryz.underlying38 rfl (by kernel_rfl) ?_
      refine hJ _ _ ?_
      clear hJ J
      refine wpAny_take (i := 7) (v := .agg #[.string e.p, .int .i64 e.k, .int .i64 e.m, .string e.d, .string e.l, .map (some w0.heap.size)]) rfl (by kernel_rfl) (by kernel_rfl) (by kernel_rfl) (fun _ _ _ h => h) (Or.inl ⟨by rfl, fun w => by go_simp⟩) ?_
      refine wpAny_ready (rs := [3, 8]) (by kernel_rfl) (by simp) ?_
      refine AllReady.cons rfl (fun J hJ => ?_) (AllReady.cons rfl (fun J hJ => ?_) AllReady.nil)
      · go_simp
        refine hJ _ _ ?_
        clear hJ J
        refine wpAny_ready (rs := [8]) (by kernel_rfl) (by simp) ?_
        refine AllReady.cons rfl (fun J hJ => ?_) AllReady.nil
        go_simp
        refine hJ _ _ ?_
        clear hJ J
        refine wpAny_ready (rs := [9]) (by kernel_rfl) (by simp) ?_
        refine AllReady.cons (o := { dst := none, op := .mapUpdate 98 (.tmp 43) (.tmp 44) (.tmp 48), type := _, pos := _, after := _, guard := none }) rfl (fun J hJ => ?_) AllReady.nil
        refine step_mapUpdate_kid rfl _ _ _ rfl M n D rfl Hmw.out (by unfold maxLen; omega) (bs (lastName e.p.data.toList)) rfl Hle.out (w0.heap.size + 1) rfl ?_
        intro w3 hown3 hgr3
        obtain ⟨fz1, t1, hf4, hf⟩ := Fin.out w3 hown3 hgr3
        have Hf := Lib.hid hf
        have Hf4 := Lib.hid hf4
        clear hf hf4 hown3 hgr3
        go_simp
        refine hJ _ _ ?_
        clear hJ J
        refine wpAny_done (by kernel_rfl) ?_ _
        go_wp2_with fail
        obtain ⟨w4, hw4⟩ : ∃ y, y = w3.setCell ⟨T, 1, none⟩ (.int .i64 ((nd.length : Int) + 1)) := ⟨_, rfl⟩
        obtain ⟨u1, u2, u3, u4, u5, u6⟩ := Hf4.out w4 hw4
        have Hw4 := Lib.hid hw4
        rw [← hw4]
        clear hw4
        go_still_tail 10, (by kernel_rfl)
        go_wp2_with fail
        refine bodyPost_end (results_none rfl _ _ _) rfl ⟨rfl, ?_⟩
        exact Hf.out _ (by rw [Hw4.out])
      · go_simp
        refine hJ _ _ ?_
        clear hJ J
        refine wpAny_ready (rs := [3]) (by kernel_rfl) (by simp) ?_
        refine AllReady.cons rfl (fun J hJ => ?_) AllReady.nil
        go_simp
        refine hJ _ _ ?_
        clear hJ J
        refine wpAny_ready (rs := [9]) (by kernel_rfl) (by simp) ?_
        refine AllReady.cons (o := { dst := none, op := .mapUpdate 98 (.tmp 43) (.tmp 44) (.tmp 48), type := _, pos := _, after := _, guard := none }) rfl (fun J hJ => ?_) AllReady.nil
        refine step_mapUpdate_kid rfl _ _ _ rfl M n D rfl Hmw.out (by unfold maxLen; omega) (bs (lastName e.p.data.toList)) rfl Hle.out (w0.heap.size + 1) rfl ?_
        intro w3 hown3 hgr3
        obtain ⟨fz1, t1, hf4, hf⟩ := Fin.out w3 hown3 hgr3
        have Hf := Lib.hid hf
        have Hf4 := Lib.hid hf4
        clear hf hf4 hown3 hgr3
        go_simp
        refine hJ _ _ ?_
        clear hJ J
        refine wpAny_done (by kernel_rfl) ?_ _
        go_wp2_with fail
        obtain ⟨w4, hw4⟩ : ∃ y, y = w3.setCell ⟨T, 1, none⟩ (.int .i64 ((nd.length : Int) + 1)) := ⟨_, rfl⟩
        obtain ⟨u1, u2, u3, u4, u5, u6⟩ := Hf4.out w4 hw4
        have Hw4 := Lib.hid hw4
        rw [← hw4]
        clear hw4
        go_still_tail 10, (by kernel_rfl)
        go_wp2_with fail
        refine bodyPost_end (results_none rfl _ _ _) rfl ⟨rfl, ?_⟩
        exact Hf.out _ (by rw [Hw4.out])
end Go.Proofs.YtdkodedocklmdaaGreatDoor
