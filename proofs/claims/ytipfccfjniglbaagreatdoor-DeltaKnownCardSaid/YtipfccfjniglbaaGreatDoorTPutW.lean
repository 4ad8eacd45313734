/- The contract of the tree's Put. -/
import Derived.Test.YtipfccfjniglbaaGreatDoorTSets
import Derived.Test.YtipfccfjniglbaaGreatDoorTBuild
set_option linter.unusedSimpArgs false
set_option linter.unusedVariables false
namespace Go.Proofs.YtipfccfjniglbaaGreatDoor
open Go.RowKit Go.Maps
open Go.Lib hiding intOf
def putL (l : List Ent) (e : Ent) : List Ent := if putNo l e = 0 then laidL l e else l
theorem flopT {P : Program} {f : FuncId} {args : Array Value} {w : World} {x : Ending} (h : Calls P f args w fun e w' => e = x ∧ w = w') : Calls P f args w fun e w' => e = x ∧ w' = w :=
  h.mono fun _ _ ⟨a, b⟩ => ⟨a, b.symm⟩
/-- what Put has done -/
def PutR (T rt rm base : Nat) (nd : List Nd) (e : Ent) (w : World) (r : Ending) (w' : World) : Prop :=
  r = .returned (errV (putNo (ents nd) e)) ∧ ∃ nd', ents nd' = putL (ents nd) e ∧ TreeAt w' T rt rm base nd' ∧ Turned T rt rm nd nd' w w'
theorem PutR.err {T rt rm base : Nat} {nd : List Nd} {e : Ent} {w w' : World} {n : Nat} (h : TreeAt w T rt rm base nd) (hn : putNo (ents nd) e = n) (h0 : n ≠ 0) (hb : Below w.heap.size w w') : PutR T rt rm base nd e w (.returned (errV n)) w' := by
  refine ⟨by rw [hn], nd, ?_, h.below hb (Nat.le_refl _), .of_below hb⟩
  unfold putL
  rw [if_neg (by rw [hn]; exact h0)]
theorem PutR.ok {T rt rm base : Nat} {nd nd' : List Nd} {e : Ent} {w w' : World} (hn : putNo (ents nd) e = 0) (he : ents nd' = laidL (ents nd) e) (ht : TreeAt w' T rt rm base nd') (hu : Turned T rt rm nd nd' w w') : PutR T rt rm base nd e w (.returned (errV 0)) w' := by
  refine ⟨by rw [hn], nd', ?_, ht, hu⟩
  unfold putL
  rw [if_pos hn, he]
theorem Turned.new {T rt rm base : Nat} {nd : List Nd} {w w' : World} {y : Nd} (h : TreeAt w T rt rm base nd) (hno : ∀ x ∈ nd, x.e.path ≠ y.e.path) (hb : w.heap.size ≤ y.b) (hm : w.heap.size ≤ y.m)
    (h1 : w'.os = w.os) (h2 : w'.tape = w.tape) (h3 : w'.output = w.output) (h4 : w.heap.size ≤ w'.heap.size) (hk : ∀ k, k < w.heap.size → ¬ IsBlk T rt rm nd k → w'.heap[k]? = w.heap[k]?) : Turned T rt rm nd (laidN nd y) w w' := by
  refine ⟨h1, h2, h3, h4, hk, fun b hbb => ?_⟩
  rcases hbb with hx | hx | hx | ⟨x, hx, hx2⟩
  · exact .inl (.inl hx)
  · exact .inl (.inr (.inl hx))
  · exact .inl (.inr (.inr (.inl hx)))
  · rcases List.mem_append.1 ((laidN_new hno).mem_iff.2 hx) with hx | hx
    · exact .inl (.inr (.inr (.inr ⟨x, hx, hx2⟩)))
    · rw [List.mem_singleton.1 hx] at hx2
      refine .inr ?_
      rcases hx2 with rfl | rfl
      · exact hb
      · exact hm
theorem Turned.pre {T rt rm : Nat} {nd nd' : List Nd} {w w1 w2 : World} (hb : Below w.heap.size w w1) (h : Turned T rt rm nd nd' w1 w2) : Turned T rt rm nd nd' w w2 := (Turned.of_below hb).trans h
set_option maxRecDepth 100000 in
set_option maxHeartbeats 8000000 in
theorem put_any {T rt rm base : Nat} {nd : List Nd} (e : Ent) (w : World) (h : TreeAt w T rt rm base nd) (hp : e.p.size < 1152921504606846976) (hl : e.l.size < 1152921504606846976) (hd : e.d.size < 1152921504606846976) :
    Calls Tryz.prog 83 #[.pointer (some ⟨T, 0, none⟩), entV e] w (PutR T rt rm base nd e w) := by
  show Calls _ _ #[.pointer (some ⟨T, 0, none⟩), .agg (entC e).toArray] _ _
  obtain ⟨w0, hw0⟩ : ∃ x, x = w.alloc (.cells (entC e).toArray 52) := ⟨_, rfl⟩
  have hb0 : Below w.heap.size w w0 := by rw [hw0]; exact (Below.refl _ _).alloc (Nat.le_refl _) _
  have hs0 : w0.heap.size = w.heap.size + 1 := by rw [hw0]; simp
  have hbx : w0.heap[w.heap.size]? = some (.cells (entC e).toArray 52 (0, 0)) := by rw [hw0]; exact World.alloc_heap_new w _
  have hT0 := h.below hb0 (Nat.le_refl _)
  have hit := fun W => itself_any e W hp hl hd
  have facts : ∀ W, Below w0.heap.size w0 W → TreeAt W T rt rm base nd ∧ W.heap[w.heap.size]? = some (.cells #[.string e.p, .int .i64 e.k, .int .i64 e.m, .string e.d, .string e.l] 52 (0, 0)) ∧ W.cell? ⟨w.heap.size, 0, none⟩ = some (.string e.p) ∧ W.cell? ⟨w.heap.size, 1, none⟩ = some (.int .i64 e.k) ∧ Below w.heap.size w W := fun W hW => by
    have h1 : W.heap[w.heap.size]? = some (.cells (entC e).toArray 52 (0, 0)) := (hW.block _ (by omega)).trans hbx
    refine ⟨hT0.below hW (Nat.le_refl _), h1, ?_, ?_, hb0.trans (hW.mono (by omega))⟩ <;> (unfold World.cell?; rw [h1]; rfl)
  have Hw0 := Lib.hid hw0
  have Hit := Lib.hid hit
  have Hf := Lib.hid facts
  have H := Lib.hid h
  have Hb0 := Lib.hid hb0
  have Hs0 := Lib.hid hs0
  have HT0 := Lib.hid hT0
  have HG := Lib.hid h.good
  have fin : ∀ (n : Nat) (W : World), putNo (ents nd) e = n → n ≠ 0 → Below w0.heap.size w0 W → PutR T rt rm base nd e w (.returned (errV n)) W := fun n W hn h1 hb => PutR.err h hn h1 (hb0.trans (hb.mono (by omega)))
  have Fin := Lib.hid fin
  clear fin hb0 hs0 hbx hT0 hit facts hw0
  by_cases hi0 : itselfNo e ≠ 0
  · have hN : putNo (ents nd) e = itselfNo e := by unfold putNo; rw [if_pos hi0]
    have HN := Lib.hid hN
    have hi1 := errV_pos hi0
    generalize itselfNo e = n at *
    have Hi1 := Lib.hid hi1
    clear hN hi1 h
    go_enter Tryz.func83, Tryz.ntmps83
    go_upto_region 1 with fail
    rw [← Hw0.out]
    obtain ⟨hT, hB, _, _, _⟩ := Hf.out w0 (Below.refl _ _)
    have HB := Lib.hid hB
    clear hT hB
    go_wp2_with (first
      | (refine wpList_load_row rfl _ _ rfl w.heap.size rfl 52 _ (0, 0) _ HB.out Tryz.underlying52 rfl (by kernel_rfl) ?_)
      | (go_at_call 87; refine (Hit.out _).mono ?_; rintro r w1 ⟨rfl, hb1⟩
         rw [Hi1.out]))
    have := Fin.out _ w1 HN.out hi0 hb1
    rw [Hi1.out] at this
    go_ret
    exact this
  · have hi0 : itselfNo e = 0 := by omega
    rw [hi0] at Hit
    have Hi0 := Lib.hid hi0
    by_cases hu0 : upNo (ents nd) e.p.data.toList ≠ 0
    · have hN : putNo (ents nd) e = upNo (ents nd) e.p.data.toList := by unfold putNo; rw [if_neg (by omega)]; exact if_pos (show upNo (ents nd) e.path ≠ 0 from hu0)
      have HN := Lib.hid hN
      have hi1 := errV_pos hu0
      have hdv : dirV rt nd e.p.data.toList = .pointer none := if_neg hu0
      have Hdv := Lib.hid hdv
      have Hu0 := Lib.hid hu0
      have Hi1 := Lib.hid hi1
      clear hN hi1 h hdv hi0
      rw [show errV 0 = .nilIface from rfl] at Hit
      go_enter Tryz.func83, Tryz.ntmps83
      go_upto_region 1 with fail
      rw [← Hw0.out]
      have HB := Lib.hid (Hf.out w0 (Below.refl _ _)).2.1
      go_wp2_with (first
        | (refine wpList_load_row rfl _ _ rfl w.heap.size rfl 52 _ (0, 0) _ (HB.out) Tryz.underlying52 rfl (by kernel_rfl) ?_)
        | (go_at_call 87; refine (Hit.out _).mono ?_; rintro r w1 ⟨rfl, hb1⟩
           have hc0 : w1.cell? ⟨w.heap.size, 0, none⟩ = some (.string e.p) := (Hf.out w1 hb1).2.2.1
           have Hb1 := Lib.hid hb1
           clear hb1))
      have Hd1 := Lib.hid (dir_any e.p w1 (Hf.out w1 Hb1.out).1 (by omega))
      rw [Hdv.out, Hi1.out] at Hd1
      generalize upNo (ents nd) e.p.data.toList = n at *
      go_wp2_with (first
        | (go_at_call 88; refine Hd1.out.mono ?_; rintro r w2 ⟨rfl, hs2⟩))
      have := Fin.out _ w2 HN.out Hu0.out (by obtain ⟨q, rfl⟩ := hs2; exact below_drewN Hb1.out q)
      rw [Hi1.out] at this
      go_ret
      exact this
    · have hu0 : upNo (ents nd) e.p.data.toList = 0 := by omega
      obtain ⟨o, ho⟩ := up_find h.wf hu0
      have hdv : dirV rt nd e.p.data.toList = .pointer (some ⟨spotB rt o, 0, none⟩) := by unfold dirV; rw [if_pos hu0, ho, spotP_some]
      have hrest := putNo_rest hi0 (show upNo (ents nd) e.path = 0 from hu0)
      have hla := fun W => flopT (last_any e.p W (by omega))
      have hle : (bs (lastName e.p.data.toList)).size ≤ maxLen := by
        have : (lastName e.p.data.toList).length ≤ e.p.data.toList.length := by unfold lastName; simp
        rw [← Lib.size_eq] at this
        rw [bs_size]; unfold maxLen; omega
      obtain ⟨hin, hq⟩ := findO_in ho
      have hen := checkNo_neat (itselfNo_check hi0)
      have hkid : kidN nd (spotQ o) (bs (lastName e.p.data.toList)).data.toList = lookN nd e.path := by
        rw [hq]
        show kidN nd (parent e.path) (lastName e.path) = _
        rw [kid_look h.wf.ok (last_no47 _), ← hen.is_join]
      have hspot : ∀ W, TreeAt W T rt rm base nd → W.cell? ⟨spotB rt o, 5, none⟩ = some (.map (some (spotM rm o))) ∧ KidsAt W (spotM rm o) nd (spotQ o) := fun W hW => ⟨(node_cells (hW.spot hin).1).2.2.2.2.2, (hW.spot hin).2⟩
      have hlk := lookE_N (nd := nd) (q := e.path)
      have Ho := Lib.hid ho
      have Hdv := Lib.hid hdv
      have Hu0 := Lib.hid hu0
      have Hla := Lib.hid hla
      have Hle := Lib.hid hle
      have Hkid := Lib.hid hkid
      have Hspot := Lib.hid hspot
      have Hrest := Lib.hid hrest
      have Hlk := Lib.hid hlk
      rw [show errV 0 = .nilIface from rfl] at Hit
      clear h hdv hu0 ho hla hle hkid hspot hrest hlk hin hq hen hi0
      cases hlo : lookN nd e.path with
      | none =>
        have hlk := Hlk.out
        rw [hlo] at hlk
        have hrest := Hrest.out
        rw [hlk] at hrest
        have Hlo := Lib.hid hlo
        have HlE := Lib.hid hlk
        clear hlo hlk
        go_enter Tryz.func83, Tryz.ntmps83
        go_upto_region 1 with fail
        rw [← Hw0.out]
        have HB := Lib.hid (Hf.out w0 (Below.refl _ _)).2.1
        go_wp2_with (first
          | (refine wpList_load_row rfl _ _ rfl w.heap.size rfl 52 _ (0, 0) _ (HB.out) Tryz.underlying52 rfl (by kernel_rfl) ?_)
          | (go_at_call 87; refine (Hit.out _).mono ?_; rintro r w1 ⟨rfl, hb1⟩
             have hc0 : w1.cell? ⟨w.heap.size, 0, none⟩ = some (.string e.p) := (Hf.out w1 hb1).2.2.1
             have Hb1 := Lib.hid hb1
             clear hb1))
        have Hd1 := Lib.hid (dir_any e.p w1 (Hf.out w1 Hb1.out).1 (by omega))
        rw [Hdv.out, Hu0.out, show errV 0 = .nilIface from rfl] at Hd1
        generalize hU : spotB rt o = U at *
        generalize hM : spotM rm o = M at *
        have HU := Lib.hid hU
        clear hU hM
        go_wp2_with (first
          | (go_at_call 88; refine Hd1.out.mono ?_; rintro r w2 ⟨rfl, hs2⟩
             have Hb2 := Lib.hid (show Below w0.heap.size w0 w2 by obtain ⟨q, rfl⟩ := hs2; exact below_drewN Hb1.out q)
             clear hs2))
        have hd2 : Below w0.heap.size w0 w2.drew := below_drew Hb2.out
        have c5 : w2.drew.cell? ⟨U, 5, none⟩ = some (.map (some M)) := (Hspot.out _ (Hf.out _ hd2).1).1
        have cp : w2.drew.cell? ⟨w.heap.size, 0, none⟩ = some (.string e.p) := (Hf.out _ hd2).2.2.1
        have Hd2 := Lib.hid hd2
        clear hd2
        go_still_tail 7, (by kernel_rfl)
        still_call (Hla.out _)
        refine wpStill_nil ?_
        change wpList _ _ _ _ _ w2.drew
        obtain ⟨w3, hw3⟩ : ∃ x, x = w2.drew := ⟨_, rfl⟩
        rw [← hw3] at c5 cp Hd2 ⊢
        clear hw3 c5 cp
        have Hka := Lib.hid (Hspot.out _ (Hf.out _ Hd2.out).1).2
        have hkk := Hkid.out
        rw [Hlo.out] at hkk
        have Hkk := Lib.hid hkk
        clear hkk
        go_wp2_with (first
          | (at_lookup; refine wpList_lookup_kid rfl _ _ rfl M nd (spotQ o) rfl Hka.out _ rfl Hle.out ?_; rw [Hkk.out]; change wpList _ _ _ _ (Act.put _ _ (.pointer none)) _))
        go_quiet (fail)
        have Hd3 := Lib.hid (below_drewN Hd2.out nq)
        obtain ⟨w4, hw4⟩ : ∃ x, x = w3.drewN nq := ⟨_, rfl⟩
        rw [← hw4] at Hd3 ⊢
        have HR4 := Lib.hid (Hf.out w4 Hd3.out).2.1
        have HT4 := Lib.hid (Hf.out w4 Hd3.out).1
        clear hw4
        have hfull := full_any e w4 HT4.out (by omega)
        by_cases h5 : 4096 ≤ (ents nd).length ∨ 16777216 < bytesE (ents nd) + e.d.size
        · have hN : putNo (ents nd) e = 5 := hrest.trans (if_pos h5)
          rw [if_pos h5, show errV 5 = .iface 75 (.int .i64 5) from rfl] at hfull
          have Hfull := Lib.hid hfull
          have HN := Lib.hid hN
          clear hfull hN h5 hrest
          go_wp2_with (first
          | (refine wpList_load_row rfl _ _ rfl w.heap.size rfl 52 _ (0, 0) _ (HR4.out) Tryz.underlying52 rfl (by kernel_rfl) ?_)
          | (go_at_call 89; refine Hfull.out.mono ?_; rintro r w5 ⟨rfl, hb5⟩
             have Hb5 := Lib.hid (Hd3.out.trans (hb5.mono (by have := Hd3.out.size; omega)))
             have HR5 := Lib.hid (Hf.out w5 Hb5.out).2.1
             have HT5 := Lib.hid (Hf.out w5 Hb5.out).1
             clear hb5 Hfull))
          have := Fin.out _ w5 HN.out (by decide) Hb5.out
          go_ret
          exact this
        · have hN : putNo (ents nd) e = 0 := hrest.trans (if_neg h5)
          rw [if_neg h5, show errV 0 = .nilIface from rfl] at hfull
          have Hfull := Lib.hid hfull
          have HN := Lib.hid hN
          clear hfull hN h5 hrest
          go_wp2_with (first
          | (refine wpList_load_row rfl _ _ rfl w.heap.size rfl 52 _ (0, 0) _ (HR4.out) Tryz.underlying52 rfl (by kernel_rfl) ?_)
          | (go_at_call 89; refine Hfull.out.mono ?_; rintro r w5 ⟨rfl, hb5⟩
             have Hb5 := Lib.hid (Hd3.out.trans (hb5.mono (by have := Hd3.out.size; omega)))
             have HR5 := Lib.hid (Hf.out w5 Hb5.out).2.1
             have HT5 := Lib.hid (Hf.out w5 Hb5.out).1
             clear hb5 Hfull)
          | (refine wpList_load_row rfl _ _ rfl w.heap.size rfl 52 _ (0, 0) _ (HR5.out) Tryz.underlying52 rfl (by kernel_rfl) ?_)
          | (go_at_call 90
             have hset := set_any e o w5 HT5.out (HG.out.laid HN.out) HlE.out Ho.out (by omega) (by omega)
             rw [HU.out] at hset
             refine hset.mono ?_
             rintro r w6 ⟨rfl, y, hye, ⟨hyb, hym⟩, ht6, f1, f2, f3, f4, f5⟩
             have hbe := (Hf.out w5 Hb5.out).2.2.2.2
             have hR : PutR T rt rm base nd e w (.returned (errV 0)) w6 := (PutR.ok (nd' := laidN nd y) HN.out (by rw [ents_laid, hye]) ht6
               (Turned.pre hbe (Turned.new HT5.out (fun x hx hxp => lookN_none Hlo.out x hx (by rw [hxp, hye])) hyb hym f1 f2 f3 f4 f5)))
             have HR := Lib.hid hR
             clear hR hset ht6 f1 f2 f3 f4 f5 hyb hym hye hbe))
          have := HR.out
          go_ret
          exact this
      | some y =>
        have hlk := Hlk.out
        rw [hlo, show Option.map (fun x : Nd => x.e) (some y) = some y.e from rfl] at hlk
        have hrest := Hrest.out
        rw [hlk] at hrest
        replace hrest : putNo (ents nd) e = if ¬ (y.e.k = 1 ↔ e.k = 1) then 14 else if 16777216 + y.e.d.size < bytesE (ents nd) + e.d.size then 5 else 0 := hrest
        obtain ⟨hy, hyp⟩ := lookN_some hlo
        have hk : ∀ W, TreeAt W T rt rm base nd → W.cell? ⟨y.b, 1, none⟩ = some (.int .i64 y.e.k) := fun W hW => (node_cells (hW.node y hy)).2.1
        have Hlo := Lib.hid hlo
        have Hy := Lib.hid hy
        have Hyp := Lib.hid hyp
        have HlE := Lib.hid hlk
        have Hk := Lib.hid hk
        clear hlo hlk hy hyp hk
        by_cases hkk0 : (y.e.k = 1 ↔ e.k = 1)
        · rw [if_neg (fun x => x hkk0)] at hrest
          have b1 : (!((y.e.k == 1) == (e.k == 1))) = false := by
            by_cases h1 : e.k = 1
            · rw [h1, hkk0.2 h1]; rfl
            · have h2 : y.e.k ≠ 1 := fun x => h1 (hkk0.1 x)
              rw [show (y.e.k == 1) = false by simpa using h2, show (e.k == 1) = false by simpa using h1]; rfl
          clear hkk0
          go_enter Tryz.func83, Tryz.ntmps83
          go_upto_region 1 with fail
          rw [← Hw0.out]
          have HB := Lib.hid (Hf.out w0 (Below.refl _ _)).2.1
          go_wp2_with (first
            | (refine wpList_load_row rfl _ _ rfl w.heap.size rfl 52 _ (0, 0) _ (HB.out) Tryz.underlying52 rfl (by kernel_rfl) ?_)
            | (go_at_call 87; refine (Hit.out _).mono ?_; rintro r w1 ⟨rfl, hb1⟩
               have hc0 : w1.cell? ⟨w.heap.size, 0, none⟩ = some (.string e.p) := (Hf.out w1 hb1).2.2.1
               have Hb1 := Lib.hid hb1
               clear hb1))
          have Hd1 := Lib.hid (dir_any e.p w1 (Hf.out w1 Hb1.out).1 (by omega))
          rw [Hdv.out, Hu0.out, show errV 0 = .nilIface from rfl] at Hd1
          generalize hU : spotB rt o = U at *
          generalize hM : spotM rm o = M at *
          have HU := Lib.hid hU
          clear hU hM
          go_wp2_with (first
            | (go_at_call 88; refine Hd1.out.mono ?_; rintro r w2 ⟨rfl, hs2⟩
               have Hb2 := Lib.hid (show Below w0.heap.size w0 w2 by obtain ⟨q, rfl⟩ := hs2; exact below_drewN Hb1.out q)
               clear hs2))
          have hd2 : Below w0.heap.size w0 w2.drew := below_drew Hb2.out
          have c5 : w2.drew.cell? ⟨U, 5, none⟩ = some (.map (some M)) := (Hspot.out _ (Hf.out _ hd2).1).1
          have cp : w2.drew.cell? ⟨w.heap.size, 0, none⟩ = some (.string e.p) := (Hf.out _ hd2).2.2.1
          have Hd2 := Lib.hid hd2
          clear hd2
          go_still_tail 7, (by kernel_rfl)
          still_call (Hla.out _)
          refine wpStill_nil ?_
          change wpList _ _ _ _ _ w2.drew
          obtain ⟨w3, hw3⟩ : ∃ x, x = w2.drew := ⟨_, rfl⟩
          rw [← hw3] at c5 cp Hd2 ⊢
          clear hw3 c5 cp
          have Hka := Lib.hid (Hspot.out _ (Hf.out _ Hd2.out).1).2
          have hkk := Hkid.out
          rw [Hlo.out] at hkk
          have Hkk := Lib.hid hkk
          clear hkk
          have hdd := below_drew Hd2.out
          have k1 : w3.drew.cell? ⟨y.b, 1, none⟩ = some (.int .i64 y.e.k) := Hk.out _ (Hf.out _ hdd).1
          have k2 : w3.drew.cell? ⟨w.heap.size, 1, none⟩ = some (.int .i64 e.k) := (Hf.out _ hdd).2.2.2.1
          have k3 : w3.cell? ⟨y.b, 1, none⟩ = some (.int .i64 y.e.k) := k1
          have k4 : w3.cell? ⟨w.heap.size, 1, none⟩ = some (.int .i64 e.k) := k2
          clear hdd
          go_wp2_with (first
            | (at_lookup; refine wpList_lookup_kid rfl _ _ rfl M nd (spotQ o) rfl Hka.out _ rfl Hle.out ?_; rw [Hkk.out]; change wpList _ _ _ _ (Act.put _ _ (.pointer (some ⟨y.b, 0, none⟩))) _))
          go_quiet (fail)
          have Hd3 := Lib.hid (below_drewN Hd2.out nq)
          obtain ⟨w4, hw4⟩ : ∃ x, x = w3.drewN nq := ⟨_, rfl⟩
          rw [← hw4] at Hd3 ⊢
          have HR4 := Lib.hid (Hf.out w4 Hd3.out).2.1
          have HT4 := Lib.hid (Hf.out w4 Hd3.out).1
          clear hw4
          have hfull := full_old_any e y w4 HT4.out Hy.out (by omega)
          by_cases h5 : 16777216 + y.e.d.size < bytesE (ents nd) + e.d.size
          · have hN : putNo (ents nd) e = 5 := hrest.trans (if_pos h5)
            rw [if_pos h5, show errV 5 = .iface 75 (.int .i64 5) from rfl] at hfull
            have Hfull := Lib.hid hfull
            have HN := Lib.hid hN
            clear hfull hN h5 hrest
            go_wp2_with (first
          | (refine wpList_load_row rfl _ _ rfl w.heap.size rfl 52 _ (0, 0) _ (HR4.out) Tryz.underlying52 rfl (by kernel_rfl) ?_)
          | (go_at_call 89; refine Hfull.out.mono ?_; rintro r w5 ⟨rfl, hb5⟩
             have Hb5 := Lib.hid (Hd3.out.trans (hb5.mono (by have := Hd3.out.size; omega)))
             have HR5 := Lib.hid (Hf.out w5 Hb5.out).2.1
             have HT5 := Lib.hid (Hf.out w5 Hb5.out).1
             clear hb5 Hfull))
            have := Fin.out _ w5 HN.out (by decide) Hb5.out
            go_ret
            exact this
          · have hN : putNo (ents nd) e = 0 := hrest.trans (if_neg h5)
            rw [if_neg h5, show errV 0 = .nilIface from rfl] at hfull
            have Hfull := Lib.hid hfull
            have HN := Lib.hid hN
            clear hfull hN h5 hrest
            go_wp2_with (first
          | (refine wpList_load_row rfl _ _ rfl w.heap.size rfl 52 _ (0, 0) _ (HR4.out) Tryz.underlying52 rfl (by kernel_rfl) ?_)
          | (go_at_call 89; refine Hfull.out.mono ?_; rintro r w5 ⟨rfl, hb5⟩
             have Hb5 := Lib.hid (Hd3.out.trans (hb5.mono (by have := Hd3.out.size; omega)))
             have HR5 := Lib.hid (Hf.out w5 Hb5.out).2.1
             have HT5 := Lib.hid (Hf.out w5 Hb5.out).1
             clear hb5 Hfull)
          | (refine wpList_load_row rfl _ _ rfl w.heap.size rfl 52 _ (0, 0) _ (HR5.out) Tryz.underlying52 rfl (by kernel_rfl) ?_)
          | (go_at_call 90
             have hset := set_old_any e o y w5 HT5.out (HG.out.laid HN.out) Hlo.out Ho.out (by omega) (by omega)
             rw [HU.out] at hset
             refine hset.mono ?_
             rintro r w6 ⟨rfl, ht6, f6⟩
             have hR : PutR T rt rm base nd e w (.returned (errV 0)) w6 := (PutR.ok HN.out (by rw [ents_laid]) ht6 (Turned.pre (Hf.out w5 Hb5.out).2.2.2.2 f6))
             have HR := Lib.hid hR
             clear hR hset ht6 f6))
            have := HR.out
            go_ret
            exact this
        · rw [if_pos hkk0] at hrest
          have b1 : (!((y.e.k == 1) == (e.k == 1))) = true := by
            by_cases h1 : e.k = 1
            · have h2 : y.e.k ≠ 1 := fun x => hkk0 ⟨fun _ => h1, fun _ => x⟩
              rw [show (y.e.k == 1) = false by simpa using h2, show (e.k == 1) = true by simpa using h1]; rfl
            · have h2 : y.e.k = 1 := Classical.byContradiction fun x => hkk0 ⟨fun z => absurd z x, fun z => absurd z h1⟩
              rw [show (y.e.k == 1) = true by simpa using h2, show (e.k == 1) = false by simpa using h1]; rfl
          clear hkk0
          have HN := Lib.hid hrest
          clear hrest
          go_enter Tryz.func83, Tryz.ntmps83
          go_upto_region 1 with fail
          rw [← Hw0.out]
          have HB := Lib.hid (Hf.out w0 (Below.refl _ _)).2.1
          go_wp2_with (first
            | (refine wpList_load_row rfl _ _ rfl w.heap.size rfl 52 _ (0, 0) _ (HB.out) Tryz.underlying52 rfl (by kernel_rfl) ?_)
            | (go_at_call 87; refine (Hit.out _).mono ?_; rintro r w1 ⟨rfl, hb1⟩
               have hc0 : w1.cell? ⟨w.heap.size, 0, none⟩ = some (.string e.p) := (Hf.out w1 hb1).2.2.1
               have Hb1 := Lib.hid hb1
               clear hb1))
          have Hd1 := Lib.hid (dir_any e.p w1 (Hf.out w1 Hb1.out).1 (by omega))
          rw [Hdv.out, Hu0.out, show errV 0 = .nilIface from rfl] at Hd1
          generalize hU : spotB rt o = U at *
          generalize hM : spotM rm o = M at *
          have HU := Lib.hid hU
          clear hU hM
          go_wp2_with (first
            | (go_at_call 88; refine Hd1.out.mono ?_; rintro r w2 ⟨rfl, hs2⟩
               have Hb2 := Lib.hid (show Below w0.heap.size w0 w2 by obtain ⟨q, rfl⟩ := hs2; exact below_drewN Hb1.out q)
               clear hs2))
          have hd2 : Below w0.heap.size w0 w2.drew := below_drew Hb2.out
          have c5 : w2.drew.cell? ⟨U, 5, none⟩ = some (.map (some M)) := (Hspot.out _ (Hf.out _ hd2).1).1
          have cp : w2.drew.cell? ⟨w.heap.size, 0, none⟩ = some (.string e.p) := (Hf.out _ hd2).2.2.1
          have Hd2 := Lib.hid hd2
          clear hd2
          go_still_tail 7, (by kernel_rfl)
          still_call (Hla.out _)
          refine wpStill_nil ?_
          change wpList _ _ _ _ _ w2.drew
          obtain ⟨w3, hw3⟩ : ∃ x, x = w2.drew := ⟨_, rfl⟩
          rw [← hw3] at c5 cp Hd2 ⊢
          clear hw3 c5 cp
          have Hka := Lib.hid (Hspot.out _ (Hf.out _ Hd2.out).1).2
          have hkk := Hkid.out
          rw [Hlo.out] at hkk
          have Hkk := Lib.hid hkk
          clear hkk
          have hdd := below_drew Hd2.out
          have k1 : w3.drew.cell? ⟨y.b, 1, none⟩ = some (.int .i64 y.e.k) := Hk.out _ (Hf.out _ hdd).1
          have k2 : w3.drew.cell? ⟨w.heap.size, 1, none⟩ = some (.int .i64 e.k) := (Hf.out _ hdd).2.2.2.1
          have k3 : w3.cell? ⟨y.b, 1, none⟩ = some (.int .i64 y.e.k) := k1
          have k4 : w3.cell? ⟨w.heap.size, 1, none⟩ = some (.int .i64 e.k) := k2
          clear hdd
          go_wp2_with (first
            | (at_lookup; refine wpList_lookup_kid rfl _ _ rfl M nd (spotQ o) rfl Hka.out _ rfl Hle.out ?_; rw [Hkk.out]; change wpList _ _ _ _ (Act.put _ _ (.pointer (some ⟨y.b, 0, none⟩))) _))
          go_quiet (fail)
          have Hd3 := Lib.hid (below_drewN Hd2.out nq)
          obtain ⟨w4, hw4⟩ : ∃ x, x = w3.drewN nq := ⟨_, rfl⟩
          rw [← hw4] at Hd3 ⊢
          have HR4 := Lib.hid (Hf.out w4 Hd3.out).2.1
          have HT4 := Lib.hid (Hf.out w4 Hd3.out).1
          clear hw4
          go_wp2
          have := Fin.out _ w4 HN.out (by decide) Hd3.out
          go_ret
          exact this
end Go.Proofs.YtipfccfjniglbaaGreatDoor
