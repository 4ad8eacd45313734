/- The contract of the tree's Take: what is gone through, what is counted. -/
import Derived.Test.YtdkodedocklmdaaGreatTGone
import Derived.Test.YtdkodedocklmdaaGreatTSets
set_option linter.unusedSimpArgs false
set_option linter.unusedVariables false
namespace Go.Proofs.YtdkodedocklmdaaGreat
open Go.RowKit Go.Maps Go.Shelf
open Go.Lib hiding intOf size_eq
/-- as much of a tree as find reads -/
structure Root0 (w : World) (T rt rm : Nat) (nd : List Nd) : Prop where
  wf : Wf nd
  c0 : w.cell? ⟨T, 0, none⟩ = some (.pointer (some ⟨rt, 0, none⟩))
  nodes : NodesAt w rt rm nd
theorem Root0.spot {w : World} {T rt rm : Nat} {nd : List Nd} (h : Root0 w T rt rm nd) {o : Option Nd} (ho : SpotIn nd o) : w.heap[spotB rt o]? = some (nodeObj (spotE o) (spotM rm o)) ∧ KidsAt w (spotM rm o) nd (spotQ o) := h.nodes.spot ho
theorem Root0.same' {w w' : World} {T rt rm : Nat} {nd : List Nd} (h : Root0 w T rt rm nd) (hs : Same w w') : Root0 w' T rt rm nd := by
  obtain ⟨n, rfl⟩ := hs
  exact ⟨h.wf, h.c0, h.nodes.same fun _ _ => rfl⟩
set_option maxRecDepth 100000 in
set_option maxHeartbeats 2000000 in
theorem find_raw {T rt rm : Nat} {nd : List Nd} (p : ByteArray) (w : World) (h : Root0 w T rt rm nd) (hp : p.size < 4611686018427387904) :
    Calls Tryz.prog 40 #[.pointer (some ⟨T, 0, none⟩), .string p] w fun e w' => e = .returned (spotP rt (findO nd p.data.toList)) ∧ Same w w' := by
  have c0 := h.c0
  have hw := h.wf
  have HT := Lib.hid h
  have HW := Lib.hid hw
  have Hp := Lib.hid hp
  clear hw h hp
  go_enter Tryz.func40, Tryz.ntmps40
  go_wp2
  go_loopw [5, 1, 6, 7, 8] (fun av pv _ _ _ wr => ∃ (o : Option (Option Nd)) (q : ByteArray), av = spotP rt o ∧ pv = .string q ∧ q.size ≤ p.size ∧ Same w wr ∧ SeekW nd p.data.toList o q.data.toList) (fun _ pv _ _ _ _ => textSize pv)
  case atStart => exact ⟨some none, p, rfl, rfl, Nat.le_refl _, Same.refl _, .root⟩
  case round =>
    obtain ⟨o, q, rfl, rfl, hq, hsm, hsk⟩ := hrel
    have Hsm := Lib.hid hsm
    have Hsk := Lib.hid hsk
    clear hsm hsk
    by_cases hq0 : q.data.toList = []
    · have e0 := emptyB_t hq0
      have hres : findO nd p.data.toList = o := SeekW.nil_is HW.out (by have := Hsk.out; rw [hq0] at this; exact this)
      have Hres := Lib.hid hres
      clear hres hq0
      obtain ⟨v, hv⟩ : ∃ v, v = spotP rt o := ⟨_, rfl⟩
      rw [← hv]
      have Hv := Lib.hid hv
      clear hv
      go_wp2
      refine bodyPost_ret_by (v := v) (results_tmp (t := 4) rfl _ _ _) rfl ⟨by rw [Hres.out, ← Hv.out], Hsm.out⟩
    · have e0 := emptyB_f hq0
      have hsh : (cutP q.data.toList).2.1.length < q.data.toList.length := by
        by_cases hm : (cutP q.data.toList).2.2 = true
        · exact cutP_shorter _ hm
        · rw [cutP_rest (by simpa using hm)]
          exact List.length_pos_iff.2 hq0
      have hle := cutP_le q.data.toList
      rw [← Lib.size_eq] at hsh hle
      cases o with
      | none =>
        have Hres := Lib.hid Hsk.out.none_is
        clear hq0
        rw [show spotP rt none = .pointer none from rfl]
        go_wp2
        go_ret
        exact ⟨by rw [Hres.out]; rfl, Hsm.out⟩
      | some o =>
        have hcut := fun W => cut_any q W (by have := Hp.out; omega)
        obtain ⟨hst1, hst2⟩ := Hsk.out.step HW.out hq0
        have hin := Hsk.out.there
        have hfacts : ∀ W, Same wr W → W.cell? ⟨spotB rt o, 5, none⟩ = some (.map (some (spotM rm o))) ∧ KidsAt W (spotM rm o) nd (spotQ o) := fun W hW => by
          have h2 := (HT.out.same' (same_same Hsm.out hW)).spot hin
          exact ⟨(node_cells h2.1).2.2.2.2.2, h2.2⟩
        rw [spotP_some]
        generalize hc : cutP q.data.toList = c at *
        obtain ⟨c1, c2, m⟩ := c
        simp only at hcut hst1 hst2 hsh hle
        generalize spotB rt o = B at *
        generalize spotM rm o = M at *
        generalize spotQ o = Q at *
        have Hcut := Lib.hid hcut
        have Hfacts := Lib.hid hfacts
        have Hst1 := Lib.hid hst1
        have Hst2 := Lib.hid hst2
        have Hsh := Lib.hid hsh
        have Hle := Lib.hid hle
        clear hcut hfacts hst1 hst2 hsh hle hc hq0
        by_cases hend : m = true ∧ c2 = []
        · obtain ⟨rfl, rfl⟩ := hend
          have Hres := Lib.hid (Hst1.out ⟨rfl, rfl⟩)
          have e1 : (bs ([] : List UInt8)).toList.isEmpty = true := emptyB_t rfl
          go_wp2_with (go_at_call 50; refine (Hcut.out _).mono ?_; rintro e w1 ⟨rfl, hs1⟩
                       have Hs1 := Lib.hid hs1
                       clear hs1)
          go_ret
          exact ⟨by rw [Hres.out]; rfl, same_same Hsm.out Hs1.out⟩
        · have Hnext := Lib.hid (Hst2.out hend)
          have hsz : (bs c1).size ≤ maxLen := by have := Hle.out.1; have := Hp.out; simp [maxLen]; omega
          have Hsz := Lib.hid hsz
          clear hsz
          cases m with
          | false =>
            clear hend
            go_wp2_with (first
              | (go_at_call 50; refine (Hcut.out _).mono ?_; rintro e w1 ⟨rfl, hs1⟩
                 obtain ⟨c5, hk⟩ := Hfacts.out w1 hs1
                 have Hs1 := Lib.hid hs1
                 have HK := Lib.hid hk
                 clear hs1 hk)
              | (at_lookup; refine wpList_lookup_kid rfl _ _ rfl M nd Q rfl HK.out (bs c1) rfl Hsz.out ?_; rw [bs_toList, nodP_spot rt]))
            go_roundw
            case rel => exact ⟨_, _, rfl, rfl, by have := Hle.out.2; simp; omega, same_same Hsm.out Hs1.out, by rw [bs_toList]; exact Hnext.out⟩
            case measure => have := Hsh.out; simp [textSize]; omega
          | true =>
            have e1 : (bs c2).toList.isEmpty = false := emptyB_f (by rw [bs_toList]; exact fun e => hend ⟨rfl, e⟩)
            clear hend
            go_wp2_with (first
              | (go_at_call 50; refine (Hcut.out _).mono ?_; rintro e w1 ⟨rfl, hs1⟩
                 obtain ⟨c5, hk⟩ := Hfacts.out w1 hs1
                 have Hs1 := Lib.hid hs1
                 have HK := Lib.hid hk
                 clear hs1 hk)
              | (at_lookup; refine wpList_lookup_kid rfl _ _ rfl M nd Q rfl HK.out (bs c1) rfl Hsz.out ?_; rw [bs_toList, nodP_spot rt]))
            go_roundw
            case rel => exact ⟨_, _, rfl, rfl, by have := Hle.out.2; simp; omega, same_same Hsm.out Hs1.out, by rw [bs_toList]; exact Hnext.out⟩
            case measure => have := Hsh.out; simp [textSize]; omega
/- what is taken, counted -/
def TakY (T rt rm nB tB : Nat) (nd : List Nd) (N0 b0 : Int) (base : Nat) (acc : List Ent) (F : List Nat) (W : World) : Prop :=
  NodesAt W rt rm nd ∧ (W.heap[T]? = some (.cells #[.pointer (some ⟨rt, 0, none⟩), .int .i64 N0, .int .i64 (b0 - (bytesE acc : Int))] 84 (0, 0)) ∧ Boxed W nB 3 (.int .i64 (acc.length : Int)) ∧ Boxed W tB 24 (.pointer (some ⟨T, 0, none⟩))) ∧
    (bytesE acc ≤ acc.length * 1048576 ∧ F = [T, nB]) ∧ (∀ b, NBlk rt rm nd b → b ≠ T ∧ b ≠ nB) ∧ T ≠ nB ∧ T ≠ tB ∧ nB ≠ tB
theorem Tryz.take1Enters : ∀ args w, (callFunc 62 args).run Tryz.prog w = .ok (.enter 62 args) w := enters_of Tryz.func62 (by kernel_rfl) rfl
set_option maxRecDepth 100000 in
set_option maxHeartbeats 2000000 in
theorem take1_any {T rt nB tB : Nat} {N0 b : Int} {n : Nat} (e : Ent) (w : World) (hT : w.heap[T]? = some (.cells #[.pointer (some ⟨rt, 0, none⟩), .int .i64 N0, .int .i64 b] 84 (0, 0))) (hn : Boxed w nB 3 (.int .i64 (n : Int))) (ht : Boxed w tB 24 (.pointer (some ⟨T, 0, none⟩)))
    (hnl : n < 1099511627776) (hb : -4611686018427387904 ≤ b ∧ b ≤ 4611686018427387904) (hd : e.d.size ≤ 1048576) (h1 : T ≠ nB) (h2 : T ≠ tB) (h3 : nB ≠ tB) :
    Calls Tryz.prog 62 #[.agg #[.string e.p, .int .i64 e.k, .int .i64 e.m, .string e.d, .string e.l], .pointer (some ⟨nB, 0, none⟩), .pointer (some ⟨tB, 0, none⟩)] w fun r w' => r = .returned (.bool true) ∧ But [T, nB] w w' ∧
      w'.heap[T]? = some (.cells #[.pointer (some ⟨rt, 0, none⟩), .int .i64 N0, .int .i64 (b - (e.d.size : Int))] 84 (0, 0)) ∧ Boxed w' nB 3 (.int .i64 ((n : Int) + 1)) ∧ Boxed w' tB 24 (.pointer (some ⟨T, 0, none⟩)) := by
  obtain ⟨w0, hw0⟩ : ∃ x, x = w.alloc (.cells (entC e).toArray 39) := ⟨_, rfl⟩
  have hn0 : Boxed w0 nB 3 (.int .i64 (n : Int)) := by rw [hw0]; exact hn.alloc _
  have ht0 : Boxed w0 tB 24 (.pointer (some ⟨T, 0, none⟩)) := by rw [hw0]; exact ht.alloc _
  have hT0 : w0.heap[T]? = some (.cells #[.pointer (some ⟨rt, 0, none⟩), .int .i64 N0, .int .i64 b] 84 (0, 0)) := by rw [hw0]; exact (heap_alloc_old w _ (heap_lt hT)).trans hT
  have hE0 : w0.heap[w.heap.size]? = some (.cells (entC e).toArray 39 (0, 0)) := by rw [hw0]; exact World.alloc_heap_new w _
  have hb0 : But [T, nB] w w0 := by rw [hw0]; exact (But.refl _ _).alloc _
  have hTl := heap_lt hT
  have hnlt := hn.lt
  have cn := hn0.cell
  have fn := hn0.frozen
  obtain ⟨w1, hw1⟩ : ∃ x, x = w0.setCell ⟨nB, 0, none⟩ (.int .i64 ((n : Int) + 1)) := ⟨_, rfl⟩
  have hn1 : Boxed w1 nB 3 (.int .i64 ((n : Int) + 1)) := by rw [hw1]; exact hn0.set _
  have ht1 : Boxed w1 tB 24 (.pointer (some ⟨T, 0, none⟩)) := by rw [hw1]; exact ht0.other (Ne.symm h3) _
  have hT1 : w1.heap[T]? = some (.cells #[.pointer (some ⟨rt, 0, none⟩), .int .i64 N0, .int .i64 b] 84 (0, 0)) := by rw [hw1]; exact (heap_setCell_other w0 ⟨nB, 0, none⟩ T _ h1).trans hT0
  have hE1 : w1.heap[w.heap.size]? = some (.cells (entC e).toArray 39 (0, 0)) := by rw [hw1]; exact (heap_setCell_other w0 ⟨nB, 0, none⟩ w.heap.size _ (show w.heap.size ≠ nB by omega)).trans hE0
  have hb1 : But [T, nB] w w1 := by rw [hw1]; exact hb0.setCell (p := ⟨nB, 0, none⟩) (.inl (by simp)) _
  have d1 : w1.drew.cell? ⟨tB, 0, none⟩ = some (.pointer (some ⟨T, 0, none⟩)) := ht1.cell
  have d2 : w1.drew.cell? ⟨T, 2, none⟩ = some (.int .i64 b) := by show w1.cell? _ = _; unfold World.cell?; rw [hT1]; rfl
  have d3 : w1.drew.frozen? ⟨T, 2, none⟩ = false := by show w1.frozen? _ = _; unfold World.frozen?; rw [hT1]; rfl
  have d4 : w1.drew.cell? ⟨w.heap.size, 3, none⟩ = some (.string e.d) := by show w1.cell? _ = _; unfold World.cell?; rw [hE1]; rfl
  have wr : IntKind.i64.wrap (b - (e.d.size : Int)) = b - (e.d.size : Int) := by rw [IntKind.wrap_i64]; omega
  have fin : But [T, nB] w (w1.drew.setCell ⟨T, 2, none⟩ (.int .i64 (b - (e.d.size : Int)))) ∧ (w1.drew.setCell ⟨T, 2, none⟩ (.int .i64 (b - (e.d.size : Int)))).heap[T]? = some (.cells #[.pointer (some ⟨rt, 0, none⟩), .int .i64 N0, .int .i64 (b - (e.d.size : Int))] 84 (0, 0)) ∧
      Boxed (w1.drew.setCell ⟨T, 2, none⟩ (.int .i64 (b - (e.d.size : Int)))) nB 3 (.int .i64 ((n : Int) + 1)) ∧ Boxed (w1.drew.setCell ⟨T, 2, none⟩ (.int .i64 (b - (e.d.size : Int)))) tB 24 (.pointer (some ⟨T, 0, none⟩)) := by
    refine ⟨hb1.drew.setCell (p := ⟨T, 2, none⟩) (.inl (by simp)) _, ?_, ?_, ?_⟩
    · have := heap_setCell_same w1.drew T 2 _ _ (.int .i64 (b - (e.d.size : Int))) hT1
      rw [this]
      rfl
    · exact (heap_setCell_other w1.drew ⟨T, 2, none⟩ nB _ (Ne.symm h1)).trans hn1
    · exact (heap_setCell_other w1.drew ⟨T, 2, none⟩ tB _ (Ne.symm h2)).trans ht1
  have Hw0 := Lib.hid hw0
  have Hw1 := Lib.hid hw1
  have Fin := Lib.hid fin
  clear hw0 hw1 fin hn0 ht0 hT0 hE0 hb0 hn1 ht1 hT1 hE1 hb1 hT hn ht h1 h2 h3 hTl hnlt
  go_enter Tryz.func62, Tryz.ntmps62
  go_upto_region 1 with fail
  rw [show w.alloc (.cells #[.string e.p, .int .i64 e.k, .int .i64 e.m, .string e.d, .string e.l] 39) = w0 from Hw0.out.symm]
  go_wp2_with fail
  rw [← Hw1.out]
  go_still_tail 10, (by kernel_rfl)
  go_wp2_with fail
  go_ret
  exact ⟨rfl, Fin.out⟩
theorem take_yields {rt rm : Nat} {nd : List Nd} (T nB tB : Nat) (N0 b0 : Int) (base : Nat) (hb0 : -1099511627776 ≤ b0 ∧ b0 ≤ 1099511627776) (hsm : ∀ y ∈ nd, y.e.d.size ≤ 1048576) :
    Yields 62 #[.pointer (some ⟨nB, 0, none⟩), .pointer (some ⟨tB, 0, none⟩)] rt rm nd (TakY T rt rm nB tB nd N0 b0 base) := by
  refine ⟨fun acc F y W hy hl h => ?_, fun acc F W h => h.1, fun acc F W W' h hb => ?_, fun acc F W h k hk => ?_⟩
  · obtain ⟨hN, ⟨hT, hn, ht⟩, ⟨hby, rfl⟩, hne, h1, h2, h3⟩ := h
    have hd := hsm y hy
    refine (take1_any y.e W hT hn ht hl (by omega) hd h1 h2 h3).mono ?_
    rintro r W' ⟨rfl, hbut, hT', hn', ht'⟩
    refine ⟨rfl, [T, nB], ⟨?_, ⟨?_, ?_, ht'⟩, ⟨?_, rfl⟩, hne, h1, h2, h3⟩, hbut, fun k hk => .inl hk⟩
    · exact hN.same fun b hb => hbut.block b (hN.lt hb) (by simp only [List.mem_cons, List.not_mem_nil, or_false, not_or]; exact hne b hb)
    · rw [hT', bytesE_append]
      have : b0 - (bytesE acc : Int) - (y.e.d.size : Int) = b0 - ((bytesE acc + bytesE [y.e] : Nat) : Int) := by simp [bytesE]; omega
      rw [this]
    · rw [List.length_append, List.length_singleton]
      simpa using hn'
    · rw [bytesE_append, List.length_append, List.length_singleton]
      simp only [bytesE, List.map_cons, List.map_nil, List.sum_cons, List.sum_nil] at hby ⊢
      omega
  · obtain ⟨hN, ⟨hT, hn, ht⟩, h4, hne, h1, h2, h3⟩ := h
    exact ⟨hN.same fun b hb2 => hb.block b (hN.lt hb2), ⟨(hb.block T (heap_lt hT)).trans hT, (hb.block nB hn.lt).trans hn, (hb.block tB ht.lt).trans ht⟩, h4, hne, h1, h2, h3⟩
  · obtain ⟨hN, ⟨hT, hn, ht⟩, ⟨_, rfl⟩, _⟩ := h
    simp only [List.mem_cons, List.not_mem_nil, or_false] at hk
    rcases hk with rfl | rfl
    · exact heap_lt hT
    · exact hn.lt
end Go.Proofs.YtdkodedocklmdaaGreat
