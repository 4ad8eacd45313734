/- The contracts of tree.New, find, dir. -/
import Derived.Test.YtdkodedocklmdaaGreatDoorTLoad
import Derived.Test.YtdkodedocklmdaaGreatDoorIter
import Derived.Maps.OwnOps
set_option linter.unusedSimpArgs false
set_option linter.unusedVariables false
namespace Go.Proofs.YtdkodedocklmdaaGreatDoor
open Go.RowKit Go.Maps
open Go.Lib hiding intOf
theorem TreeAt.same' {w w' : World} {T rt rm base : Nat} {nd : List Nd} (h : TreeAt w T rt rm base nd) (hs : Same w w') : TreeAt w' T rt rm base nd := by
  obtain ⟨n, rfl⟩ := hs
  exact h.drewN n
theorem same_same {w w1 w2 : World} (h : Same w w1) (k : Same w1 w2) : Same w w2 := by
  obtain ⟨n, rfl⟩ := h
  obtain ⟨m, rfl⟩ := k
  exact ⟨n + m, by rw [World.drewN_drewN]⟩
theorem tree_cells {w : World} {T rt rm base : Nat} {nd : List Nd} (h : TreeAt w T rt rm base nd) :
    w.cell? ⟨T, 0, none⟩ = some (.pointer (some ⟨rt, 0, none⟩)) ∧ w.cell? ⟨T, 1, none⟩ = some (.int .i64 (nd.length : Int)) ∧ w.cell? ⟨T, 2, none⟩ = some (.int .i64 (bytesN nd : Int)) := by
  have := h.tr
  unfold World.cell?
  simp [this]
def textSize : Value → Nat
  | .string s => s.size
  | _ => 0
set_option maxRecDepth 100000 in
set_option maxHeartbeats 1000000 in
theorem new_any (w : World) : Calls Tryz.prog 17 #[] w fun e w' => e = .returned (.pointer (some ⟨w.heap.size + 2, 0, none⟩)) ∧ TreeAt w' (w.heap.size + 2) (w.heap.size + 1) w.heap.size w.heap.size [] ∧ Below w.heap.size w w' := by
  have hmm := @run_makeMap Tryz.prog
  go_enter Tryz.func17, Tryz.ntmps17
  go_wp2
  go_ret
  refine ⟨rfl, ?_, ?_⟩
  · refine ⟨good_nil, ?_, ?_, ?_, (fun y hy => (by cases hy)), (fun y hy => (by cases hy)), (fun y hy => (by cases hy)), List.Pairwise.nil, Nat.le_add_right _ 2, Nat.le_add_right _ 1, Nat.le_refl _, (fun y hy => (by cases hy))⟩
    · have h := World.alloc_heap_new ((w.alloc (.map #[] 0)).alloc (nodeObj rootE w.heap.size)) (.cells #[.pointer (some ⟨w.heap.size + 1, 0, none⟩), .int .i64 0, .int .i64 0] 102)
      rw [show ((w.alloc (.map #[] 0)).alloc (nodeObj rootE w.heap.size)).heap.size = w.heap.size + 2 by simp] at h
      exact h
    · have h := World.alloc_heap_new (w.alloc (.map #[] 0)) (nodeObj rootE w.heap.size)
      have h2 := heap_alloc_old ((w.alloc (.map #[] 0)).alloc (nodeObj rootE w.heap.size)) (.cells #[.pointer (some ⟨w.heap.size + 1, 0, none⟩), .int .i64 0, .int .i64 0] 102) (r := w.heap.size + 1) (by simp)
      rw [show (w.alloc (.map #[] 0)).heap.size = w.heap.size + 1 by simp] at h
      exact h2.trans h
    · refine ⟨0, _, ((World.ownsMap_made w _ _ _).alloc _).alloc _, Nat.le_refl _, kidsD_empty (fun c => rfl)⟩
  · exact (((Below.refl _ _).alloc (Nat.le_refl _) _).alloc (by simp) _).alloc (by simp; omega) _
set_option maxRecDepth 100000 in
set_option maxHeartbeats 2000000 in
theorem find_any {T rt rm base : Nat} {nd : List Nd} (p : ByteArray) (w : World) (h : TreeAt w T rt rm base nd) (hp : p.size < 4611686018427387904) :
    Calls Tryz.prog 64 #[.pointer (some ⟨T, 0, none⟩), .string p] w fun e w' => e = .returned (spotP rt (findO nd p.data.toList)) ∧ Same w w' := by
  obtain ⟨c0, _, _⟩ := tree_cells h
  have hw := h.wf
  have HT := Lib.hid h
  have HW := Lib.hid hw
  have Hp := Lib.hid hp
  clear hw h hp
  go_enter Tryz.func64, Tryz.ntmps64
  go_wp2
  go_loopw [5, 1, 6, 7, 8] (fun av pv _ _ _ wr => ∃ (o : Option (Option Nd)) (q : ByteArray), av = spotP rt o ∧ pv = .string q ∧ q.size ≤ p.size ∧ Same w wr ∧ SeekW nd p.data.toList o q.data.toList) (fun _ pv _ _ _ _ => textSize pv)
  case atStart => exact ⟨some none, p, rfl, rfl, Nat.le_refl _, Same.refl _, .root⟩
  case round =>
    obtain ⟨o, q, rfl, rfl, hq, hsm, hsk⟩ := hrel
    have Hsm := Lib.hid hsm
    have Hsk := Lib.hid hsk
    clear hsm hsk
    by_cases hq0 : q.data.toList = []
    · have e0 := emptyB_t hq0
      have hres : findO nd p.data.toList = o := SeekW.nil_is HW.out (by have := Hsk.out; rw [hq0] at this; exact this)
      have Hres := Lib.hid hres
      clear hres hq0
      obtain ⟨v, hv⟩ : ∃ v, v = spotP rt o := ⟨_, rfl⟩
      rw [← hv]
      have Hv := Lib.hid hv
      clear hv
      go_wp2
      refine bodyPost_ret_by (v := v) (results_tmp (t := 4) rfl _ _ _) rfl ⟨by rw [Hres.out, ← Hv.out], Hsm.out⟩
    · have e0 := emptyB_f hq0
      have hsh : (cutP q.data.toList).2.1.length < q.data.toList.length := by
        by_cases hm : (cutP q.data.toList).2.2 = true
        · exact cutP_shorter _ hm
        · rw [cutP_rest (by simpa using hm)]
          exact List.length_pos_iff.2 hq0
      have hle := cutP_le q.data.toList
      rw [← Lib.size_eq] at hsh hle
      cases o with
      | none =>
        have Hres := Lib.hid Hsk.out.none_is
        clear hq0
        rw [show spotP rt none = .pointer none from rfl]
        go_wp2
        go_ret
        exact ⟨by rw [Hres.out]; rfl, Hsm.out⟩
      | some o =>
        have hcut := fun W => cut_any q W (by have := Hp.out; omega)
        obtain ⟨hst1, hst2⟩ := Hsk.out.step HW.out hq0
        have hin := Hsk.out.there
        have hfacts : ∀ W, Same wr W → W.cell? ⟨spotB rt o, 5, none⟩ = some (.map (some (spotM rm o))) ∧ KidsAt W (spotM rm o) nd (spotQ o) := fun W hW => by
          have h2 := (HT.out.same' (same_same Hsm.out hW)).spot hin
          exact ⟨(node_cells h2.1).2.2.2.2.2, h2.2⟩
        rw [spotP_some]
        generalize hc : cutP q.data.toList = c at *
        obtain ⟨c1, c2, m⟩ := c
        simp only at hcut hst1 hst2 hsh hle
        generalize spotB rt o = B at *
        generalize spotM rm o = M at *
        generalize spotQ o = Q at *
        have Hcut := Lib.hid hcut
        have Hfacts := Lib.hid hfacts
        have Hst1 := Lib.hid hst1
        have Hst2 := Lib.hid hst2
        have Hsh := Lib.hid hsh
        have Hle := Lib.hid hle
        clear hcut hfacts hst1 hst2 hsh hle hc hq0
        by_cases hend : m = true ∧ c2 = []
        · obtain ⟨rfl, rfl⟩ := hend
          have Hres := Lib.hid (Hst1.out ⟨rfl, rfl⟩)
          have e1 : (bs ([] : List UInt8)).toList.isEmpty = true := emptyB_t rfl
          go_wp2_with (go_at_call 101; refine (Hcut.out _).mono ?_; rintro e w1 ⟨rfl, hs1⟩
                       have Hs1 := Lib.hid hs1
                       clear hs1)
          go_ret
          exact ⟨by rw [Hres.out]; rfl, same_same Hsm.out Hs1.out⟩
        · have Hnext := Lib.hid (Hst2.out hend)
          have hsz : (bs c1).size ≤ maxLen := by have := Hle.out.1; have := Hp.out; simp [maxLen]; omega
          have Hsz := Lib.hid hsz
          clear hsz
          cases m with
          | false =>
            clear hend
            go_wp2_with (first
              | (go_at_call 101; refine (Hcut.out _).mono ?_; rintro e w1 ⟨rfl, hs1⟩
                 obtain ⟨c5, hk⟩ := Hfacts.out w1 hs1
                 have Hs1 := Lib.hid hs1
                 have HK := Lib.hid hk
                 clear hs1 hk)
              | (at_lookup; refine wpList_lookup_kid rfl _ _ rfl M nd Q rfl HK.out (bs c1) rfl Hsz.out ?_; rw [bs_toList, nodP_spot rt]))
            go_roundw
            case rel => exact ⟨_, _, rfl, rfl, by have := Hle.out.2; simp; omega, same_same Hsm.out Hs1.out, by rw [bs_toList]; exact Hnext.out⟩
            case measure => have := Hsh.out; simp [textSize]; omega
          | true =>
            have e1 : (bs c2).toList.isEmpty = false := emptyB_f (by rw [bs_toList]; exact fun e => hend ⟨rfl, e⟩)
            clear hend
            go_wp2_with (first
              | (go_at_call 101; refine (Hcut.out _).mono ?_; rintro e w1 ⟨rfl, hs1⟩
                 obtain ⟨c5, hk⟩ := Hfacts.out w1 hs1
                 have Hs1 := Lib.hid hs1
                 have HK := Lib.hid hk
                 clear hs1 hk)
              | (at_lookup; refine wpList_lookup_kid rfl _ _ rfl M nd Q rfl HK.out (bs c1) rfl Hsz.out ?_; rw [bs_toList, nodP_spot rt]))
            go_roundw
            case rel => exact ⟨_, _, rfl, rfl, by have := Hle.out.2; simp; omega, same_same Hsm.out Hs1.out, by rw [bs_toList]; exact Hnext.out⟩
            case measure => have := Hsh.out; simp [textSize]; omega
end Go.Proofs.YtdkodedocklmdaaGreatDoor
