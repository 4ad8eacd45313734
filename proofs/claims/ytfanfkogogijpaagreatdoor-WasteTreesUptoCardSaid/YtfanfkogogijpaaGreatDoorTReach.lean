/- find, dir, full, Get (TFind, TDir). -/
import Derived.Test.YtfanfkogogijpaaGreatDoorTStand
import Derived.Test.YtfanfkogogijpaaGreatDoorIter
import Derived.Maps.OwnOps
import Derived.Lib.Builder
set_option linter.unusedSimpArgs false
set_option linter.unusedVariables false
namespace Go.Proofs.YtfanfkogogijpaaGreatDoor
section
open Go.RowKit Go.Maps
open Go.Lib hiding intOf
theorem TreeAt.same' {w w' : World} {T rt rm base : Nat} {nd : List Nd} (h : TreeAt w T rt rm base nd) (hs : Same w w') : TreeAt w' T rt rm base nd := by
  obtain ⟨n, rfl⟩ := hs
  exact h.drewN n
theorem same_same {w w1 w2 : World} (h : Same w w1) (k : Same w1 w2) : Same w w2 := by
  obtain ⟨n, rfl⟩ := h
  obtain ⟨m, rfl⟩ := k
  exact ⟨n + m, by rw [World.drewN_drewN]⟩
theorem tree_cells {w : World} {T rt rm base : Nat} {nd : List Nd} (h : TreeAt w T rt rm base nd) :
    w.cell? ⟨T, 0, none⟩ = some (.pointer (some ⟨rt, 0, none⟩)) ∧ w.cell? ⟨T, 1, none⟩ = some (.int .i64 (nd.length : Int)) ∧ w.cell? ⟨T, 2, none⟩ = some (.int .i64 (bytesN nd : Int)) := by
  have := h.tr
  unfold World.cell?
  simp [this]
def textSize : Value → Nat
  | .string s => s.size
  | _ => 0
set_option maxRecDepth 100000 in
set_option maxHeartbeats 1000000 in
theorem new_any (w : World) : Calls Tryz.prog 19 #[] w fun e w' => e = .returned (.pointer (some ⟨w.heap.size + 2, 0, none⟩)) ∧ TreeAt w' (w.heap.size + 2) (w.heap.size + 1) w.heap.size w.heap.size [] ∧ Below w.heap.size w w' := by
  have hmm := @run_makeMap Tryz.prog
  go_enter Tryz.func19, Tryz.ntmps19
  go_wp2
  go_ret
  refine ⟨rfl, ?_, ?_⟩
  · refine ⟨good_nil, ?_, ?_, ?_, (fun y hy => (by cases hy)), (fun y hy => (by cases hy)), (fun y hy => (by cases hy)), List.Pairwise.nil, Nat.le_add_right _ 2, Nat.le_add_right _ 1, Nat.le_refl _, (fun y hy => (by cases hy))⟩
    · have h := World.alloc_heap_new ((w.alloc (.map #[] 0)).alloc (nodeObj rootE w.heap.size)) (.cells #[.pointer (some ⟨w.heap.size + 1, 0, none⟩), .int .i64 0, .int .i64 0] 91)
      rw [show ((w.alloc (.map #[] 0)).alloc (nodeObj rootE w.heap.size)).heap.size = w.heap.size + 2 by simp] at h
      exact h
    · have h := World.alloc_heap_new (w.alloc (.map #[] 0)) (nodeObj rootE w.heap.size)
      have h2 := heap_alloc_old ((w.alloc (.map #[] 0)).alloc (nodeObj rootE w.heap.size)) (.cells #[.pointer (some ⟨w.heap.size + 1, 0, none⟩), .int .i64 0, .int .i64 0] 91) (r := w.heap.size + 1) (by simp)
      rw [show (w.alloc (.map #[] 0)).heap.size = w.heap.size + 1 by simp] at h
      exact h2.trans h
    · refine ⟨0, _, ((World.ownsMap_made w _ _ _).alloc _).alloc _, Nat.le_refl _, kidsD_empty (fun c => rfl)⟩
  · exact (((Below.refl _ _).alloc (Nat.le_refl _) _).alloc (by simp) _).alloc (by simp; omega) _
set_option maxRecDepth 100000 in
set_option maxHeartbeats 2000000 in
theorem find_any {T rt rm base : Nat} {nd : List Nd} (p : ByteArray) (w : World) (h : TreeAt w T rt rm base nd) (hp : p.size < 4611686018427387904) :
    Calls Tryz.prog 39 #[.pointer (some ⟨T, 0, none⟩), .string p] w fun e w' => e = .returned (spotP rt (findO nd p.data.toList)) ∧ Same w w' := by
  obtain ⟨c0, _, _⟩ := tree_cells h
  have hw := h.wf
  have HT := Lib.hid h
  have HW := Lib.hid hw
  have Hp := Lib.hid hp
  clear hw h hp
  go_enter Tryz.func39, Tryz.ntmps39
  go_wp2
  go_loopw [5, 1, 6, 7, 8] (fun av pv _ _ _ wr => ∃ (o : Option (Option Nd)) (q : ByteArray), av = spotP rt o ∧ pv = .string q ∧ q.size ≤ p.size ∧ Same w wr ∧ SeekW nd p.data.toList o q.data.toList) (fun _ pv _ _ _ _ => textSize pv)
  case atStart => exact ⟨some none, p, rfl, rfl, Nat.le_refl _, Same.refl _, .root⟩
  case round =>
    obtain ⟨o, q, rfl, rfl, hq, hsm, hsk⟩ := hrel
    have Hsm := Lib.hid hsm
    have Hsk := Lib.hid hsk
    clear hsm hsk
    by_cases hq0 : q.data.toList = []
    · have e0 := emptyB_t hq0
      have hres : findO nd p.data.toList = o := SeekW.nil_is HW.out (by have := Hsk.out; rw [hq0] at this; exact this)
      have Hres := Lib.hid hres
      clear hres hq0
      obtain ⟨v, hv⟩ : ∃ v, v = spotP rt o := ⟨_, rfl⟩
      rw [← hv]
      have Hv := Lib.hid hv
      clear hv
      go_wp2
      refine bodyPost_ret_by (v := v) (results_tmp (t := 4) rfl _ _ _) rfl ⟨by rw [Hres.out, ← Hv.out], Hsm.out⟩
    · have e0 := emptyB_f hq0
      have hsh : (cutP q.data.toList).2.1.length < q.data.toList.length := by
        by_cases hm : (cutP q.data.toList).2.2 = true
        · exact cutP_shorter _ hm
        · rw [cutP_rest (by simpa using hm)]
          exact List.length_pos_iff.2 hq0
      have hle := cutP_le q.data.toList
      rw [← Lib.size_eq] at hsh hle
      cases o with
      | none =>
        have Hres := Lib.hid Hsk.out.none_is
        clear hq0
        rw [show spotP rt none = .pointer none from rfl]
        go_wp2
        go_ret
        exact ⟨by rw [Hres.out]; rfl, Hsm.out⟩
      | some o =>
        have hcut := fun W => cut_any q W (by have := Hp.out; omega)
        obtain ⟨hst1, hst2⟩ := Hsk.out.step HW.out hq0
        have hin := Hsk.out.there
        have hfacts : ∀ W, Same wr W → W.cell? ⟨spotB rt o, 5, none⟩ = some (.map (some (spotM rm o))) ∧ KidsAt W (spotM rm o) nd (spotQ o) := fun W hW => by
          have h2 := (HT.out.same' (same_same Hsm.out hW)).spot hin
          exact ⟨(node_cells h2.1).2.2.2.2.2, h2.2⟩
        rw [spotP_some]
        generalize hc : cutP q.data.toList = c at *
        obtain ⟨c1, c2, m⟩ := c
        simp only at hcut hst1 hst2 hsh hle
        generalize spotB rt o = B at *
        generalize spotM rm o = M at *
        generalize spotQ o = Q at *
        have Hcut := Lib.hid hcut
        have Hfacts := Lib.hid hfacts
        have Hst1 := Lib.hid hst1
        have Hst2 := Lib.hid hst2
        have Hsh := Lib.hid hsh
        have Hle := Lib.hid hle
        clear hcut hfacts hst1 hst2 hsh hle hc hq0
        by_cases hend : m = true ∧ c2 = []
        · obtain ⟨rfl, rfl⟩ := hend
          have Hres := Lib.hid (Hst1.out ⟨rfl, rfl⟩)
          have e1 : (bs ([] : List UInt8)).toList.isEmpty = true := emptyB_t rfl
          go_wp2_with (go_at_call 34; refine (Hcut.out _).mono ?_; rintro e w1 ⟨rfl, hs1⟩
                       have Hs1 := Lib.hid hs1
                       clear hs1)
          go_ret
          exact ⟨by rw [Hres.out]; rfl, same_same Hsm.out Hs1.out⟩
        · have Hnext := Lib.hid (Hst2.out hend)
          have hsz : (bs c1).size ≤ maxLen := by have := Hle.out.1; have := Hp.out; simp [maxLen]; omega
          have Hsz := Lib.hid hsz
          clear hsz
          cases m with
          | false =>
            clear hend
            go_wp2_with (first
              | (go_at_call 34; refine (Hcut.out _).mono ?_; rintro e w1 ⟨rfl, hs1⟩
                 obtain ⟨c5, hk⟩ := Hfacts.out w1 hs1
                 have Hs1 := Lib.hid hs1
                 have HK := Lib.hid hk
                 clear hs1 hk)
              | (at_lookup; refine wpList_lookup_kid rfl _ _ rfl M nd Q rfl HK.out (bs c1) rfl Hsz.out ?_; rw [bs_toList, nodP_spot rt]))
            go_roundw
            case rel => exact ⟨_, _, rfl, rfl, by have := Hle.out.2; simp; omega, same_same Hsm.out Hs1.out, by rw [bs_toList]; exact Hnext.out⟩
            case measure => have := Hsh.out; simp [textSize]; omega
          | true =>
            have e1 : (bs c2).toList.isEmpty = false := emptyB_f (by rw [bs_toList]; exact fun e => hend ⟨rfl, e⟩)
            clear hend
            go_wp2_with (first
              | (go_at_call 34; refine (Hcut.out _).mono ?_; rintro e w1 ⟨rfl, hs1⟩
                 obtain ⟨c5, hk⟩ := Hfacts.out w1 hs1
                 have Hs1 := Lib.hid hs1
                 have HK := Lib.hid hk
                 clear hs1 hk)
              | (at_lookup; refine wpList_lookup_kid rfl _ _ rfl M nd Q rfl HK.out (bs c1) rfl Hsz.out ?_; rw [bs_toList, nodP_spot rt]))
            go_roundw
            case rel => exact ⟨_, _, rfl, rfl, by have := Hle.out.2; simp; omega, same_same Hsm.out Hs1.out, by rw [bs_toList]; exact Hnext.out⟩
            case measure => have := Hsh.out; simp [textSize]; omega
end
section
open Go.RowKit
open Go.Lib hiding intOf
theorem upNo_find {nd : List Nd} {p : List UInt8} (hw : Wf nd) : upNo (ents nd) p = match findO nd (parent p) with
    | none => 10
    | some o => if (spotE o).k = 1 then 0 else 13 := by
  unfold upNo findO
  by_cases h : parent p = []
  · rw [if_pos h, if_pos h]; rfl
  · rw [if_neg h, if_neg h, lookE_N]
    cases lookN nd (parent p) with
    | none => rfl
    | some y => rfl
theorem findO_in {nd : List Nd} {p : List UInt8} {o : Option Nd} (h : findO nd p = some o) : SpotIn nd o ∧ spotQ o = p := by
  unfold findO at h
  by_cases h0 : p = []
  · rw [if_pos h0] at h
    injection h with h
    subst h
    exact ⟨trivial, h0.symm⟩
  · rw [if_neg h0] at h
    cases hl : lookN nd p with
    | none => rw [hl] at h; cases h
    | some y =>
      rw [hl] at h
      injection h with h
      subst h
      exact ⟨(lookN_some hl).1, (lookN_some hl).2⟩
/-- what dir answers -/
def dirV (rt : Nat) (nd : List Nd) (p : List UInt8) : Value := if upNo (ents nd) p = 0 then spotP rt (findO nd (parent p)) else .pointer none
set_option maxRecDepth 100000 in
set_option maxHeartbeats 1000000 in
theorem dir_any {T rt rm base : Nat} {nd : List Nd} (p : ByteArray) (w : World) (h : TreeAt w T rt rm base nd) (hp : p.size < 4611686018427387904) :
    Calls Tryz.prog 21 #[.pointer (some ⟨T, 0, none⟩), .string p] w fun e w' => e = .returned (.tuple #[dirV rt nd p.data.toList, errV (upNo (ents nd) p.data.toList)]) ∧ Same w w' := by
  have hpar := fun W => parent_any p W hp
  have hpl : (bs (parent p.data.toList)).size < 4611686018427387904 := by
    have : (parent p.data.toList).length ≤ p.data.toList.length := by unfold parent; simp; omega
    rw [← Lib.size_eq] at this
    rw [bs_size]; omega
  have hf := fun W (hW : TreeAt W T rt rm base nd) => find_any (bs (parent p.data.toList)) W hW hpl
  rw [bs_toList] at hf
  have hu := upNo_find (p := p.data.toList) h.wf
  unfold dirV
  generalize upNo (ents nd) p.data.toList = u at *
  have HT := Lib.hid h
  have Hpar := Lib.hid hpar
  clear h hp hpar hpl
  generalize hQ : parent p.data.toList = Q at *
  cases ho : findO nd Q with
  | none =>
    rw [ho] at hf hu
    replace hu : u = 10 := hu
    subst hu
    have Hf := Lib.hid hf
    clear hf hQ ho
    go_enter Tryz.func21, Tryz.ntmps21
    go_wp2_with (first
      | (go_at_call 40; refine (Hpar.out _).mono ?_; rintro e w1 ⟨rfl, rfl⟩)
      | (go_at_call 39; refine (Hf.out _ HT.out).mono ?_; rintro e w2 ⟨rfl, hs⟩
         have Hs := Lib.hid hs
         clear hs
         rw [show spotP rt none = .pointer none from rfl]))
    go_ret2
    exact ⟨rfl, Hs.out⟩
  | some o =>
    rw [ho] at hf hu
    replace hu : u = if (spotE o).k = 1 then 0 else 13 := hu
    rw [spotP_some] at hf
    have hin := (findO_in ho).1
    have hk : ∀ W, Same w W → W.cell? ⟨spotB rt o, 1, none⟩ = some (.int .i64 (spotE o).k) := fun W hW => (node_cells ((HT.out.same' hW).spot hin).1).2.1
    rw [spotP_some]
    generalize spotB rt o = B at *
    obtain ⟨k, hkk⟩ : ∃ k, k = (spotE o).k := ⟨_, rfl⟩
    rw [← hkk] at hk hu
    have Hf := Lib.hid hf
    have Hk := Lib.hid hk
    clear hf hQ ho hin hk hkk
    by_cases h1 : k = 1
    · rw [if_pos h1] at hu
      subst hu
      subst h1
      go_enter Tryz.func21, Tryz.ntmps21
      go_wp2_with (first
        | (go_at_call 40; refine (Hpar.out _).mono ?_; rintro e w1 ⟨rfl, rfl⟩)
        | (go_at_call 39; refine (Hf.out _ HT.out).mono ?_; rintro e w2 ⟨rfl, hs⟩
           have c1 := Hk.out _ hs
           have Hs := Lib.hid hs
           clear hs))
      go_ret2
      exact ⟨rfl, Hs.out⟩
    · have hne : (k != 1) = true := by simpa using h1
      rw [if_neg h1] at hu
      subst hu
      clear h1
      go_enter Tryz.func21, Tryz.ntmps21
      go_wp2_with (first
        | (go_at_call 40; refine (Hpar.out _).mono ?_; rintro e w1 ⟨rfl, rfl⟩)
        | (go_at_call 39; refine (Hf.out _ HT.out).mono ?_; rintro e w2 ⟨rfl, hs⟩
           have c1 := Hk.out _ hs
           have Hs := Lib.hid hs
           clear hs))
      go_ret2
      exact ⟨rfl, Hs.out⟩
set_option maxRecDepth 100000 in
set_option maxHeartbeats 1000000 in
theorem full_any {T rt rm base : Nat} {nd : List Nd} (e : Ent) (w : World) (h : TreeAt w T rt rm base nd) (he : e.d.size < 4611686018427387904) :
    Calls Tryz.prog 22 #[.pointer (some ⟨T, 0, none⟩), entV e, .pointer none] w fun r w' => r = .returned (errV (if 4096 ≤ (ents nd).length ∨ 16777216 < bytesE (ents nd) + e.d.size then 5 else 0)) ∧ Below w.heap.size w w' := by
  have hl := h.good.len
  have hb := h.good.byt
  obtain ⟨_, c1, c2⟩ := tree_cells (h.alloc (.cells (entC e).toArray 33))
  rw [ents_length] at hl ⊢
  rw [show bytesE (ents nd) = bytesN nd from rfl] at hb ⊢
  have cb := World.alloc_heap_new w (.cells (entC e).toArray 33)
  have c3 : (w.alloc (.cells (entC e).toArray 33)).cell? ⟨w.heap.size, 3, none⟩ = some (.string e.d) := by
    unfold World.cell?
    simp only [cb]
    rfl
  unfold entV entC at *
  clear cb h
  generalize nd.length = n at *
  generalize bytesN nd = b at *
  generalize e.d = d at *
  by_cases h1 : 4096 < (n : Int) + 1
  · rw [if_pos (.inl (by omega))]
    go_enter Tryz.func22, Tryz.ntmps22
    go_wp2
    go_quiet (fail)
    go_wp2
    go_ret
    exact ⟨rfl, below_drewN ((Below.refl _ _).alloc (Nat.le_refl _) _) _⟩
  · by_cases h2 : 16777216 < (b : Int) + (d.size : Int)
    · rw [if_pos (.inr (by omega))]
      go_enter Tryz.func22, Tryz.ntmps22
      go_wp2
      go_quiet (fail)
      go_wp2
      go_ret
      exact ⟨rfl, below_drewN ((Below.refl _ _).alloc (Nat.le_refl _) _) _⟩
    · rw [if_neg (by omega)]
      go_enter Tryz.func22, Tryz.ntmps22
      go_wp2
      go_quiet (fail)
      go_wp2
      go_ret
      exact ⟨rfl, below_drewN ((Below.refl _ _).alloc (Nat.le_refl _) _) _⟩
theorem results_cell_one {fn : Func} {p u : Tmp} {ty : TypeId} {P : Program} (h : fn.results = #[.cell p ty, .tmp u]) (tmps : Array Value) (w : World) (a : Nat) (ca : Array Value)
    (hp : tmps.getD p undef = .pointer (some ⟨a, 0, none⟩)) (ha : (loadVar ty ⟨a, 0, none⟩).run P w = .ok (.agg ca) w) : (results fn tmps).run P w = .ok (.tuple #[.agg ca, tmps.getD u undef]) w := by
  have hp' : tmps[p]?.getD undef = .pointer (some ⟨a, 0, none⟩) := by simpa using hp
  simp [results, h, hp', asAddr, ha]
theorem Tryz.node_info : (Tryz.prog.info? 89).map (·.size) = some 6 := by kernel_rfl
theorem neq_same (w : World) (a : Addr) : (binOp .neq 66 (.pointer (some a)) (.pointer (some a))).run Tryz.prog w = .ok (.bool false) w := by
  have h := Tryz.node_info
  cases hj : Tryz.prog.info? 89 with
  | none => rw [hj] at h; cases h
  | some j => exact Go.Lib.run_neq_ptr_same w a Tryz.underlying66 hj
theorem neq_other {w : World} {a b : Addr} {ca cb : Array Value} {ta tb : TypeId} (hne : a ≠ b) (ha : w.heap[a.block]? = some (.cells ca ta (0, 0))) (hb : w.heap[b.block]? = some (.cells cb tb (0, 0))) :
    (binOp .neq 66 (.pointer (some a)) (.pointer (some b))).run Tryz.prog w = .ok (.bool true) w := by
  have hi := Tryz.node_info
  cases hj : Tryz.prog.info? 89 with
  | none => rw [hj] at hi; cases hi
  | some j =>
    rw [hj] at hi
    have hsz : j.size ≠ 0 := by simp at hi; omega
    have h : ∀ d : Nat, (Op.equalIn (d + 1) 66 (.pointer (some a)) (.pointer (some b))).run Tryz.prog w = .ok false w := fun d => by
      simp [Op.equalIn, run_underlying Tryz.underlying66, sizeOf, typeInfo, hj, hsz, run_sameAddr_other w hne ha hb]
    simp only [binOp]
    simp [Op.equal, Op.maxDepth, h 9999]
theorem setRow_at {w : World} {g : Nat} {cs old : Array Value} {t : TypeId} (h : w.heap[g]? = some (.cells old t (0, 0))) : (w.setRow g cs).heap[g]? = some (.cells cs t (0, 0)) := setRow_heap w g _ cs _ _ h
theorem entC_one (e : Ent) : (entC e).toArray.all (·.oneCell') = true := by
  rw [Array.all_eq_true_iff_forall_mem]
  intro x hx
  simp only [entC, List.mem_toArray, List.mem_cons, List.not_mem_nil, or_false] at hx
  rcases hx with rfl | rfl | rfl | rfl | rfl <;> rfl
end
end Go.Proofs.YtfanfkogogijpaaGreatDoor
