/- Joined: what these texts prove stands at the head of each part: CLent, DSame. -/
import Derived.Test.YtipfccfjniglbaaGreatDoorJDiff
import Derived.Test.YtipfccfjniglbaaGreatDoorULent
import Derived.Deep.DeepCutAuto
import Derived.Deep.MidRow
import Derived.StillTailTactics
import Derived.Laws.StructEq
set_option linter.unusedSimpArgs false
set_option linter.unusedVariables false
namespace Go.Proofs.YtipfccfjniglbaaGreatDoor
section
open Go.RowKit Go.Maps Go.Shelf
open Go.Lib hiding intOf size_eq
def chgV (c : Chg) : Value := .agg #[.string c.p, .bool c.g, .string c.e.p, .int .i64 c.e.k, .int .i64 c.e.m, .string c.e.d, .string c.e.l]
theorem chgC_one (e : Chg) : (chgC e).toArray.all (·.oneCell') = true := by simp [chgC, Value.oneCell']
def markC (k i : Int) : Chg := ⟨bs (markI k i), false, ⟨⟨#[]⟩, 0, -7 - k, ⟨#[]⟩, ⟨#[]⟩⟩⟩
set_option maxRecDepth 100000 in
set_option maxHeartbeats 1000000 in
theorem markChg_any (k i : Int) (w : World) (hk : -1099511627776 ≤ k ∧ k ≤ 1099511627776) (hi : -1099511627776 ≤ i ∧ i ≤ 1099511627776) :
    Calls Tryz.prog 44 #[.int .i64 k, .int .i64 i] w fun r w' => Below w.heap.size w w' ∧ r = .returned (.agg #[.string (bs (markI k i)), .bool false, .string ⟨#[]⟩, .int .i64 0, .int .i64 (-7 - k), .string ⟨#[]⟩, .string ⟨#[]⟩]) := by
  have H := Lib.hid (fun W => markText_int k i W hk hi)
  have wr : IntKind.i64.wrap (-7 - k) = -7 - k := by rw [IntKind.wrap_i64]; omega
  have hb0 := World.alloc_heap_new w (.cells #[.string ⟨#[]⟩, .bool false, .string ⟨#[]⟩, .int .i64 0, .int .i64 0, .string ⟨#[]⟩, .string ⟨#[]⟩] 54)
  have hone : (#[Value.string (bs (markI k i)), Value.bool false, Value.string ⟨#[]⟩, Value.int .i64 0, Value.int .i64 (-7 - k), Value.string ⟨#[]⟩, Value.string ⟨#[]⟩] : Array Value).all (·.oneCell') = true := by simp [Value.oneCell']
  have HB0 := Lib.hid hb0
  have Hone := Lib.hid hone
  have fin : ∀ w1, Below (w.alloc (.cells #[.string ⟨#[]⟩, .bool false, .string ⟨#[]⟩, .int .i64 0, .int .i64 0, .string ⟨#[]⟩, .string ⟨#[]⟩] 54)).heap.size (w.alloc (.cells #[.string ⟨#[]⟩, .bool false, .string ⟨#[]⟩, .int .i64 0, .int .i64 0, .string ⟨#[]⟩, .string ⟨#[]⟩] 54)) w1 →
      w1.heap[w.heap.size]? = some (.cells #[.string ⟨#[]⟩, .bool false, .string ⟨#[]⟩, .int .i64 0, .int .i64 0, .string ⟨#[]⟩, .string ⟨#[]⟩] 54 (0, 0)) ∧ Below w.heap.size w (w1.setRow w.heap.size #[.string (bs (markI k i)), .bool false, .string ⟨#[]⟩, .int .i64 0, .int .i64 (-7 - k), .string ⟨#[]⟩, .string ⟨#[]⟩]) ∧
      (loadVar 54 ⟨w.heap.size, 0, none⟩).run Tryz.prog (w1.setRow w.heap.size #[.string (bs (markI k i)), .bool false, .string ⟨#[]⟩, .int .i64 0, .int .i64 (-7 - k), .string ⟨#[]⟩, .string ⟨#[]⟩]) = .ok (.agg #[.string (bs (markI k i)), .bool false, .string ⟨#[]⟩, .int .i64 0, .int .i64 (-7 - k), .string ⟨#[]⟩, .string ⟨#[]⟩]) (w1.setRow w.heap.size #[.string (bs (markI k i)), .bool false, .string ⟨#[]⟩, .int .i64 0, .int .i64 (-7 - k), .string ⟨#[]⟩, .string ⟨#[]⟩]) := fun w1 hb => by
    have h1 := (hb.block w.heap.size (by simp)).trans hb0
    have h2 : Below w.heap.size w w1 := ((Below.refl _ _).alloc (Nat.le_refl _) _).trans (hb.mono (by simp))
    refine ⟨h1, ⟨h2.os, h2.tape, h2.output, by simpa using h2.size, fun j hj => (setRow_other w1 w.heap.size j _ (by omega)).trans (h2.block j hj)⟩, ?_⟩
    exact run_loadVar_row _ w.heap.size 54 54 _ (0, 0) _ (grow_at h1) Tryz.underlying54 rfl (by kernel_rfl)
  have Fin := Lib.hid fin
  clear hb0 hone fin
  go_enter Tryz.func44, Tryz.ntmps44
  go_wp2_with (first
    | (go_at_call 72; refine (H.out _).mono ?_; rintro r w1 ⟨hb, rfl⟩
       obtain ⟨h1, h2, h3⟩ := Fin.out w1 hb
       have H1 := Lib.hid h1
       have H2 := Lib.hid h2
       have H3 := Lib.hid h3
       clear hb h1 h2 h3)
    | (refine wpList_store_row rfl _ _ _ rfl w.heap.size #[.string (bs (markI k i)), .bool false, .string ⟨#[]⟩, .int .i64 0, .int .i64 (-7 - k), .string ⟨#[]⟩, .string ⟨#[]⟩] rfl rfl 54 _ H1.out (by kernel_rfl) rfl Hone.out ?_))
  refine bodyPost_ret_by (v := .agg #[.string (bs (markI k i)), .bool false, .string ⟨#[]⟩, .int .i64 0, .int .i64 (-7 - k), .string ⟨#[]⟩, .string ⟨#[]⟩]) ?_ rfl ⟨H2.out, rfl⟩
  exact results_cell_row rfl _ _ w.heap.size _ _ _ _ rfl (grow_at H1.out) Tryz.underlying54 rfl (by kernel_rfl)
def marksC (k : Int) (n : Nat) : List Chg := (List.range n).map fun i => markC k (i : Nat)
theorem marksC_len (k : Int) (n : Nat) : (marksC k n).length = n := by simp [marksC]
theorem marksC_succ (k : Int) (n : Nat) : marksC k (n + 1) = marksC k n ++ [markC k (n : Nat)] := by
  unfold marksC
  rw [List.range_succ, List.map_append]
  rfl
theorem marksC_get {k : Int} {n i : Nat} (h : i < n) : (marksC k n)[i]? = some (markC k (i : Nat)) := by
  unfold marksC
  rw [List.getElem?_map, List.getElem?_range h]
  rfl
set_option maxRecDepth 100000 in
set_option maxHeartbeats 4000000 in
theorem full_changes (v : Value) (L : List Chg) (w : World) (h : ChgsAt w v L) (hl : L.length ≤ 1099511627776) :
    Calls Tryz.prog 49 #[v] w fun r w' => ∃ v', r = .returned v' ∧ w'.ownsRow w.heap.size 54 7 v' (L.length + 16) ((L ++ marksC 90 16).flatMap chgC) ∧ Below w.heap.size w w' := by
  obtain ⟨i0, hi, hz0, hz1, hz2⟩ := info_parts Tryz.infoChange
  obtain ⟨o, cap, rfl, hlc, hcm, hcells⟩ := h
  obtain ⟨n, hn⟩ : ∃ n, n = L.length := ⟨_, rfl⟩
  rw [← hn] at hlc hl ⊢
  have Hi := Lib.hid hi
  have Hz0 := Lib.hid hz0
  have Hz1 := Lib.hid hz1
  have Hz2 := Lib.hid hz2
  have Hcells := Lib.hid hcells
  have Hn := Lib.hid hn
  have HM := Lib.hid (fun (i : Int) (W : World) (hi : 0 ≤ i ∧ i ≤ 16) => markChg_any 90 i W (by omega) (by omega))
  clear hcells hn hi hz0 hz1 hz2
  go_enter Tryz.func49, Tryz.ntmps49
  go_wp2
  go_loopw [3, 4] (fun ov iv wr => ∃ (k : Nat), iv = .int .i64 (k : Int) ∧ k ≤ n ∧ wr.ownsRow w.heap.size 54 7 ov k ((L.take k).flatMap chgC) ∧ Below w.heap.size w wr) (fun _ iv _ => n - (intOf iv).toNat)
  case atStart => exact ⟨0, rfl, Nat.zero_le _, World.ownsRow_nil _ _ _ _, Below.refl _ _⟩
  case round =>
    obtain ⟨k, rfl, hk, hrow, hbr⟩ := hrel
    have hbs := hbr.size
    by_cases hlt : k < n
    · obtain ⟨e, hek⟩ : ∃ e, L[k]? = some e := ⟨_, List.getElem?_eq_getElem (by rw [← Hn.out]; exact hlt)⟩
      obtain ⟨a, rfl, hal, hcs⟩ := Hcells.out k e hek
      have hcw : ∀ j x, (chgC e)[j]? = some x → wr.cell? ((a.add (k * 7)).add j) = some x := fun j x hx => by
        have := hcs j x hx
        unfold World.cell? at this ⊢
        rw [hbr.block _ (by rw [gadd_block, gadd_block]; omega)]
        exact this
      have hnew : ∀ j u, (chgC e)[j]? = some u → (wr.alloc (.cells #[.string e.p, .bool e.g, .string e.e.p, .int .i64 e.e.k, .int .i64 e.e.m, .string e.e.d, .string e.e.l] 54)).cell? ((⟨wr.heap.size, 0, none⟩ : Addr).add j) = some u := item_cells (World.alloc_heap_new wr _)
      have Hcw := Lib.hid hcw
      have Hnew := Lib.hid hnew
      have Hrow := Lib.hid hrow
      have Hbr := Lib.hid hbr
      have Hstep := Lib.hid (show (L.take k).flatMap chgC ++ chgC e = (L.take (k + 1)).flatMap chgC by rw [← gtake hek, List.flatMap_append, List.flatMap_singleton])
      clear hcw hnew hrow hbr hcs hek
      go_wp2_with (first
        | (refine wpList_load_items rfl _ _ rfl (a.add (k * 7)) rfl [.string e.p, .bool e.g, .string e.e.p, .int .i64 e.e.k, .int .i64 e.e.m, .string e.e.d, .string e.e.l] _ Hcw.out Tryz.underlying54 rfl (by kernel_rfl) ?_)
        | (at_builtin; go_loud (refine wpList_append_own _ rfl _ _ 23 rfl w.heap.size 54 i0 _ 7 88 Tryz.underlying23 Hi.out Hz0.out Hz1.out Hz2.out rfl (by decide) _ _ _ rfl (Hrow.out.alloc _) ⟨wr.heap.size, 0, none⟩ 1 1 [.string e.p, .bool e.g, .string e.e.p, .int .i64 e.e.k, .int .i64 e.e.m, .string e.e.d, .string e.e.l] rfl rfl Hnew.out (by simp [Value.oneCell']) (by unfold maxLen; omega) (by omega) (by simp; omega) ?_); intro v' w2 hown' hgrow _))
      go_roundw
      case rel => exact ⟨k + 1, by go_num, by omega, by rw [← Hstep.out]; exact hown', (Hbr.out.alloc (by omega) _).grown hgrow (by simp; omega) (fun k e => (World.ownsRow.lt Hrow.out k e).1)⟩
      case measure => simp [intOf]; omega
    · obtain rfl : k = n := by omega
      have hrow2 : wr.ownsRow w.heap.size 54 7 u3 (k + 0) ((L ++ marksC 90 0).flatMap chgC) := by rw [Hn.out, List.take_length, ← Hn.out] at hrow; simpa [marksC] using hrow
      have Hrow2 := Lib.hid hrow2
      have Hbr := Lib.hid hbr
      clear hrow hbr hrow2
      go_wp2_with fail
      obtain ⟨wo, hwo⟩ : ∃ x, x = wr := ⟨_, rfl⟩
      subst hwo
      go_loopw [3, 5] (fun ov iv wr => ∃ (i : Nat), iv = .int .i64 (i : Int) ∧ i ≤ 16 ∧ wr.ownsRow w.heap.size 54 7 ov (k + i) ((L ++ marksC 90 i).flatMap chgC) ∧ Below w.heap.size w wr) (fun _ iv _ => 16 - (intOf iv).toNat)
      case atStart => exact ⟨0, rfl, Nat.zero_le _, Hrow2.out, Hbr.out⟩
      case round =>
        obtain ⟨i, rfl, hi, hrow, hbr⟩ := hrel
        have hbs2 := hbr.size
        by_cases hilt : i < 16
        · have hnx : ∀ W, Below wr.heap.size wr W → W.ownsRow w.heap.size 54 7 _ (k + i) ((L ++ marksC 90 i).flatMap chgC) ∧ Below w.heap.size w W ∧ w.heap.size ≤ W.heap.size := fun W hW => ⟨row_belowE hrow hW, hbr.trans (hW.mono hbs2), by have := hW.size; omega⟩
          have hstep : (L ++ marksC 90 i).flatMap chgC ++ chgC (markC 90 (i : Nat)) = (L ++ marksC 90 (i + 1)).flatMap chgC := by
            rw [marksC_succ, ← List.append_assoc, List.flatMap_append (ys := [markC 90 (i : Nat)]), List.flatMap_singleton]
          have Hnx := Lib.hid hnx
          have Hstep := Lib.hid hstep
          have Hbr := Lib.hid hbr
          have Hk := Lib.hid hk
          clear hnx hstep hrow hbr
          go_wp2_with (first
            | (go_at_call 44; refine (HM.out i _ (by omega)).mono ?_; rintro r w4 ⟨hb4, rfl⟩
               obtain ⟨d1, d2, d3⟩ := Hnx.out w4 hb4
               have D1 := Lib.hid d1
               have D2 := Lib.hid d2
               have Hnew := Lib.hid (show ∀ j u, (chgC (markC 90 (i : Nat)))[j]? = some u → (w4.alloc (.cells #[.string (bs (markI 90 i)), .bool false, .string ⟨#[]⟩, .int .i64 0, .int .i64 (-7 - 90), .string ⟨#[]⟩, .string ⟨#[]⟩] 54)).cell? ((⟨w4.heap.size, 0, none⟩ : Addr).add j) = some u from item_cells (cs := chgC (markC 90 (i : Nat))) (World.alloc_heap_new w4 _))
               clear hb4 d1 d2)
            | (at_builtin; go_loud (refine wpList_append_own _ rfl _ _ 23 rfl w.heap.size 54 i0 _ 7 88 Tryz.underlying23 Hi.out Hz0.out Hz1.out Hz2.out rfl (by decide) _ _ _ rfl (D1.out.alloc _) ⟨w4.heap.size, 0, none⟩ 1 1 (chgC (markC 90 (i : Nat))) rfl rfl Hnew.out (by simp [chgC, Value.oneCell']) (by unfold maxLen; omega) (by omega) (by simp; omega) ?_); intro v' w5 hown' hgrow _))
          go_roundw
          case rel => exact ⟨i + 1, by go_num, by omega, by rw [← Hstep.out]; exact hown', (D2.out.alloc d3 _).grown hgrow (by simp; omega) (fun k e => (World.ownsRow.lt D1.out k e).1)⟩
          case measure => simp [intOf]; omega
        · obtain rfl : i = 16 := by omega
          have Hrow := Lib.hid hrow
          have Hbr := Lib.hid hbr
          clear hrow hbr
          go_wp2
          go_ret
          exact ⟨_, rfl, Hrow.out, Hbr.out⟩
/-- a list that is lent: the marks stand in its spare room -/
def LentC (w : World) (base : Nat) (v : Value) (L : List Chg) : Prop := ∃ g cap, v = .slice (some ⟨g, 0, none⟩) L.length cap ∧ w.ownsRow base 54 7 (.slice (some ⟨g, 0, none⟩) (L.length + 16) cap) (L.length + 16) ((L ++ marksC 90 16).flatMap chgC)
theorem LentC.below {w w' : World} {base B : Nat} {v : Value} {L : List Chg} (h : LentC w base v L) (hb : Below B w w') (hB : w.heap.size ≤ B) : LentC w' base v L := by
  obtain ⟨g, cap, h1, h2⟩ := h
  exact ⟨g, cap, h1, row_belowE h2 (hb.mono hB)⟩
theorem full_lenC (L : List Chg) : (L ++ marksC 90 16).length = L.length + 16 := by rw [List.length_append, marksC_len]
theorem LentC.whole {w : World} {base : Nat} {v : Value} {L : List Chg} (h : LentC w base v L) : ∃ g cap, v = .slice (some ⟨g, 0, none⟩) L.length cap ∧ L.length + 16 ≤ cap ∧ cap ≤ maxLen ∧ ChgsAt w (.slice (some ⟨g, 0, none⟩) (L.length + 16) cap) (L ++ marksC 90 16) := by
  obtain ⟨g, cap, h1, h2⟩ := h
  rw [← full_lenC] at h2
  have h3 := items_of_row chgC_len h2
  obtain ⟨_, h4⟩ := h2
  rcases h4 with ⟨e, _⟩ | ⟨g2, cap2, cur, e, _, _, hnc, hcm, _⟩
  · cases e
  · injection e with e1 e2 e3
    subst e3
    rw [full_lenC] at hnc h3
    exact ⟨g, cap, h1, hnc, hcm, h3⟩
theorem LentC.ents {w : World} {base : Nat} {v : Value} {L : List Chg} (h : LentC w base v L) : ChgsAt w v L := by
  obtain ⟨g, cap, rfl, h1, h2, o, cap2, e, h3, h4, h5⟩ := h.whole
  injection e with e1 e2 e3
  subst e1
  subst e3
  refine ⟨_, cap, rfl, by omega, h2, fun i x hx => ?_⟩
  exact h5 i x (by rw [List.getElem?_append_left (List.getElem?_eq_some_iff.1 hx).1]; exact hx)
set_option maxRecDepth 100000 in
set_option maxHeartbeats 1000000 in
theorem lentC_any (v : Value) (L : List Chg) (w : World) (h : ChgsAt w v L) (hl : L.length ≤ 1099511627776) :
    Calls Tryz.prog 19 #[v] w fun r w' => ∃ v', r = .returned v' ∧ LentC w' w.heap.size v' L ∧ Below w.heap.size w w' := by
  have hf := (full_changes v L w h hl).mono (R' := fun r w' => ∃ g cap, r = .returned (.slice (some ⟨g, 0, none⟩) (L.length + 16) cap) ∧ L.length + 16 ≤ cap ∧ cap ≤ maxLen ∧ LentC w' w.heap.size (.slice (some ⟨g, 0, none⟩) L.length cap) L ∧ Below w.heap.size w w') (fun r w' ⟨v', h1, h2, h3⟩ => by
    have h4 := h2
    obtain ⟨_, h5⟩ := h4
    rcases h5 with ⟨_, h0⟩ | ⟨g, cap, cur, rfl, _, _, hnc, hcm, _⟩
    · omega
    · exact ⟨g, cap, h1, hnc, hcm, ⟨g, cap, rfl, h2⟩, h3⟩)
  obtain ⟨o, cap0, rfl, hlc, hcm, hcells⟩ := h
  obtain ⟨n, hn⟩ : ∃ n, n = L.length := ⟨_, rfl⟩
  rw [← hn] at hf hl hlc ⊢
  have Hf := Lib.hid hf
  clear hf hn hcells
  go_enter Tryz.func19, Tryz.ntmps19
  go_wp2_with (first
    | (go_at_call 49; refine Hf.out.mono ?_; rintro r w1 ⟨g, cap, rfl, h1, h2, h3, h4⟩
       have H3 := Lib.hid h3
       have H4 := Lib.hid h4
       clear h3 h4))
  go_ret
  exact ⟨_, rfl, H3.out, H4.out⟩
set_option maxRecDepth 100000 in
set_option maxHeartbeats 4000000 in
theorem keptFullC_any (va vb : Value) (L : List Chg) (w : World) (ha : ChgsAt w va (L ++ marksC 90 16)) (hb : ChgsAt w vb L) (hl : L.length ≤ 1048576) :
    Calls Tryz.prog 53 #[va, vb] w fun r w' => r = .returned (.bool true) ∧ Below w.heap.size w w' := by
  obtain ⟨o1, cap1, rfl, hlc1, hcm1, hcells1⟩ := ha
  obtain ⟨o2, cap2, rfl, hlc2, hcm2, hcells2⟩ := hb
  obtain ⟨n, hn⟩ : ∃ n, n = L.length := ⟨_, rfl⟩
  rw [full_lenC] at hlc1 ⊢
  rw [← hn] at hlc1 hlc2 hl ⊢
  have Hc1 := Lib.hid hcells1
  have Hc2 := Lib.hid hcells2
  have Hn := Lib.hid hn
  have HM := Lib.hid (fun (i : Int) (W : World) (hi : -1048576 ≤ i ∧ i ≤ 16) => markChg_any 90 i W (by omega) (by omega))
  clear hcells1 hcells2 hn
  go_enter Tryz.func53, Tryz.ntmps53
  go_wp2_with fail
  go_loopw [5, 6] (fun iv _ wr => ∃ (i : Nat), iv = .int .i64 (i : Int) ∧ i ≤ n + 16 ∧ Below w.heap.size w wr) (fun iv _ _ => n + 16 - (intOf iv).toNat)
  case atStart => exact ⟨0, rfl, Nat.zero_le _, Below.refl _ _⟩
  case round =>
    obtain ⟨i, rfl, hi, hbr⟩ := hrel
    have hbs := hbr.size
    by_cases hlt : i < n + 16
    · obtain ⟨e1, he1⟩ : ∃ e, (L ++ marksC 90 16)[i]? = some e := ⟨_, List.getElem?_eq_getElem (by rw [full_lenC, ← Hn.out]; exact hlt)⟩
      obtain ⟨a1, rfl, hal1, hcs1⟩ := Hc1.out i e1 he1
      have up : ∀ (a : Addr) (e : Chg), a.block < w.heap.size → (∀ j x, (chgC e)[j]? = some x → w.cell? ((a.add (i * 7)).add j) = some x) → ∀ W, Below wr.heap.size wr W → ∀ j x, (chgC e)[j]? = some x → W.cell? ((a.add (i * 7)).add j) = some x := fun a e hal hcs W hW j x hx => by
        have := hcs j x hx
        unfold World.cell? at this ⊢
        rw [hW.block _ (by rw [gadd_block, gadd_block]; omega), hbr.block _ (by rw [gadd_block, gadd_block]; omega)]
        exact this
      have hu1 := up a1 e1 hal1 hcs1
      have mid : ∀ w4, Below wr.heap.size wr w4 → Below wr.heap.size wr ((w4.alloc (.cells #[.string ⟨#[]⟩, .bool false, .string ⟨#[]⟩, .int .i64 0, .int .i64 0, .string ⟨#[]⟩, .string ⟨#[]⟩] 54)).setRow w4.heap.size #[.string (bs (markI 90 ((i : Int) - (n : Int)))), .bool false, .string ⟨#[]⟩, .int .i64 0, .int .i64 (-7 - 90), .string ⟨#[]⟩, .string ⟨#[]⟩]) ∧
          (w4.alloc (.cells #[.string ⟨#[]⟩, .bool false, .string ⟨#[]⟩, .int .i64 0, .int .i64 0, .string ⟨#[]⟩, .string ⟨#[]⟩] 54)).heap[w4.heap.size]? = some (.cells #[.string ⟨#[]⟩, .bool false, .string ⟨#[]⟩, .int .i64 0, .int .i64 0, .string ⟨#[]⟩, .string ⟨#[]⟩] 54 (0, 0)) ∧
          ((w4.alloc (.cells #[.string ⟨#[]⟩, .bool false, .string ⟨#[]⟩, .int .i64 0, .int .i64 0, .string ⟨#[]⟩, .string ⟨#[]⟩] 54)).setRow w4.heap.size #[.string (bs (markI 90 ((i : Int) - (n : Int)))), .bool false, .string ⟨#[]⟩, .int .i64 0, .int .i64 (-7 - 90), .string ⟨#[]⟩, .string ⟨#[]⟩]).heap[w4.heap.size]? = some (.cells #[.string (bs (markI 90 ((i : Int) - (n : Int)))), .bool false, .string ⟨#[]⟩, .int .i64 0, .int .i64 (-7 - 90), .string ⟨#[]⟩, .string ⟨#[]⟩] 54 (0, 0)) := fun w4 hW => by
        have h1 := World.alloc_heap_new w4 (.cells #[.string ⟨#[]⟩, .bool false, .string ⟨#[]⟩, .int .i64 0, .int .i64 0, .string ⟨#[]⟩, .string ⟨#[]⟩] 54)
        refine ⟨?_, h1, grow_at h1⟩
        have h2 := hW.alloc hW.size (.cells #[.string ⟨#[]⟩, .bool false, .string ⟨#[]⟩, .int .i64 0, .int .i64 0, .string ⟨#[]⟩, .string ⟨#[]⟩] 54)
        exact ⟨h2.os, h2.tape, h2.output, by simpa using h2.size, fun j hj => (setRow_other _ w4.heap.size j _ (by have := hW.size; omega)).trans (h2.block j hj)⟩
      have Hu1 := Lib.hid hu1
      have Hmid := Lib.hid mid
      have Hone := Lib.hid (show (#[Value.string (bs (markI 90 ((i : Int) - (n : Int)))), Value.bool false, Value.string ⟨#[]⟩, Value.int .i64 0, Value.int .i64 (-7 - 90), Value.string ⟨#[]⟩, Value.string ⟨#[]⟩] : Array Value).all (·.oneCell') = true by simp [Value.oneCell'])
      have Hbr := Lib.hid hbr
      by_cases hin : i < n
      · obtain ⟨e, hek⟩ : ∃ e, L[i]? = some e := ⟨_, List.getElem?_eq_getElem (by rw [← Hn.out]; exact hin)⟩
        obtain rfl : e1 = e := by
          rw [List.getElem?_append_left (by rw [← Hn.out]; exact hin), hek] at he1
          injection he1 with he1
          exact he1.symm
        obtain ⟨a2, rfl, hal2, hcs2⟩ := Hc2.out i e1 hek
        have Hu2 := Lib.hid (up a2 e1 hal2 hcs2)
        have HoneE := Lib.hid (chgC_one e1)
        clear hcs1 hcs2 hbr hek up hu1 mid he1
        go_wp2_with (first
          | (go_at_call 44; refine (HM.out ((i : Int) - (n : Int)) wr (by omega)).mono ?_; rintro r w4 ⟨hb4, rfl⟩
             obtain ⟨m1, m2, m3⟩ := Hmid.out w4 hb4
             have M1 := Lib.hid m1
             have M2 := Lib.hid m2
             have M3 := Lib.hid m3
             have Hld := Lib.hid (Hu2.out _ m1)
             have hb6 := (show Below wr.heap.size wr (((w4.alloc (.cells #[.string ⟨#[]⟩, .bool false, .string ⟨#[]⟩, .int .i64 0, .int .i64 0, .string ⟨#[]⟩, .string ⟨#[]⟩] 54)).setRow w4.heap.size #[.string (bs (markI 90 ((i : Int) - (n : Int)))), .bool false, .string ⟨#[]⟩, .int .i64 0, .int .i64 (-7 - 90), .string ⟨#[]⟩, .string ⟨#[]⟩]).setRow w4.heap.size (chgC e1).toArray) from ⟨m1.os, m1.tape, m1.output, (by simpa using m1.size), fun j hj => (setRow_other _ w4.heap.size j _ (by have := hb4.size; omega)).trans (m1.block j hj)⟩)
             have B6 := Lib.hid hb6
             have C6 := Lib.hid (item_cells (cs := chgC e1) (grow_at m3))
             clear hb4 m1 m2 m3 hb6)
          | (refine wpList_store_row rfl _ _ _ rfl w4.heap.size #[.string (bs (markI 90 ((i : Int) - (n : Int)))), .bool false, .string ⟨#[]⟩, .int .i64 0, .int .i64 (-7 - 90), .string ⟨#[]⟩, .string ⟨#[]⟩] rfl rfl 54 _ M2.out (by kernel_rfl) rfl Hone.out ?_
             clear M2)
          | (refine wpList_load_items rfl _ _ rfl (a2.add (i * 7)) rfl [.string e1.p, .bool e1.g, .string e1.e.p, .int .i64 e1.e.k, .int .i64 e1.e.m, .string e1.e.d, .string e1.e.l] _ Hld.out Tryz.underlying54 rfl (by kernel_rfl) ?_)
          | (refine wpList_store_row rfl _ _ _ rfl w4.heap.size (chgC e1).toArray rfl rfl 54 _ M3.out (by kernel_rfl) rfl HoneE.out ?_))
        refine region_still_name2 (by kernel_rfl) (by kernel_rfl) ?_
        intro wz hz
        have hbz : Below wr.heap.size wr wz := by rw [hz]; exact below_drew B6.out
        have hcz : ∀ j v, (chgC e1)[j]? = some v → wz.cell? ((⟨w4.heap.size, 0, none⟩ : Addr).add j) = some v := by rw [hz]; exact C6.out
        have HC1 := Lib.hid (Hu1.out wz hbz)
        have HCZ := Lib.hid hcz
        have Hbz := Lib.hid (Hbr.out.trans (hbz.mono hbs))
        clear hz hbz hcz
        iterate 3 still_step
        refine still_load_at2 rfl _ _ rfl (a1.add (i * 7)) rfl [.string e1.p, .bool e1.g, .string e1.e.p, .int .i64 e1.e.k, .int .i64 e1.e.m, .string e1.e.d, .string e1.e.l] _ HC1.out Tryz.underlying54 rfl (by kernel_rfl) ?_
        refine still_load_at2 rfl _ _ rfl ⟨w4.heap.size, 0, none⟩ rfl [.string e1.p, .bool e1.g, .string e1.e.p, .int .i64 e1.e.k, .int .i64 e1.e.m, .string e1.e.d, .string e1.e.l] _ HCZ.out Tryz.underlying54 rfl (by kernel_rfl) ?_
        still_step
        refine wpStill_nil ?_
        go_wp2
        go_roundw
        case rel => exact ⟨i + 1, by go_num, by omega, Hbz.out⟩
        case measure => simp [intOf]; omega
      · obtain rfl : e1 = markC 90 ((i : Int) - (n : Int)) := by
          rw [List.getElem?_append_right (by rw [← Hn.out]; omega), marksC_get (by rw [← Hn.out]; omega)] at he1
          injection he1 with he1
          rw [← he1, ← Hn.out, show ((i - n : Nat) : Int) = (i : Int) - (n : Int) by omega]
        clear hcs1 hbr up hu1 mid he1
        go_wp2_with (first
          | (go_at_call 44; refine (HM.out ((i : Int) - (n : Int)) wr (by omega)).mono ?_; rintro r w4 ⟨hb4, rfl⟩
             obtain ⟨m1, m2, m3⟩ := Hmid.out w4 hb4
             have B6 := Lib.hid m1
             have M2 := Lib.hid m2
             have C6 := Lib.hid (item_cells (cs := chgC (markC 90 ((i : Int) - (n : Int)))) m3)
             clear hb4 m1 m2 m3)
          | (refine wpList_store_row rfl _ _ _ rfl w4.heap.size #[.string (bs (markI 90 ((i : Int) - (n : Int)))), .bool false, .string ⟨#[]⟩, .int .i64 0, .int .i64 (-7 - 90), .string ⟨#[]⟩, .string ⟨#[]⟩] rfl rfl 54 _ M2.out (by kernel_rfl) rfl Hone.out ?_
             clear M2))
        refine region_still_name2 (by kernel_rfl) (by kernel_rfl) ?_
        intro wz hz
        have hbz : Below wr.heap.size wr wz := by rw [hz]; exact below_drew B6.out
        have hcz : ∀ j v, (chgC (markC 90 ((i : Int) - (n : Int))))[j]? = some v → wz.cell? ((⟨w4.heap.size, 0, none⟩ : Addr).add j) = some v := by rw [hz]; exact C6.out
        have HC1 := Lib.hid (Hu1.out wz hbz)
        have HCZ := Lib.hid hcz
        have Hbz := Lib.hid (Hbr.out.trans (hbz.mono hbs))
        clear hz hbz hcz
        iterate 3 still_step
        refine still_load_at2 rfl _ _ rfl (a1.add (i * 7)) rfl [.string (bs (markI 90 ((i : Int) - (n : Int)))), .bool false, .string ⟨#[]⟩, .int .i64 0, .int .i64 (-7 - 90), .string ⟨#[]⟩, .string ⟨#[]⟩] _ HC1.out Tryz.underlying54 rfl (by kernel_rfl) ?_
        refine still_load_at2 rfl _ _ rfl ⟨w4.heap.size, 0, none⟩ rfl [.string (bs (markI 90 ((i : Int) - (n : Int)))), .bool false, .string ⟨#[]⟩, .int .i64 0, .int .i64 (-7 - 90), .string ⟨#[]⟩, .string ⟨#[]⟩] _ HCZ.out Tryz.underlying54 rfl (by kernel_rfl) ?_
        still_step
        refine wpStill_nil ?_
        go_wp2
        go_roundw
        case rel => exact ⟨i + 1, by go_num, by omega, Hbz.out⟩
        case measure => simp [intOf]; omega
    · obtain rfl : i = n + 16 := by omega
      have Hbr := Lib.hid hbr
      clear hbr
      go_wp2
      go_ret
      exact ⟨rfl, Hbr.out⟩
set_option maxRecDepth 100000 in
set_option maxHeartbeats 1000000 in
theorem keptC_any (va vb : Value) (L : List Chg) (base : Nat) (w : World) (ha : LentC w base va L) (hb : ChgsAt w vb L) (hl : L.length ≤ 1048576) :
    Calls Tryz.prog 23 #[va, vb] w fun r w' => r = .returned (.bool true) ∧ Below w.heap.size w w' := by
  obtain ⟨g, cap, rfl, h1, h2, h3⟩ := ha.whole
  have hk := keptFullC_any _ vb L w h3 hb hl
  obtain ⟨o, cap0, rfl, hlc, hcm, hcells⟩ := hb
  obtain ⟨n, hn⟩ : ∃ n, n = L.length := ⟨_, rfl⟩
  rw [← hn] at hk h1 hl hlc ⊢
  have Hk := Lib.hid hk
  clear hk hn hcells h3 ha
  go_enter Tryz.func23, Tryz.ntmps23
  go_wp2_with (first
    | (go_at_call 53; refine Hk.out.mono ?_; rintro r w1 ⟨rfl, hb1⟩; have Hb1 := Lib.hid hb1; clear hb1))
  go_ret
  exact ⟨rfl, Hb1.out⟩
end
end Go.Proofs.YtipfccfjniglbaaGreatDoor
namespace Go.Proofs.YtipfccfjniglbaaGreatDoor
section
open Go.RowKit Go.Maps Go.Shelf
open Go.Lib hiding intOf size_eq
/-- a region that only reads: the world behind the draw has a name -/
theorem region_still_named5 {P : Program} {id : Nat} {Q : Exit → Act → World → Prop} {a : Act} {w : World} {l : List Oper} (hm : P.follows .mixedOrders = true) (hB : Region.lexB .any l.toArray = true)
    (h : ∀ wz, wz = w.drew → wpStill P l.toArray wz (fun a' => Q .normal a' wz) l a) : (Code.region id l.toArray true).wp P Q a w := wp_region_still_lit hm hB (h _ rfl)
theorem still_load_at5 {P : Program} {ops : Array Oper} {rest : List Oper} {o : Oper} {a : Act} {w : World} {Q : Act → Prop} (hgd : o.guard = none) (ty : TypeId) (x : Operand) (ho : o.op = .load ty x)
    (p : Addr) (hx : a.eval x = .pointer (some p)) (cs : List Value) (d : TypeDesc) (hc : ∀ j v, cs[j]? = some v → w.cell? (p.add j) = some v)
    (hu : P.underlying ty = some d) (hd : (match d with | .struct _ | .array _ _ => true | _ => false) = true) (hi : (P.info? ty).map (·.size) = some cs.length)
    (h : wpStill P ops w Q rest (a.put o.dst (.agg cs.toArray))) : wpStill P ops w Q (o :: rest) a := still_load_at2 hgd ty x ho p hx cs d hc hu hd hi h
theorem gtakeS {α : Type} {L : List α} {k : Nat} {x : α} (h : L[k]? = some x) : L.take (k + 1) = L.take k ++ [x] := by rw [List.take_add_one, h]; rfl
def chgEq (a b : Chg) : Bool := a.p.data.toList == b.p.data.toList && a.g == b.g && entEq a.e b.e
theorem chgEq_iff {a b : Chg} : chgEq a b = true ↔ a = b := by
  obtain ⟨⟨⟨a1⟩⟩, a2, a3⟩ := a
  obtain ⟨⟨⟨b1⟩⟩, b2, b3⟩ := b
  simp [chgEq, entEq_iff, and_assoc]
theorem still_neq {P : Program} {ops : Array Oper} {rest : List Oper} {o : Oper} {a : Act} {w : World} {Q : Act → Prop} (hgd : o.guard = none) (ty t2 : TypeId) (x y : Operand) (ho : o.op = .binOp .neq ty x y t2)
    (xs ys : Array Value) (hx : a.eval x = .agg xs) (hy : a.eval y = .agg ys) (q : Bool) (hm : P.eqGuardType P.depth ty = false) (hr : (binOp .neq ty (.agg xs) (.agg ys)).run P w = .ok (.bool q) w)
    (h : wpStill P ops w Q rest (a.put o.dst (.bool q))) : wpStill P ops w Q (o :: rest) a := by
  refine wpStill_step (fun K hK => ?_)
  rw [if_pos (show Region.wanted o (yielded ops a.tmps) = true by simp [Region.wanted, hgd])]
  unfold Oper.still execOp
  simp only [ho, hx, hy, Sem.run_bind, run_eqGuard_agg w .neq ty x y xs ys hm, Result.andThen_ok, hr, Sem.run_pure]
  exact ⟨rfl, hK _ h⟩
set_option maxRecDepth 100000 in
set_option maxHeartbeats 2000000 in
theorem eqChg (p : ByteArray) (g : Bool) (a : ByteArray) (b c : Int) (d e p2 : ByteArray) (g2 : Bool) (a2 : ByteArray) (b2 c2 : Int) (d2 e2 : ByteArray) (w : World) :
    (Op.equalIn 10000 54 (.agg #[.string p, .bool g, .string a, .int .i64 b, .int .i64 c, .string d, .string e]) (.agg #[.string p2, .bool g2, .string a2, .int .i64 b2, .int .i64 c2, .string d2, .string e2])).run Tryz.prog w = .ok (chgEq ⟨p, g, ⟨a, b, c, d, e⟩⟩ ⟨p2, g2, ⟨a2, b2, c2, d2, e2⟩⟩) w := by
  have hS : Tryz.prog.underlying 54 = some (.struct (Tryz.prog.fieldsOf 54)) := by kernel_rfl
  have hp : Tryz.prog.stoodInHeld 54 = false := by kernel_rfl
  have hSE : Tryz.prog.underlying 52 = some (.struct (Tryz.prog.fieldsOf 52)) := by kernel_rfl
  have hpE : Tryz.prog.stoodInHeld 52 = false := by kernel_rfl
  have hE : ∀ w, (Op.equalIn 9999 52 (.agg #[.string a, .int .i64 b, .int .i64 c, .string d, .string e]) (.agg #[.string a2, .int .i64 b2, .int .i64 c2, .string d2, .string e2])).run Tryz.prog w = .ok (entEq ⟨a, b, c, d, e⟩ ⟨a2, b2, c2, d2, e2⟩) w := fun w => by
    rw [show (9999 : Nat) = 9998 + 1 from rfl, run_equalIn_agg w 9998 52 _ _ hSE hpE]
    simp only [Program.fieldsOf, Tryz.underlying52]
    have u1 := Tryz.underlying9
    have u2 := Tryz.underlying3
    have u3 := Tryz.underlying50
    go_simp
    unfold entEq
    simp only [ByteArray.toList_eq]
    obtain ⟨⟨a⟩⟩ := a
    obtain ⟨⟨d⟩⟩ := d
    obtain ⟨⟨e⟩⟩ := e
    obtain ⟨⟨a2⟩⟩ := a2
    obtain ⟨⟨d2⟩⟩ := d2
    obtain ⟨⟨e2⟩⟩ := e2
    by_cases h1 : a = a2 <;> by_cases h2 : b = b2 <;> by_cases h3 : c = c2 <;> by_cases h4 : d = d2 <;> by_cases h5 : e = e2 <;> simp [h1, h2, h3, h4, h5]
  rw [show (10000 : Nat) = 9999 + 1 from rfl, run_equalIn_agg w 9999 54 _ _ hS hp]
  simp only [Program.fieldsOf, Tryz.underlying54]
  have u1 := Tryz.underlying9
  have u2 := Tryz.underlying4
  have hi : (Tryz.prog.info? 52).map (·.size) = some 5 := by kernel_rfl
  have hp1 : ∀ w, (part 52 #[.string p, .bool g, .string a, .int .i64 b, .int .i64 c, .string d, .string e] 2).run Tryz.prog w = .ok (.agg #[.string a, .int .i64 b, .int .i64 c, .string d, .string e]) w := fun w => by kernel_rfl
  have hp2 : ∀ w, (part 52 #[.string p2, .bool g2, .string a2, .int .i64 b2, .int .i64 c2, .string d2, .string e2] 2).run Tryz.prog w = .ok (.agg #[.string a2, .int .i64 b2, .int .i64 c2, .string d2, .string e2]) w := fun w => by kernel_rfl
  go_simp
  unfold chgEq
  simp only [ByteArray.toList_eq]
  obtain ⟨⟨p⟩⟩ := p
  obtain ⟨⟨p2⟩⟩ := p2
  by_cases h1 : p = p2 <;> by_cases h2 : g = g2 <;> simp [h1, h2, hp1, hp2, hE, Result.andThen]
  generalize entEq _ _ = r
  cases r <;> rfl
theorem neq_chg (x y : Chg) (w : World) : (binOp .neq 54 (.agg #[.string x.p, .bool x.g, .string x.e.p, .int .i64 x.e.k, .int .i64 x.e.m, .string x.e.d, .string x.e.l]) (.agg #[.string y.p, .bool y.g, .string y.e.p, .int .i64 y.e.k, .int .i64 y.e.m, .string y.e.d, .string y.e.l])).run Tryz.prog w = .ok (.bool (!chgEq x y)) w := by
  have h := eqChg x.p x.g x.e.p x.e.k x.e.m x.e.d x.e.l y.p y.g y.e.p y.e.k y.e.m y.e.d y.e.l w
  simp only [binOp]
  simp [Op.equal, Op.maxDepth, h]
set_option maxRecDepth 100000 in
set_option maxHeartbeats 2000000 in
theorem same_ents (va vb : Value) (L M : List Ent) (w : World) (ha : EntsAt w va L) (hb : EntsAt w vb M) (hl : L.length ≤ 1099511627776) (hm : M.length ≤ 1099511627776) :
    Calls Tryz.prog 21 #[va, vb] w fun r w' => Below w.heap.size w w' ∧ ∃ q, r = .returned (.bool q) ∧ (q = true ↔ L = M) := by
  obtain ⟨o1, cap1, rfl, hlc1, hcm1, hcells1⟩ := ha
  obtain ⟨o2, cap2, rfl, hlc2, hcm2, hcells2⟩ := hb
  obtain ⟨n, hn⟩ : ∃ n, n = L.length := ⟨_, rfl⟩
  obtain ⟨m, hmm⟩ : ∃ m, m = M.length := ⟨_, rfl⟩
  rw [← hn] at hlc1 hl ⊢
  rw [← hmm] at hlc2 hm ⊢
  have Hc1 := Lib.hid hcells1
  have Hc2 := Lib.hid hcells2
  by_cases hnm : n = m
  · subst hnm
    have Hn := Lib.hid hn
    have Hm := Lib.hid hmm
    clear hcells1 hcells2 hn hmm
    go_enter Tryz.func21, Tryz.ntmps21
    go_wp2
    go_loopw [5] (fun iv wr => ∃ (k : Nat), iv = .int .i64 (k : Int) ∧ k ≤ n ∧ Below w.heap.size w wr ∧ L.take k = M.take k) (fun iv _ => n - (intOf iv).toNat)
    case atStart => exact ⟨0, rfl, Nat.zero_le _, Below.refl _ _, rfl⟩
    case round =>
      obtain ⟨k, rfl, hk, hbr, htk⟩ := hrel
      have Hbr := Lib.hid hbr
      have Htk := Lib.hid htk
      clear htk
      by_cases hlt : k < n
      · obtain ⟨e, hek⟩ : ∃ e, L[k]? = some e := ⟨_, List.getElem?_eq_getElem (by rw [← Hn.out]; exact hlt)⟩
        obtain ⟨f, hfk⟩ : ∃ f, M[k]? = some f := ⟨_, List.getElem?_eq_getElem (by rw [← Hm.out]; exact hlt)⟩
        obtain ⟨a1, rfl, hal1, hcs1⟩ := Hc1.out k e hek
        obtain ⟨a2, rfl, hal2, hcs2⟩ := Hc2.out k f hfk
        have up : ∀ (a : Addr) (e : Ent), a.block < w.heap.size → (∀ j x, (entC e)[j]? = some x → w.cell? ((a.add (k * 5)).add j) = some x) → ∀ W, Below w.heap.size wr W → ∀ j x, (entC e)[j]? = some x → W.cell? ((a.add (k * 5)).add j) = some x := fun a e hal hcs W hW j x hx => by
          have := hcs j x hx
          unfold World.cell? at this ⊢
          rw [hW.block _ (by rw [add_block, add_block]; have := hbr.size; omega), hbr.block _ (by rw [add_block, add_block]; omega)]
          exact this
        have Hu1 := Lib.hid (up a1 e hal1 hcs1)
        have Hu2 := Lib.hid (up a2 f hal2 hcs2)
        have Hek := Lib.hid hek
        have Hfk := Lib.hid hfk
        clear hcs1 hcs2 hbr hek hfk up
        go_wp2_with fail
        refine region_still_named5 (by kernel_rfl) (by kernel_rfl) ?_
        intro wz hz
        have hbz : Below w.heap.size wr wz := by rw [hz]; exact below_drew (Below.refl _ _)
        have HC1 := Lib.hid (Hu1.out wz hbz)
        have HC2 := Lib.hid (Hu2.out wz hbz)
        have Hbz := Lib.hid (Hbr.out.trans hbz)
        clear hz hbz
        obtain ⟨q, hq⟩ : ∃ q, q = entEq e f := ⟨_, rfl⟩
        have hqs := fun W => neq_ent e f W
        rw [← hq] at hqs
        have Hqs := Lib.hid hqs
        have Hq := Lib.hid hq
        clear hqs hq
        iterate 3 still_step
        refine still_load_at5 rfl _ _ rfl (a1.add (k * 5)) rfl [.string e.p, .int .i64 e.k, .int .i64 e.m, .string e.d, .string e.l] _ HC1.out Tryz.underlying52 rfl (by kernel_rfl) ?_
        iterate 3 still_step
        refine still_load_at5 rfl _ _ rfl (a2.add (k * 5)) rfl [.string f.p, .int .i64 f.k, .int .i64 f.m, .string f.d, .string f.l] _ HC2.out Tryz.underlying52 rfl (by kernel_rfl) ?_
        refine still_neq rfl _ _ _ _ rfl _ _ rfl rfl (!q) (by kernel_rfl) (Hqs.out wz) ?_
        refine wpStill_nil ?_
        cases q with
        | true =>
          go_wp2
          go_roundw
          case rel => exact ⟨k + 1, by go_num, by omega, Hbz.out, by rw [gtakeS Hek.out, gtakeS Hfk.out, Htk.out, entEq_iff.1 Hq.out.symm]⟩
          case measure => simp [intOf]; omega
        | false =>
          go_wp2
          go_ret
          refine ⟨Hbz.out, false, rfl, ⟨fun h => (by cases h), fun h => ?_⟩⟩
          subst h
          have := Hek.out.symm.trans Hfk.out
          injection this with this
          have h2 := entEq_iff.2 this
          rw [← Hq.out] at h2
          cases h2
      · obtain rfl : k = n := by omega
        clear hbr
        go_wp2
        go_ret
        refine ⟨Hbr.out, true, rfl, ⟨fun _ => ?_, fun _ => rfl⟩⟩
        have := Htk.out
        rw [Hn.out, List.take_length, ← Hn.out, Hm.out, List.take_length] at this
        exact this
  · have hne : ¬ (n : Int) = (m : Int) := by omega
    have hfin : L ≠ M := fun h => hnm (by rw [hn, hmm, h])
    have Hfin := Lib.hid hfin
    clear hn hmm hcells1 hcells2 hfin
    go_enter Tryz.func21, Tryz.ntmps21
    go_wp2
    go_ret
    exact ⟨Below.refl _ _, false, rfl, ⟨fun h => (by cases h), fun h => absurd h Hfin.out⟩⟩
set_option maxRecDepth 100000 in
set_option maxHeartbeats 2000000 in
theorem same_chgs (va vb : Value) (L M : List Chg) (w : World) (ha : ChgsAt w va L) (hb : ChgsAt w vb M) (hl : L.length ≤ 1099511627776) (hm : M.length ≤ 1099511627776) :
    Calls Tryz.prog 14 #[va, vb] w fun r w' => Below w.heap.size w w' ∧ ∃ q, r = .returned (.bool q) ∧ (q = true ↔ L = M) := by
  obtain ⟨o1, cap1, rfl, hlc1, hcm1, hcells1⟩ := ha
  obtain ⟨o2, cap2, rfl, hlc2, hcm2, hcells2⟩ := hb
  obtain ⟨n, hn⟩ : ∃ n, n = L.length := ⟨_, rfl⟩
  obtain ⟨m, hmm⟩ : ∃ m, m = M.length := ⟨_, rfl⟩
  rw [← hn] at hlc1 hl ⊢
  rw [← hmm] at hlc2 hm ⊢
  have Hc1 := Lib.hid hcells1
  have Hc2 := Lib.hid hcells2
  by_cases hnm : n = m
  · subst hnm
    have Hn := Lib.hid hn
    have Hm := Lib.hid hmm
    clear hcells1 hcells2 hn hmm
    go_enter Tryz.func14, Tryz.ntmps14
    go_wp2
    go_loopw [5] (fun iv wr => ∃ (k : Nat), iv = .int .i64 (k : Int) ∧ k ≤ n ∧ Below w.heap.size w wr ∧ L.take k = M.take k) (fun iv _ => n - (intOf iv).toNat)
    case atStart => exact ⟨0, rfl, Nat.zero_le _, Below.refl _ _, rfl⟩
    case round =>
      obtain ⟨k, rfl, hk, hbr, htk⟩ := hrel
      have Hbr := Lib.hid hbr
      have Htk := Lib.hid htk
      clear htk
      by_cases hlt : k < n
      · obtain ⟨e, hek⟩ : ∃ e, L[k]? = some e := ⟨_, List.getElem?_eq_getElem (by rw [← Hn.out]; exact hlt)⟩
        obtain ⟨f, hfk⟩ : ∃ f, M[k]? = some f := ⟨_, List.getElem?_eq_getElem (by rw [← Hm.out]; exact hlt)⟩
        obtain ⟨a1, rfl, hal1, hcs1⟩ := Hc1.out k e hek
        obtain ⟨a2, rfl, hal2, hcs2⟩ := Hc2.out k f hfk
        have up : ∀ (a : Addr) (e : Chg), a.block < w.heap.size → (∀ j x, (chgC e)[j]? = some x → w.cell? ((a.add (k * 7)).add j) = some x) → ∀ W, Below w.heap.size wr W → ∀ j x, (chgC e)[j]? = some x → W.cell? ((a.add (k * 7)).add j) = some x := fun a e hal hcs W hW j x hx => by
          have := hcs j x hx
          unfold World.cell? at this ⊢
          rw [hW.block _ (by rw [add_block, add_block]; have := hbr.size; omega), hbr.block _ (by rw [add_block, add_block]; omega)]
          exact this
        have Hu1 := Lib.hid (up a1 e hal1 hcs1)
        have Hu2 := Lib.hid (up a2 f hal2 hcs2)
        have Hek := Lib.hid hek
        have Hfk := Lib.hid hfk
        clear hcs1 hcs2 hbr hek hfk up
        go_wp2_with fail
        refine region_still_named5 (by kernel_rfl) (by kernel_rfl) ?_
        intro wz hz
        have hbz : Below w.heap.size wr wz := by rw [hz]; exact below_drew (Below.refl _ _)
        have HC1 := Lib.hid (Hu1.out wz hbz)
        have HC2 := Lib.hid (Hu2.out wz hbz)
        have Hbz := Lib.hid (Hbr.out.trans hbz)
        clear hz hbz
        obtain ⟨q, hq⟩ : ∃ q, q = chgEq e f := ⟨_, rfl⟩
        have hqs := fun W => neq_chg e f W
        rw [← hq] at hqs
        have Hqs := Lib.hid hqs
        have Hq := Lib.hid hq
        clear hqs hq
        iterate 3 still_step
        refine still_load_at5 rfl _ _ rfl (a1.add (k * 7)) rfl [.string e.p, .bool e.g, .string e.e.p, .int .i64 e.e.k, .int .i64 e.e.m, .string e.e.d, .string e.e.l] _ HC1.out Tryz.underlying54 rfl (by kernel_rfl) ?_
        iterate 3 still_step
        refine still_load_at5 rfl _ _ rfl (a2.add (k * 7)) rfl [.string f.p, .bool f.g, .string f.e.p, .int .i64 f.e.k, .int .i64 f.e.m, .string f.e.d, .string f.e.l] _ HC2.out Tryz.underlying54 rfl (by kernel_rfl) ?_
        refine still_neq rfl _ _ _ _ rfl _ _ rfl rfl (!q) (by kernel_rfl) (Hqs.out wz) ?_
        refine wpStill_nil ?_
        cases q with
        | true =>
          go_wp2
          go_roundw
          case rel => exact ⟨k + 1, by go_num, by omega, Hbz.out, by rw [gtakeS Hek.out, gtakeS Hfk.out, Htk.out, chgEq_iff.1 Hq.out.symm]⟩
          case measure => simp [intOf]; omega
        | false =>
          go_wp2
          go_ret
          refine ⟨Hbz.out, false, rfl, ⟨fun h => (by cases h), fun h => ?_⟩⟩
          subst h
          have := Hek.out.symm.trans Hfk.out
          injection this with this
          have h2 := chgEq_iff.2 this
          rw [← Hq.out] at h2
          cases h2
      · obtain rfl : k = n := by omega
        clear hbr
        go_wp2
        go_ret
        refine ⟨Hbr.out, true, rfl, ⟨fun _ => ?_, fun _ => rfl⟩⟩
        have := Htk.out
        rw [Hn.out, List.take_length, ← Hn.out, Hm.out, List.take_length] at this
        exact this
  · have hne : ¬ (n : Int) = (m : Int) := by omega
    have hfin : L ≠ M := fun h => hnm (by rw [hn, hmm, h])
    have Hfin := Lib.hid hfin
    clear hn hmm hcells1 hcells2 hfin
    go_enter Tryz.func14, Tryz.ntmps14
    go_wp2
    go_ret
    exact ⟨Below.refl _ _, false, rfl, ⟨fun h => (by cases h), fun h => absurd h Hfin.out⟩⟩
end
end Go.Proofs.YtipfccfjniglbaaGreatDoor
