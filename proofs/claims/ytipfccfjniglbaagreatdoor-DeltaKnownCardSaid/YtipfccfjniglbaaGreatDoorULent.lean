/- Lists of entries that are lent with marks in their spare room; whether they were left as they were. -/
import Derived.Test.YtipfccfjniglbaaGreatDoorTOf
import Derived.Deep.MidRow
import Derived.StillTailTactics
import Derived.Laws.StructEq
set_option linter.unusedSimpArgs false
set_option linter.unusedVariables false
namespace Go.Proofs.YtipfccfjniglbaaGreatDoor
open Go.RowKit Go.Maps
open Go.Lib hiding intOf size_eq
def byteI (x : Int) : UInt8 := UInt8.ofNat (x % 256).toNat
theorem byteI_val (x : Int) : ((byteI x).toNat : Int) = x % 256 := by
  unfold byteI
  have h1 := Int.emod_nonneg x (show (256 : Int) ≠ 0 by decide)
  have h2 := Int.emod_lt_of_pos x (show (0 : Int) < 256 by decide)
  simp
  omega
/-- the mark of a place -/
def markI (k i : Int) : List UInt8 := [35, byteI k, byteI (k / 256), byteI i, byteI (i / 256)]
def markE (k i : Int) : Ent := ⟨bs (markI k i), 0, -7 - k, emp, emp⟩
theorem conv_markI (k i : Int) (w : World) : (convert 86 9 (.slice (some ⟨w.heap.size, 0, none⟩) 5 5)).run Tryz.prog (w.alloc (.cells #[.int .u8 35, .int .u8 (k % 256), .int .u8 (k / 256 % 256), .int .u8 (i % 256), .int .u8 (i / 256 % 256)] 5)) =
    .ok (.string (bs (markI k i))) (w.alloc (.cells #[.int .u8 35, .int .u8 (k % 256), .int .u8 (k / 256 % 256), .int .u8 (i % 256), .int .u8 (i / 256 % 256)] 5)) := by
  have e : ((markI k i).map (fun b => Value.int .u8 (b.toNat : Int))).toArray = #[.int .u8 35, .int .u8 (k % 256), .int .u8 (k / 256 % 256), .int .u8 (i % 256), .int .u8 (i / 256 % 256)] := by
    simp only [markI, List.map_cons, List.map_nil, byteI_val]
    rfl
  rw [← e]
  exact run_convert_bytes_back _ _ _ 5 ⟨w.heap.size, 0, none⟩ 5 (markI k i) Tryz.underlying86 Tryz.underlying5 Tryz.underlying9 (fun j hj => by
    have e2 : (⟨w.heap.size, 0, none⟩ : Addr).add j = ⟨w.heap.size, j, none⟩ := by unfold Addr.add; split <;> simp_all
    rw [e2]
    unfold World.cell?
    rw [World.alloc_heap_new]
    simp [List.getElem?_map, List.getElem?_eq_getElem hj])
set_option maxRecDepth 100000 in
set_option maxHeartbeats 1000000 in
theorem markText_int (k i : Int) (w : World) (hk : -1099511627776 ≤ k ∧ k ≤ 1099511627776) (hi : -1099511627776 ≤ i ∧ i ≤ 1099511627776) :
    Calls Tryz.prog 72 #[.int .i64 k, .int .i64 i] w fun r w' => Below w.heap.size w w' ∧ r = .returned (.string (bs (markI k i))) := by
  have hcv := conv_markI k i w
  go_enter Tryz.func72, Tryz.ntmps72
  go_wp2
  go_ret
  exact ⟨(Below.refl _ _).alloc (Nat.le_refl _) _, rfl⟩
set_option maxRecDepth 100000 in
set_option maxHeartbeats 1000000 in
theorem markEnt_any (k i : Int) (w : World) (hk : -1099511627776 ≤ k ∧ k ≤ 1099511627776) (hi : -1099511627776 ≤ i ∧ i ≤ 1099511627776) :
    Calls Tryz.prog 52 #[.int .i64 k, .int .i64 i] w fun r w' => Below w.heap.size w w' ∧ r = .returned (.agg #[.string (bs (markI k i)), .int .i64 0, .int .i64 (-7 - k), .string emp, .string emp]) := by
  have H := Lib.hid (fun W => markText_int k i W hk hi)
  have wr : IntKind.i64.wrap (-7 - k) = -7 - k := by rw [IntKind.wrap_i64]; omega
  have hb0 := World.alloc_heap_new w (.cells #[.string ⟨#[]⟩, .int .i64 0, .int .i64 0, .string ⟨#[]⟩, .string ⟨#[]⟩] 52)
  have hone : (#[Value.string (bs (markI k i)), Value.int .i64 0, Value.int .i64 (-7 - k), Value.string ⟨#[]⟩, Value.string ⟨#[]⟩] : Array Value).all (·.oneCell') = true := by simp [Value.oneCell']
  have HB0 := Lib.hid hb0
  have Hone := Lib.hid hone
  have fin : ∀ w1, Below (w.alloc (.cells #[.string ⟨#[]⟩, .int .i64 0, .int .i64 0, .string ⟨#[]⟩, .string ⟨#[]⟩] 52)).heap.size (w.alloc (.cells #[.string ⟨#[]⟩, .int .i64 0, .int .i64 0, .string ⟨#[]⟩, .string ⟨#[]⟩] 52)) w1 →
      w1.heap[w.heap.size]? = some (.cells #[.string ⟨#[]⟩, .int .i64 0, .int .i64 0, .string ⟨#[]⟩, .string ⟨#[]⟩] 52 (0, 0)) ∧ Below w.heap.size w (w1.setRow w.heap.size #[.string (bs (markI k i)), .int .i64 0, .int .i64 (-7 - k), .string ⟨#[]⟩, .string ⟨#[]⟩]) ∧
      (loadVar 52 ⟨w.heap.size, 0, none⟩).run Tryz.prog (w1.setRow w.heap.size #[.string (bs (markI k i)), .int .i64 0, .int .i64 (-7 - k), .string ⟨#[]⟩, .string ⟨#[]⟩]) = .ok (.agg #[.string (bs (markI k i)), .int .i64 0, .int .i64 (-7 - k), .string ⟨#[]⟩, .string ⟨#[]⟩]) (w1.setRow w.heap.size #[.string (bs (markI k i)), .int .i64 0, .int .i64 (-7 - k), .string ⟨#[]⟩, .string ⟨#[]⟩]) := fun w1 hb => by
    have h1 := (hb.block w.heap.size (by simp)).trans hb0
    have h2 : Below w.heap.size w w1 := ((Below.refl _ _).alloc (Nat.le_refl _) _).trans (hb.mono (by simp))
    refine ⟨h1, ⟨h2.os, h2.tape, h2.output, by simpa using h2.size, fun j hj => (setRow_other w1 w.heap.size j _ (by omega)).trans (h2.block j hj)⟩, ?_⟩
    exact run_loadVar_row _ w.heap.size 52 52 _ (0, 0) _ (setRow_at h1) Tryz.underlying52 rfl (by kernel_rfl)
  have Fin := Lib.hid fin
  clear hb0 hone fin
  go_enter Tryz.func52, Tryz.ntmps52
  go_wp2_with (first
    | (go_at_call 72; refine (H.out _).mono ?_; rintro r w1 ⟨hb, rfl⟩
       obtain ⟨h1, h2, h3⟩ := Fin.out w1 hb
       have H1 := Lib.hid h1
       have H2 := Lib.hid h2
       have H3 := Lib.hid h3
       clear hb h1 h2 h3)
    | (refine wpList_store_row rfl _ _ _ rfl w.heap.size #[.string (bs (markI k i)), .int .i64 0, .int .i64 (-7 - k), .string ⟨#[]⟩, .string ⟨#[]⟩] rfl rfl 52 _ H1.out (by kernel_rfl) rfl Hone.out ?_))
  refine bodyPost_ret_by (v := .agg #[.string (bs (markI k i)), .int .i64 0, .int .i64 (-7 - k), .string ⟨#[]⟩, .string ⟨#[]⟩]) ?_ rfl ⟨H2.out, rfl⟩
  exact results_cell_row rfl _ _ w.heap.size _ _ _ _ rfl (setRow_at H1.out) Tryz.underlying52 rfl (by kernel_rfl)
theorem row_belowE {w w' : World} {base n size : Nat} {e : TypeId} {v : Value} {xs : List Value} (h : w.ownsRow base e size v n xs) (hb : Below w.heap.size w w') : w'.ownsRow base e size v n xs := by
  obtain ⟨h1, h2⟩ := h
  refine ⟨h1, ?_⟩
  rcases h2 with h2 | ⟨g, cap, cur, a, b, c, d⟩
  · exact .inl h2
  · exact .inr ⟨g, cap, cur, a, b, (hb.block g (Array.getElem?_eq_some_iff.1 c).1).trans c, d⟩
def marksE (k : Int) (n : Nat) : List Ent := (List.range n).map fun i => markE k (i : Nat)
theorem marksE_len (k : Int) (n : Nat) : (marksE k n).length = n := by simp [marksE]
theorem marksE_succ (k : Int) (n : Nat) : marksE k (n + 1) = marksE k n ++ [markE k (n : Nat)] := by
  unfold marksE
  rw [List.range_succ, List.map_append]
  rfl
theorem marksE_get {k : Int} {n i : Nat} (h : i < n) : (marksE k n)[i]? = some (markE k (i : Nat)) := by
  unfold marksE
  rw [List.getElem?_map, List.getElem?_range h]
  rfl
set_option maxRecDepth 100000 in
set_option maxHeartbeats 4000000 in
theorem full_entries (v : Value) (L : List Ent) (w : World) (h : EntsAt w v L) (hl : L.length ≤ 1099511627776) :
    Calls Tryz.prog 41 #[v] w fun r w' => ∃ v', r = .returned v' ∧ w'.ownsRow w.heap.size 52 5 v' (L.length + 16) ((L ++ marksE 90 16).flatMap entC) ∧ Below w.heap.size w w' := by
  obtain ⟨i0, hi, hz0, hz1, hz2⟩ := info_parts Tryz.infoEntry
  obtain ⟨o, cap, rfl, hlc, hcm, hcells⟩ := h
  obtain ⟨n, hn⟩ : ∃ n, n = L.length := ⟨_, rfl⟩
  rw [← hn] at hlc hl ⊢
  have Hi := Lib.hid hi
  have Hz0 := Lib.hid hz0
  have Hz1 := Lib.hid hz1
  have Hz2 := Lib.hid hz2
  have Hcells := Lib.hid hcells
  have Hn := Lib.hid hn
  have HM := Lib.hid (fun (i : Int) (W : World) (hi : 0 ≤ i ∧ i ≤ 16) => markEnt_any 90 i W (by omega) (by omega))
  clear hcells hn hi hz0 hz1 hz2
  go_enter Tryz.func41, Tryz.ntmps41
  go_wp2
  go_loopw [3, 4] (fun ov iv wr => ∃ (k : Nat), iv = .int .i64 (k : Int) ∧ k ≤ n ∧ wr.ownsRow w.heap.size 52 5 ov k ((L.take k).flatMap entC) ∧ Below w.heap.size w wr) (fun _ iv _ => n - (intOf iv).toNat)
  case atStart => exact ⟨0, rfl, Nat.zero_le _, World.ownsRow_nil _ _ _ _, Below.refl _ _⟩
  case round =>
    obtain ⟨k, rfl, hk, hrow, hbr⟩ := hrel
    have hbs := hbr.size
    by_cases hlt : k < n
    · obtain ⟨e, hek⟩ : ∃ e, L[k]? = some e := ⟨_, List.getElem?_eq_getElem (by rw [← Hn.out]; exact hlt)⟩
      obtain ⟨a, rfl, hal, hcs⟩ := Hcells.out k e hek
      have hcw : ∀ j x, (entC e)[j]? = some x → wr.cell? ((a.add (k * 5)).add j) = some x := fun j x hx => by
        have := hcs j x hx
        unfold World.cell? at this ⊢
        rw [hbr.block _ (by rw [add_block, add_block]; omega)]
        exact this
      have hnew : ∀ j u, (entC e)[j]? = some u → (wr.alloc (.cells #[.string e.p, .int .i64 e.k, .int .i64 e.m, .string e.d, .string e.l] 52)).cell? ((⟨wr.heap.size, 0, none⟩ : Addr).add j) = some u := ent_cells (World.alloc_heap_new wr _)
      have Hcw := Lib.hid hcw
      have Hnew := Lib.hid hnew
      have Hrow := Lib.hid hrow
      have Hbr := Lib.hid hbr
      have Hstep := Lib.hid (show (L.take k).flatMap entC ++ entC e = (L.take (k + 1)).flatMap entC by rw [← take_step hek, List.flatMap_append, List.flatMap_singleton])
      clear hcw hnew hrow hbr hcs hek
      go_wp2_with (first
        | (refine wpList_load_at rfl _ _ rfl (a.add (k * 5)) rfl [.string e.p, .int .i64 e.k, .int .i64 e.m, .string e.d, .string e.l] _ Hcw.out Tryz.underlying52 rfl (by kernel_rfl) ?_)
        | (at_builtin; go_loud (refine wpList_append_own _ rfl _ _ 22 rfl w.heap.size 52 i0 _ 5 64 Tryz.underlying22 Hi.out Hz0.out Hz1.out Hz2.out rfl (by decide) _ _ _ rfl (Hrow.out.alloc _) ⟨wr.heap.size, 0, none⟩ 1 1 [.string e.p, .int .i64 e.k, .int .i64 e.m, .string e.d, .string e.l] rfl rfl Hnew.out (by simp [Value.oneCell']) (by unfold maxLen; omega) (by omega) (by simp; omega) ?_); intro v' w2 hown' hgrow _))
      go_roundw
      case rel => exact ⟨k + 1, by go_num, by omega, by rw [← Hstep.out]; exact hown', (Hbr.out.alloc (by omega) _).grown hgrow (by simp; omega) (fun k e => (World.ownsRow.lt Hrow.out k e).1)⟩
      case measure => simp [intOf]; omega
    · obtain rfl : k = n := by omega
      have hrow2 : wr.ownsRow w.heap.size 52 5 u3 (k + 0) ((L ++ marksE 90 0).flatMap entC) := by rw [Hn.out, List.take_length, ← Hn.out] at hrow; simpa [marksE] using hrow
      have Hrow2 := Lib.hid hrow2
      have Hbr := Lib.hid hbr
      clear hrow hbr hrow2
      go_wp2_with fail
      obtain ⟨wo, hwo⟩ : ∃ x, x = wr := ⟨_, rfl⟩
      subst hwo
      go_loopw [3, 5] (fun ov iv wr => ∃ (i : Nat), iv = .int .i64 (i : Int) ∧ i ≤ 16 ∧ wr.ownsRow w.heap.size 52 5 ov (k + i) ((L ++ marksE 90 i).flatMap entC) ∧ Below w.heap.size w wr) (fun _ iv _ => 16 - (intOf iv).toNat)
      case atStart => exact ⟨0, rfl, Nat.zero_le _, Hrow2.out, Hbr.out⟩
      case round =>
        obtain ⟨i, rfl, hi, hrow, hbr⟩ := hrel
        have hbs2 := hbr.size
        by_cases hilt : i < 16
        · have hnx : ∀ W, Below wr.heap.size wr W → W.ownsRow w.heap.size 52 5 _ (k + i) ((L ++ marksE 90 i).flatMap entC) ∧ Below w.heap.size w W ∧ w.heap.size ≤ W.heap.size := fun W hW => ⟨row_belowE hrow hW, hbr.trans (hW.mono hbs2), by have := hW.size; omega⟩
          have hstep : (L ++ marksE 90 i).flatMap entC ++ entC (markE 90 (i : Nat)) = (L ++ marksE 90 (i + 1)).flatMap entC := by
            rw [marksE_succ, ← List.append_assoc, List.flatMap_append (ys := [markE 90 (i : Nat)]), List.flatMap_singleton]
          have Hnx := Lib.hid hnx
          have Hstep := Lib.hid hstep
          have Hbr := Lib.hid hbr
          have Hk := Lib.hid hk
          clear hnx hstep hrow hbr
          go_wp2_with (first
            | (go_at_call 52; refine (HM.out i _ (by omega)).mono ?_; rintro r w4 ⟨hb4, rfl⟩
               obtain ⟨d1, d2, d3⟩ := Hnx.out w4 hb4
               have D1 := Lib.hid d1
               have D2 := Lib.hid d2
               have Hnew := Lib.hid (show ∀ j u, (entC (markE 90 (i : Nat)))[j]? = some u → (w4.alloc (.cells #[.string (bs (markI 90 i)), .int .i64 0, .int .i64 (-7 - 90), .string emp, .string emp] 52)).cell? ((⟨w4.heap.size, 0, none⟩ : Addr).add j) = some u from ent_cells (e := markE 90 (i : Nat)) (World.alloc_heap_new w4 _))
               clear hb4 d1 d2)
            | (at_builtin; go_loud (refine wpList_append_own _ rfl _ _ 22 rfl w.heap.size 52 i0 _ 5 64 Tryz.underlying22 Hi.out Hz0.out Hz1.out Hz2.out rfl (by decide) _ _ _ rfl (D1.out.alloc _) ⟨w4.heap.size, 0, none⟩ 1 1 (entC (markE 90 (i : Nat))) rfl rfl Hnew.out (by simp [entC, Value.oneCell']) (by unfold maxLen; omega) (by omega) (by simp; omega) ?_); intro v' w5 hown' hgrow _))
          go_roundw
          case rel => exact ⟨i + 1, by go_num, by omega, by rw [← Hstep.out]; exact hown', (D2.out.alloc d3 _).grown hgrow (by simp; omega) (fun k e => (World.ownsRow.lt D1.out k e).1)⟩
          case measure => simp [intOf]; omega
        · obtain rfl : i = 16 := by omega
          have Hrow := Lib.hid hrow
          have Hbr := Lib.hid hbr
          clear hrow hbr
          go_wp2
          go_ret
          exact ⟨_, rfl, Hrow.out, Hbr.out⟩
/-- a list that is lent: the marks stand in its spare room -/
def LentAt (w : World) (base : Nat) (v : Value) (L : List Ent) : Prop := ∃ g cap, v = .slice (some ⟨g, 0, none⟩) L.length cap ∧ w.ownsRow base 52 5 (.slice (some ⟨g, 0, none⟩) (L.length + 16) cap) (L.length + 16) ((L ++ marksE 90 16).flatMap entC)
theorem LentAt.below {w w' : World} {base B : Nat} {v : Value} {L : List Ent} (h : LentAt w base v L) (hb : Below B w w') (hB : w.heap.size ≤ B) : LentAt w' base v L := by
  obtain ⟨g, cap, h1, h2⟩ := h
  exact ⟨g, cap, h1, row_belowE h2 (hb.mono hB)⟩
theorem full_len (L : List Ent) : (L ++ marksE 90 16).length = L.length + 16 := by rw [List.length_append, marksE_len]
theorem LentAt.whole {w : World} {base : Nat} {v : Value} {L : List Ent} (h : LentAt w base v L) : ∃ g cap, v = .slice (some ⟨g, 0, none⟩) L.length cap ∧ L.length + 16 ≤ cap ∧ cap ≤ maxLen ∧ EntsAt w (.slice (some ⟨g, 0, none⟩) (L.length + 16) cap) (L ++ marksE 90 16) := by
  obtain ⟨g, cap, h1, h2⟩ := h
  rw [← full_len] at h2
  have h3 := ents_of_row h2
  obtain ⟨_, h4⟩ := h2
  rcases h4 with ⟨e, _⟩ | ⟨g2, cap2, cur, e, _, _, hnc, hcm, _⟩
  · cases e
  · injection e with e1 e2 e3
    subst e3
    rw [full_len] at hnc h3
    exact ⟨g, cap, h1, hnc, hcm, h3⟩
theorem LentAt.ents {w : World} {base : Nat} {v : Value} {L : List Ent} (h : LentAt w base v L) : EntsAt w v L := by
  obtain ⟨g, cap, rfl, h1, h2, o, cap2, e, h3, h4, h5⟩ := h.whole
  injection e with e1 e2 e3
  subst e1
  subst e3
  refine ⟨_, cap, rfl, by omega, h2, fun i x hx => ?_⟩
  exact h5 i x (by rw [List.getElem?_append_left (List.getElem?_eq_some_iff.1 hx).1]; exact hx)
set_option maxRecDepth 100000 in
set_option maxHeartbeats 1000000 in
theorem lent_any (v : Value) (L : List Ent) (w : World) (h : EntsAt w v L) (hl : L.length ≤ 1099511627776) :
    Calls Tryz.prog 11 #[v] w fun r w' => ∃ v', r = .returned v' ∧ LentAt w' w.heap.size v' L ∧ Below w.heap.size w w' := by
  have hf := (full_entries v L w h hl).mono (R' := fun r w' => ∃ g cap, r = .returned (.slice (some ⟨g, 0, none⟩) (L.length + 16) cap) ∧ L.length + 16 ≤ cap ∧ cap ≤ maxLen ∧ LentAt w' w.heap.size (.slice (some ⟨g, 0, none⟩) L.length cap) L ∧ Below w.heap.size w w') (fun r w' ⟨v', h1, h2, h3⟩ => by
    have h4 := h2
    obtain ⟨_, h5⟩ := h4
    rcases h5 with ⟨_, h0⟩ | ⟨g, cap, cur, rfl, _, _, hnc, hcm, _⟩
    · omega
    · exact ⟨g, cap, h1, hnc, hcm, ⟨g, cap, rfl, h2⟩, h3⟩)
  obtain ⟨o, cap0, rfl, hlc, hcm, hcells⟩ := h
  obtain ⟨n, hn⟩ : ∃ n, n = L.length := ⟨_, rfl⟩
  rw [← hn] at hf hl hlc ⊢
  have Hf := Lib.hid hf
  clear hf hn hcells
  go_enter Tryz.func11, Tryz.ntmps11
  go_wp2_with (first
    | (go_at_call 41; refine Hf.out.mono ?_; rintro r w1 ⟨g, cap, rfl, h1, h2, h3, h4⟩
       have H3 := Lib.hid h3
       have H4 := Lib.hid h4
       clear h3 h4))
  go_ret
  exact ⟨_, rfl, H3.out, H4.out⟩
theorem region_still_name2 {P : Program} {id : Nat} {Q : Exit → Act → World → Prop} {a : Act} {w : World} {l : List Oper} (hm : P.follows .mixedOrders = true) (hB : Region.lexB .any l.toArray = true)
    (h : ∀ wz, wz = w.drew → wpStill P l.toArray wz (fun a' => Q .normal a' wz) l a) : (Code.region id l.toArray true).wp P Q a w := wp_region_still_lit hm hB (h _ rfl)
theorem still_load_at2 {P : Program} {ops : Array Oper} {rest : List Oper} {o : Oper} {a : Act} {w : World} {Q : Act → Prop} (hgd : o.guard = none) (ty : TypeId) (x : Operand) (ho : o.op = .load ty x)
    (p : Addr) (hx : a.eval x = .pointer (some p)) (cs : List Value) (d : TypeDesc) (hc : ∀ j v, cs[j]? = some v → w.cell? (p.add j) = some v)
    (hu : P.underlying ty = some d) (hd : (match d with | .struct _ | .array _ _ => true | _ => false) = true) (hi : (P.info? ty).map (·.size) = some cs.length)
    (h : wpStill P ops w Q rest (a.put o.dst (.agg cs.toArray))) : wpStill P ops w Q (o :: rest) a := by
  refine wpStill_step (fun K hK => ?_)
  rw [if_pos (show Region.wanted o (yielded ops a.tmps) = true by simp [Region.wanted, hgd])]
  unfold Oper.still execOp
  simp only [ho, hx, Instr.loadAt, Instr.sureAddr, Sem.run_bind, Sem.run_pure, Result.andThen_ok, run_loadVar_at w p ty cs d hc hu hd hi]
  exact ⟨rfl, hK _ h⟩
set_option maxRecDepth 100000 in
set_option maxHeartbeats 4000000 in
theorem keptFull_any (va vb : Value) (L : List Ent) (w : World) (ha : EntsAt w va (L ++ marksE 90 16)) (hb : EntsAt w vb L) (hl : L.length ≤ 1048576) :
    Calls Tryz.prog 45 #[va, vb] w fun r w' => r = .returned (.bool true) ∧ Below w.heap.size w w' := by
  obtain ⟨o1, cap1, rfl, hlc1, hcm1, hcells1⟩ := ha
  obtain ⟨o2, cap2, rfl, hlc2, hcm2, hcells2⟩ := hb
  obtain ⟨n, hn⟩ : ∃ n, n = L.length := ⟨_, rfl⟩
  rw [full_len] at hlc1 ⊢
  rw [← hn] at hlc1 hlc2 hl ⊢
  have Hc1 := Lib.hid hcells1
  have Hc2 := Lib.hid hcells2
  have Hn := Lib.hid hn
  have HM := Lib.hid (fun (i : Int) (W : World) (hi : -1048576 ≤ i ∧ i ≤ 16) => markEnt_any 90 i W (by omega) (by omega))
  clear hcells1 hcells2 hn
  go_enter Tryz.func45, Tryz.ntmps45
  go_wp2_with fail
  go_loopw [5, 6] (fun iv _ wr => ∃ (i : Nat), iv = .int .i64 (i : Int) ∧ i ≤ n + 16 ∧ Below w.heap.size w wr) (fun iv _ _ => n + 16 - (intOf iv).toNat)
  case atStart => exact ⟨0, rfl, Nat.zero_le _, Below.refl _ _⟩
  case round =>
    obtain ⟨i, rfl, hi, hbr⟩ := hrel
    have hbs := hbr.size
    by_cases hlt : i < n + 16
    · obtain ⟨e1, he1⟩ : ∃ e, (L ++ marksE 90 16)[i]? = some e := ⟨_, List.getElem?_eq_getElem (by rw [full_len, ← Hn.out]; exact hlt)⟩
      obtain ⟨a1, rfl, hal1, hcs1⟩ := Hc1.out i e1 he1
      have up : ∀ (a : Addr) (e : Ent), a.block < w.heap.size → (∀ j x, (entC e)[j]? = some x → w.cell? ((a.add (i * 5)).add j) = some x) → ∀ W, Below wr.heap.size wr W → ∀ j x, (entC e)[j]? = some x → W.cell? ((a.add (i * 5)).add j) = some x := fun a e hal hcs W hW j x hx => by
        have := hcs j x hx
        unfold World.cell? at this ⊢
        rw [hW.block _ (by rw [add_block, add_block]; omega), hbr.block _ (by rw [add_block, add_block]; omega)]
        exact this
      have hu1 := up a1 e1 hal1 hcs1
      have mid : ∀ w4, Below wr.heap.size wr w4 → Below wr.heap.size wr ((w4.alloc (.cells #[.string ⟨#[]⟩, .int .i64 0, .int .i64 0, .string ⟨#[]⟩, .string ⟨#[]⟩] 52)).setRow w4.heap.size #[.string (bs (markI 90 ((i : Int) - (n : Int)))), .int .i64 0, .int .i64 (-7 - 90), .string emp, .string emp]) ∧
          (w4.alloc (.cells #[.string ⟨#[]⟩, .int .i64 0, .int .i64 0, .string ⟨#[]⟩, .string ⟨#[]⟩] 52)).heap[w4.heap.size]? = some (.cells #[.string ⟨#[]⟩, .int .i64 0, .int .i64 0, .string ⟨#[]⟩, .string ⟨#[]⟩] 52 (0, 0)) ∧
          ((w4.alloc (.cells #[.string ⟨#[]⟩, .int .i64 0, .int .i64 0, .string ⟨#[]⟩, .string ⟨#[]⟩] 52)).setRow w4.heap.size #[.string (bs (markI 90 ((i : Int) - (n : Int)))), .int .i64 0, .int .i64 (-7 - 90), .string emp, .string emp]).heap[w4.heap.size]? = some (.cells #[.string (bs (markI 90 ((i : Int) - (n : Int)))), .int .i64 0, .int .i64 (-7 - 90), .string emp, .string emp] 52 (0, 0)) := fun w4 hW => by
        have h1 := World.alloc_heap_new w4 (.cells #[.string ⟨#[]⟩, .int .i64 0, .int .i64 0, .string ⟨#[]⟩, .string ⟨#[]⟩] 52)
        refine ⟨?_, h1, setRow_at h1⟩
        have h2 := hW.alloc hW.size (.cells #[.string ⟨#[]⟩, .int .i64 0, .int .i64 0, .string ⟨#[]⟩, .string ⟨#[]⟩] 52)
        exact ⟨h2.os, h2.tape, h2.output, by simpa using h2.size, fun j hj => (setRow_other _ w4.heap.size j _ (by have := hW.size; omega)).trans (h2.block j hj)⟩
      have Hu1 := Lib.hid hu1
      have Hmid := Lib.hid mid
      have Hone := Lib.hid (show (#[Value.string (bs (markI 90 ((i : Int) - (n : Int)))), Value.int .i64 0, Value.int .i64 (-7 - 90), Value.string emp, Value.string emp] : Array Value).all (·.oneCell') = true by simp [Value.oneCell'])
      have Hbr := Lib.hid hbr
      by_cases hin : i < n
      · obtain ⟨e, hek⟩ : ∃ e, L[i]? = some e := ⟨_, List.getElem?_eq_getElem (by rw [← Hn.out]; exact hin)⟩
        obtain rfl : e1 = e := by
          rw [List.getElem?_append_left (by rw [← Hn.out]; exact hin), hek] at he1
          injection he1 with he1
          exact he1.symm
        obtain ⟨a2, rfl, hal2, hcs2⟩ := Hc2.out i e1 hek
        have Hu2 := Lib.hid (up a2 e1 hal2 hcs2)
        have HoneE := Lib.hid (entC_one e1)
        clear hcs1 hcs2 hbr hek up hu1 mid he1
        go_wp2_with (first
          | (go_at_call 52; refine (HM.out ((i : Int) - (n : Int)) wr (by omega)).mono ?_; rintro r w4 ⟨hb4, rfl⟩
             obtain ⟨m1, m2, m3⟩ := Hmid.out w4 hb4
             have M1 := Lib.hid m1
             have M2 := Lib.hid m2
             have M3 := Lib.hid m3
             have Hld := Lib.hid (Hu2.out _ m1)
             have hb6 := (show Below wr.heap.size wr (((w4.alloc (.cells #[.string ⟨#[]⟩, .int .i64 0, .int .i64 0, .string ⟨#[]⟩, .string ⟨#[]⟩] 52)).setRow w4.heap.size #[.string (bs (markI 90 ((i : Int) - (n : Int)))), .int .i64 0, .int .i64 (-7 - 90), .string emp, .string emp]).setRow w4.heap.size (entC e1).toArray) from ⟨m1.os, m1.tape, m1.output, (by simpa using m1.size), fun j hj => (setRow_other _ w4.heap.size j _ (by have := hb4.size; omega)).trans (m1.block j hj)⟩)
             have B6 := Lib.hid hb6
             have C6 := Lib.hid (ent_cells (e := e1) (setRow_at m3))
             clear hb4 m1 m2 m3 hb6)
          | (refine wpList_store_row rfl _ _ _ rfl w4.heap.size #[.string (bs (markI 90 ((i : Int) - (n : Int)))), .int .i64 0, .int .i64 (-7 - 90), .string emp, .string emp] rfl rfl 52 _ M2.out (by kernel_rfl) rfl Hone.out ?_
             clear M2)
          | (refine wpList_load_at rfl _ _ rfl (a2.add (i * 5)) rfl [.string e1.p, .int .i64 e1.k, .int .i64 e1.m, .string e1.d, .string e1.l] _ Hld.out Tryz.underlying52 rfl (by kernel_rfl) ?_)
          | (refine wpList_store_row rfl _ _ _ rfl w4.heap.size (entC e1).toArray rfl rfl 52 _ M3.out (by kernel_rfl) rfl HoneE.out ?_))
        refine region_still_name2 (by kernel_rfl) (by kernel_rfl) ?_
        intro wz hz
        have hbz : Below wr.heap.size wr wz := by rw [hz]; exact below_drew B6.out
        have hcz : ∀ j v, (entC e1)[j]? = some v → wz.cell? ((⟨w4.heap.size, 0, none⟩ : Addr).add j) = some v := by rw [hz]; exact C6.out
        have HC1 := Lib.hid (Hu1.out wz hbz)
        have HCZ := Lib.hid hcz
        have Hbz := Lib.hid (Hbr.out.trans (hbz.mono hbs))
        clear hz hbz hcz
        iterate 3 still_step
        refine still_load_at2 rfl _ _ rfl (a1.add (i * 5)) rfl [.string e1.p, .int .i64 e1.k, .int .i64 e1.m, .string e1.d, .string e1.l] _ HC1.out Tryz.underlying52 rfl (by kernel_rfl) ?_
        refine still_load_at2 rfl _ _ rfl ⟨w4.heap.size, 0, none⟩ rfl [.string e1.p, .int .i64 e1.k, .int .i64 e1.m, .string e1.d, .string e1.l] _ HCZ.out Tryz.underlying52 rfl (by kernel_rfl) ?_
        still_step
        refine wpStill_nil ?_
        go_wp2
        go_roundw
        case rel => exact ⟨i + 1, by go_num, by omega, Hbz.out⟩
        case measure => simp [intOf]; omega
      · obtain rfl : e1 = markE 90 ((i : Int) - (n : Int)) := by
          rw [List.getElem?_append_right (by rw [← Hn.out]; omega), marksE_get (by rw [← Hn.out]; omega)] at he1
          injection he1 with he1
          rw [← he1, ← Hn.out, show ((i - n : Nat) : Int) = (i : Int) - (n : Int) by omega]
        clear hcs1 hbr up hu1 mid he1
        go_wp2_with (first
          | (go_at_call 52; refine (HM.out ((i : Int) - (n : Int)) wr (by omega)).mono ?_; rintro r w4 ⟨hb4, rfl⟩
             obtain ⟨m1, m2, m3⟩ := Hmid.out w4 hb4
             have B6 := Lib.hid m1
             have M2 := Lib.hid m2
             have C6 := Lib.hid (ent_cells (e := markE 90 ((i : Int) - (n : Int))) m3)
             clear hb4 m1 m2 m3)
          | (refine wpList_store_row rfl _ _ _ rfl w4.heap.size #[.string (bs (markI 90 ((i : Int) - (n : Int)))), .int .i64 0, .int .i64 (-7 - 90), .string emp, .string emp] rfl rfl 52 _ M2.out (by kernel_rfl) rfl Hone.out ?_
             clear M2))
        refine region_still_name2 (by kernel_rfl) (by kernel_rfl) ?_
        intro wz hz
        have hbz : Below wr.heap.size wr wz := by rw [hz]; exact below_drew B6.out
        have hcz : ∀ j v, (entC (markE 90 ((i : Int) - (n : Int))))[j]? = some v → wz.cell? ((⟨w4.heap.size, 0, none⟩ : Addr).add j) = some v := by rw [hz]; exact C6.out
        have HC1 := Lib.hid (Hu1.out wz hbz)
        have HCZ := Lib.hid hcz
        have Hbz := Lib.hid (Hbr.out.trans (hbz.mono hbs))
        clear hz hbz hcz
        iterate 3 still_step
        refine still_load_at2 rfl _ _ rfl (a1.add (i * 5)) rfl [.string (bs (markI 90 ((i : Int) - (n : Int)))), .int .i64 0, .int .i64 (-7 - 90), .string emp, .string emp] _ HC1.out Tryz.underlying52 rfl (by kernel_rfl) ?_
        refine still_load_at2 rfl _ _ rfl ⟨w4.heap.size, 0, none⟩ rfl [.string (bs (markI 90 ((i : Int) - (n : Int)))), .int .i64 0, .int .i64 (-7 - 90), .string emp, .string emp] _ HCZ.out Tryz.underlying52 rfl (by kernel_rfl) ?_
        still_step
        refine wpStill_nil ?_
        go_wp2
        go_roundw
        case rel => exact ⟨i + 1, by go_num, by omega, Hbz.out⟩
        case measure => simp [intOf]; omega
    · obtain rfl : i = n + 16 := by omega
      have Hbr := Lib.hid hbr
      clear hbr
      go_wp2
      go_ret
      exact ⟨rfl, Hbr.out⟩
set_option maxRecDepth 100000 in
set_option maxHeartbeats 1000000 in
theorem kept_any (va vb : Value) (L : List Ent) (base : Nat) (w : World) (ha : LentAt w base va L) (hb : EntsAt w vb L) (hl : L.length ≤ 1048576) :
    Calls Tryz.prog 16 #[va, vb] w fun r w' => r = .returned (.bool true) ∧ Below w.heap.size w w' := by
  obtain ⟨g, cap, rfl, h1, h2, h3⟩ := ha.whole
  have hk := keptFull_any _ vb L w h3 hb hl
  obtain ⟨o, cap0, rfl, hlc, hcm, hcells⟩ := hb
  obtain ⟨n, hn⟩ : ∃ n, n = L.length := ⟨_, rfl⟩
  rw [← hn] at hk h1 hl hlc ⊢
  have Hk := Lib.hid hk
  clear hk hn hcells h3 ha
  go_enter Tryz.func16, Tryz.ntmps16
  go_wp2_with (first
    | (go_at_call 45; refine Hk.out.mono ?_; rintro r w1 ⟨rfl, hb1⟩; have Hb1 := Lib.hid hb1; clear hb1))
  go_ret
  exact ⟨rfl, Hb1.out⟩
end Go.Proofs.YtipfccfjniglbaaGreatDoor
