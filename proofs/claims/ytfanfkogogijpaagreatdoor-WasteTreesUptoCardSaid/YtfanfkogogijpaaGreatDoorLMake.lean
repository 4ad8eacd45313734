/- Changes that the statements make; slices that are written out. -/
import Derived.Test.YtfanfkogogijpaaGreatDoorLSort
import Derived.Deep.DeepCutAuto
set_option linter.unusedSimpArgs false
set_option linter.unusedVariables false
set_option exponentiation.threshold 3000
namespace Go.Proofs.YtfanfkogogijpaaGreatDoor
open Go.RowKit Go.Maps
open Go.Lib hiding intOf size_eq
def zer (n : Nat) : List UInt8 := List.replicate n 0
def mkLaid (p : ByteArray) (n : Nat) : WChg := ⟨p, false, p, 2, 420, bs (zer n), ⟨#[]⟩⟩
def mkGone (p : ByteArray) : WChg := ⟨p, true, ⟨#[]⟩, 0, 0, ⟨#[]⟩, ⟨#[]⟩⟩
theorem Tryz.infoB : (Tryz.prog.info? 5).map (fun i => (i.zero, i.size, i.bytes)) = some (some (Value.int .u8 0), 1, 1) := by kernel_rfl
theorem zer_cells (n : Nat) : madeCells #[Value.int .u8 0] n = ((zer n).map (fun b => Value.int .u8 (b.toNat : Int))).toArray := by
  apply Array.ext
  · simp [madeCells, zer]
  · intro i h1 h2
    simp [madeCells, zer, Nat.mod_one]
def chgZ : Array Value := #[.string ⟨#[]⟩, .bool false, .string ⟨#[]⟩, .int .i64 0, .int .i64 0, .string ⟨#[]⟩, .string ⟨#[]⟩]
theorem below_setRow {w W : World} {B b : Nat} (h : Below B w W) (hb : B ≤ b) (cs : Array Value) : Below B w (W.setRow b cs) := ⟨h.os, h.tape, h.output, by simpa using h.size, fun k hk => (setRow_other _ _ k _ (by omega)).trans (h.block k hk)⟩
set_option maxRecDepth 100000 in
set_option maxHeartbeats 1000000 in
theorem laid_any (p : ByteArray) (n : Nat) (hn : n ≤ 1048576) (w : World) :
    Calls Tryz.prog 18 #[.string p, .int .i64 (n : Int)] w fun r w' => r = .returned (.agg (wchgC (mkLaid p n)).toArray) ∧ Below w.heap.size w w' := by
  obtain ⟨iB, hiB, hB0, hB1, hB2⟩ := info_parts Tryz.infoB
  have hmk : ∀ W, (Instr.makeSlice 86 (.int .i64 (n : Int)) (.int .i64 (n : Int))).run Tryz.prog W = .ok (.slice (some ⟨W.heap.size, 0, none⟩) n n) (W.alloc (.cells (madeCells #[.int .u8 0] n) 5)) := fun W => by
    have := run_make (P := Tryz.prog) W 86 5 iB (.int .u8 0) Tryz.underlying86 hiB hB0 .i64 .i64 (n : Int) (n : Int) (by omega) (Int.le_refl _) (by rw [hB2]; omega) (by omega)
    rw [Int.toNat_natCast, hB1, Nat.mul_one] at this
    exact this
  obtain ⟨zs, hz⟩ : ∃ y, y = madeCells #[Value.int .u8 0] n := ⟨_, rfl⟩
  rw [← hz] at hmk
  have hcv : ∀ W : World, (convert 86 9 (.slice (some ⟨W.heap.size, 0, none⟩) n n)).run Tryz.prog (W.alloc (.cells zs 5)) = .ok (.string (bs (zer n))) (W.alloc (.cells zs 5)) := fun W => by
    rw [hz, zer_cells]
    have hl : (zer n).length = n := by simp [zer]
    have := run_convert_bytes_back (P := Tryz.prog) (W.alloc (.cells ((zer n).map (fun b => Value.int .u8 (b.toNat : Int))).toArray 5)) 86 9 5 ⟨W.heap.size, 0, none⟩ n (zer n) Tryz.underlying86 Tryz.underlying5 Tryz.underlying9 (fun j hj => by
      rw [gadd_new, Nat.zero_add]
      refine block_cell (World.alloc_heap_new W _) ?_
      simp [List.getElem?_map, List.getElem?_eq_getElem hj])
    rw [hl] at this
    exact this
  have hcv1 := hcv (w.alloc (.cells #[.string ⟨#[]⟩, .bool false, .string ⟨#[]⟩, .int .i64 0, .int .i64 0, .string ⟨#[]⟩, .string ⟨#[]⟩] 49))
  rw [show (w.alloc (.cells #[.string ⟨#[]⟩, .bool false, .string ⟨#[]⟩, .int .i64 0, .int .i64 0, .string ⟨#[]⟩, .string ⟨#[]⟩] 49)).heap.size = w.heap.size + 1 by simp] at hcv1
  have hrow : ((w.alloc (.cells #[.string ⟨#[]⟩, .bool false, .string ⟨#[]⟩, .int .i64 0, .int .i64 0, .string ⟨#[]⟩, .string ⟨#[]⟩] 49)).alloc (.cells zs 5)).heap[w.heap.size]? = some (.cells #[.string ⟨#[]⟩, .bool false, .string ⟨#[]⟩, .int .i64 0, .int .i64 0, .string ⟨#[]⟩, .string ⟨#[]⟩] 49 (0, 0)) := by
    rw [gheap_old _ _ (by simp)]
    exact World.alloc_heap_new _ _
  have hbl : Below w.heap.size w ((w.alloc (.cells #[.string ⟨#[]⟩, .bool false, .string ⟨#[]⟩, .int .i64 0, .int .i64 0, .string ⟨#[]⟩, .string ⟨#[]⟩] 49)).alloc (.cells zs 5)) := ((Below.refl _ _).alloc (Nat.le_refl _) _).alloc (by simp) _
  have Hrow := Lib.hid hrow
  have Hbl := Lib.hid hbl
  have Hone := Lib.hid (show (#[Value.string p, .bool false, .string p, .int .i64 2, .int .i64 420, .string (bs (zer n)), .string ⟨#[]⟩] : Array Value).all (·.oneCell') = true by simp [Value.oneCell'])
  clear hiB hB0 hB1 hB2 hz hcv hrow hbl
  go_enter Tryz.func18, Tryz.ntmps18
  go_wp2_with (first
    | (refine wpList_store_row rfl _ _ _ rfl w.heap.size #[.string p, .bool false, .string p, .int .i64 2, .int .i64 420, .string (bs (zer n)), .string ⟨#[]⟩] rfl rfl 49 #[.string ⟨#[]⟩, .bool false, .string ⟨#[]⟩, .int .i64 0, .int .i64 0, .string ⟨#[]⟩, .string ⟨#[]⟩] Hrow.out (by kernel_rfl) rfl Hone.out ?_))
  refine bodyPost_ret_by (v := .agg #[.string p, .bool false, .string p, .int .i64 2, .int .i64 420, .string (bs (zer n)), .string ⟨#[]⟩]) ?_ rfl ⟨rfl, below_setRow Hbl.out (Nat.le_refl _) _⟩
  exact results_cell_row rfl _ _ w.heap.size _ _ _ _ rfl (grow_at Hrow.out) Tryz.underlying49 rfl (by kernel_rfl)
/-- a slice that is written out -/
theorem items_of_block {α : Type} {enc : α → List Value} {sz : Nat} (hz : ∀ e, (enc e).length = sz) {W : World} {b : Nat} {T : TypeId} {L : List α} (h : W.heap[b]? = some (.cells (L.flatMap enc).toArray T (0, 0))) (hl : L.length ≤ maxLen) : ItemsAt enc sz W (.slice (some ⟨b, 0, none⟩) L.length L.length) L := by
  refine ⟨_, _, rfl, Nat.le_refl _, hl, fun i e he => ⟨_, rfl, heap_lt h, fun j x hx => ?_⟩⟩
  rw [gadd_new, gadd_new, Nat.zero_add]
  have := gflat_get hz he hx
  refine block_cell h ?_
  simpa using this
theorem lists_of_block {α : Type} {enc : α → List Value} {sz : Nat} {W : World} {b : Nat} {T : TypeId} {vs : List Value} {LL : List (List α)} (h : W.heap[b]? = some (.cells vs.toArray T (0, 0))) (hl : vs.length = LL.length) (hm : LL.length ≤ maxLen) (hv : ∀ (i : Nat) v L, vs[i]? = some v → LL[i]? = some L → ItemsAt enc sz W v L) : ListsAt enc sz W (.slice (some ⟨b, 0, none⟩) LL.length LL.length) LL := by
  refine ⟨_, _, rfl, Nat.le_refl _, hm, fun i L hL => ?_⟩
  have hi : i < vs.length := by rw [hl]; exact (List.getElem?_eq_some_iff.1 hL).1
  refine ⟨_, vs[i], rfl, heap_lt h, ?_, hv i _ L (List.getElem?_eq_getElem hi) hL⟩
  rw [gadd_new, Nat.zero_add]
  refine block_cell h ?_
  simp [hi]
theorem gadd_ne (a : Addr) {m : Nat} (h : m ≠ 0) : a.add m = ⟨a.block, a.off + m, none⟩ := by unfold Addr.add; rw [if_neg h]
/-- a change's cells as the walk writes their addresses -/
theorem chg_cells {W : World} {a : Addr} {c : WChg} (h : ∀ j x, (wchgC c)[j]? = some x → W.cell? (a.add j) = some x) :
    W.cell? a = some (.string c.p) ∧ W.cell? ⟨a.block, a.off + 1, none⟩ = some (.bool c.g) ∧ W.cell? ⟨a.block, a.off + 5, none⟩ = some (.string c.d) := by
  refine ⟨h 0 _ rfl, ?_, ?_⟩
  · rw [← gadd_ne a (by decide)]; exact h 1 _ rfl
  · rw [← gadd_ne a (by decide)]; exact h 5 _ rfl
end Go.Proofs.YtfanfkogogijpaaGreatDoor
