/- The walk of WasteKnown. -/
import Derived.Test.YtebniijkhjnbdaaLKnownA
import Derived.Test.YtebniijkhjnbdaaGInv
set_option linter.unusedSimpArgs false
set_option linter.unusedVariables false
set_option exponentiation.threshold 3000
namespace Go.Proofs.Ytebniijkhjnbdaa
open Go.RowKit Go.Maps
open Go.Lib hiding intOf size_eq

def AllB (W : World) : List (Nat × Obj) → Prop
  | [] => True
  | x :: l => W.heap[x.1]? = some x.2 ∧ AllB W l
def AllC (W : World) : List (Addr × Value) → Prop
  | [] => True
  | x :: l => W.cell? x.1 = some x.2 ∧ AllC W l
theorem AllB.below {w W : World} (hb : Below w.heap.size w W) : ∀ {l : List (Nat × Obj)}, AllB w l → AllB W l
  | [], _ => trivial
  | x :: l, h => ⟨cell_grown_B hb h.1, AllB.below hb h.2⟩
theorem AllC.below {w W : World} (hb : Below w.heap.size w W) : ∀ {l : List (Addr × Value)}, AllC w l → AllC W l
  | [], _ => trivial
  | x :: l, h => ⟨(hb.cell (p := x.1) (World.block_lt_of_cell? w x.1 h.1)).trans h.1, AllC.below hb h.2⟩
/-- where a walk stands: what was there is there; blocks, cells that are known -/
structure St (w0 W : World) (lb : List (Nat × Obj)) (lc : List (Addr × Value)) : Prop where
  bel : Below w0.heap.size w0 W
  blk : AllB W lb
  cel : AllC W lc
section
variable {w0 W W' : World} {lb : List (Nat × Obj)} {lc : List (Addr × Value)}
theorem St.start (w : World) : St w w [] [] := ⟨Below.refl _ _, trivial, trivial⟩
theorem St.call (h : St w0 W lb lc) (hb : Below W.heap.size W W') : St w0 W' lb lc := ⟨h.bel.trans (hb.mono h.bel.size), h.blk.below hb, h.cel.below hb⟩
theorem St.alloc (h : St w0 W lb lc) (cs : Array Value) (T : TypeId) : St w0 (W.alloc (.cells cs T)) ((W.heap.size, .cells cs T (0, 0)) :: lb) lc := by
  have hb := (Below.refl W.heap.size W).alloc (Nat.le_refl _) (.cells cs T)
  exact ⟨h.bel.alloc h.bel.size _, ⟨World.alloc_heap_new W _, h.blk.below hb⟩, h.cel.below hb⟩
theorem St.cell (h : St w0 W lb lc) {a : Addr} {v : Value} (hc : W.cell? a = some v) : St w0 W lb ((a, v) :: lc) := ⟨h.bel, h.blk, hc, h.cel⟩
theorem St.drop (h : St w0 W lb lc) : St w0 W [] lc := ⟨h.bel, trivial, h.cel⟩
theorem St.drew (h : St w0 W lb lc) : St w0 W.drew lb lc := h.call (below_drew (Below.refl _ _))
theorem St.waste (h : St w0 W lb lc) (v0 v1 v2 v3 v4 v5 : Value) (T : TypeId) : St w0 (W.alloc (.cells #[v0, v1, v2, v3, v4, v5] T)) [] ((⟨W.heap.size, 0, none⟩, v0) :: (⟨W.heap.size, 1, none⟩, v1) :: (⟨W.heap.size, 2, none⟩, v2) :: (⟨W.heap.size, 3, none⟩, v3) :: (⟨W.heap.size, 4, none⟩, v4) :: (⟨W.heap.size, 5, none⟩, v5) :: lc) := by
  have hb := (Below.refl W.heap.size W).alloc (Nat.le_refl _) (.cells #[v0, v1, v2, v3, v4, v5] T)
  have hn := World.alloc_heap_new W (.cells #[v0, v1, v2, v3, v4, v5] T)
  exact ⟨h.bel.alloc h.bel.size _, trivial, block_cell hn rfl, block_cell hn rfl, block_cell hn rfl, block_cell hn rfl, block_cell hn rfl, block_cell hn rfl, h.cel.below hb⟩
theorem AllB.head {x : Nat × Obj} (h : AllB W (x :: lb)) : W.heap[x.1]? = some x.2 := h.1
theorem AllB.tail {x : Nat × Obj} (h : AllB W (x :: lb)) : AllB W lb := h.2
theorem AllC.head {x : Addr × Value} (h : AllC W (x :: lc)) : W.cell? x.1 = some x.2 := h.1
theorem AllC.tail {x : Addr × Value} (h : AllC W (x :: lc)) : AllC W lc := h.2
theorem size_alloc1 (w : World) (C : Obj) : (w.alloc C).heap.size = w.heap.size + 1 := by simp
end
theorem act_open {P : Program} {c : Code} {Q : Exit → Act → World → Prop} {a : Act} {w : World} (h : ∀ a0, a0 = a → c.wp P Q a0 w) : c.wp P Q a w := h a rfl
theorem cell_setRow_ne (w : World) (b : Nat) (cs : Array Value) {g : Nat} (h : g ≠ b) (j : Nat) : (w.setRow b cs).cell? ⟨g, j, none⟩ = w.cell? ⟨g, j, none⟩ := by
  unfold World.cell?
  rw [setRow_other _ _ g _ (by omega)]
/-- the slots of the region's operations -/
def dKn : Nat → Nat
  | 0 => 43
  | 1 => 44
  | 2 => 45
  | 3 => 46
  | 4 => 47
  | 5 => 48
  | 6 => 49
  | 7 => 50
  | 8 => 51
  | 9 => 52
  | 10 => 53
  | 11 => 54
  | 12 => 7
  | _ => 0
/-- what each operation of the region lays -/
def PVF (z1 z4 : ByteArray) (B : Nat) : Nat → Value → World → Prop
  | 0, v, _ => v = .agg #[.string ⟨#[113]⟩, .bool true, .string ⟨#[]⟩, .int .i64 0, .int .i64 0, .string ⟨#[120, 121, 122]⟩, .string ⟨#[]⟩]
  | 1, v, _ => v = .agg #[.string ⟨#[111, 116, 104, 101, 114]⟩, .int .i64 0, .int .i64 0, .string ⟨#[49, 50]⟩, .string ⟨#[]⟩]
  | 2, v, _ => v = .agg #[.string ⟨#[112]⟩, .bool false, .string ⟨#[111, 116, 104, 101, 114]⟩, .int .i64 0, .int .i64 0, .string ⟨#[49, 50]⟩, .string ⟨#[]⟩]
  | 3, v, _ => v = .agg #[.string ⟨#[112]⟩, .bool false, .string ⟨#[112]⟩, .int .i64 2, .int .i64 420, .string z1, .string ⟨#[]⟩]
  | 4, v, w => ∃ b, v = .slice (some ⟨b, 0, none⟩) 3 3 ∧ w.heap[b]? = some (.cells #[.string ⟨#[113]⟩, .bool true, .string ⟨#[]⟩, .int .i64 0, .int .i64 0, .string ⟨#[120, 121, 122]⟩, .string ⟨#[]⟩, .string ⟨#[112]⟩, .bool false, .string ⟨#[111, 116, 104, 101, 114]⟩, .int .i64 0, .int .i64 0, .string ⟨#[49, 50]⟩, .string ⟨#[]⟩, .string ⟨#[112]⟩, .bool false, .string ⟨#[112]⟩, .int .i64 2, .int .i64 420, .string z1, .string ⟨#[]⟩] 43 (0, 0))
  | 5, v, _ => v = .agg #[.string ⟨#[112, 47]⟩, .bool true, .string ⟨#[]⟩, .int .i64 0, .int .i64 0, .string ⟨#[]⟩, .string ⟨#[]⟩]
  | 6, v, _ => v = .agg #[.string ⟨#[97, 112]⟩, .bool true, .string ⟨#[]⟩, .int .i64 0, .int .i64 0, .string ⟨#[]⟩, .string ⟨#[]⟩]
  | 7, v, _ => v = .agg #[.string ⟨#[112, 47, 120]⟩, .bool false, .string ⟨#[112, 47, 120]⟩, .int .i64 2, .int .i64 420, .string z4, .string ⟨#[]⟩]
  | 8, v, _ => v = .agg #[.string ⟨#[112]⟩, .bool true, .string ⟨#[]⟩, .int .i64 0, .int .i64 0, .string ⟨#[]⟩, .string ⟨#[]⟩]
  | 9, v, w => ∃ b, v = .slice (some ⟨b, 0, none⟩) 4 4 ∧ w.heap[b]? = some (.cells #[.string ⟨#[112, 47]⟩, .bool true, .string ⟨#[]⟩, .int .i64 0, .int .i64 0, .string ⟨#[]⟩, .string ⟨#[]⟩, .string ⟨#[97, 112]⟩, .bool true, .string ⟨#[]⟩, .int .i64 0, .int .i64 0, .string ⟨#[]⟩, .string ⟨#[]⟩, .string ⟨#[112, 47, 120]⟩, .bool false, .string ⟨#[112, 47, 120]⟩, .int .i64 2, .int .i64 420, .string z4, .string ⟨#[]⟩, .string ⟨#[112]⟩, .bool true, .string ⟨#[]⟩, .int .i64 0, .int .i64 0, .string ⟨#[]⟩, .string ⟨#[]⟩] 43 (0, 0))
  | 10, v, w => ∃ b b1 b2, v = .slice (some ⟨b, 0, none⟩) 2 2 ∧ w.heap[b]? = some (.cells #[.slice (some ⟨b1, 0, none⟩) 3 3, .slice (some ⟨b2, 0, none⟩) 4 4] 38 (0, 0)) ∧ w.heap[b1]? = some (.cells #[.string ⟨#[113]⟩, .bool true, .string ⟨#[]⟩, .int .i64 0, .int .i64 0, .string ⟨#[120, 121, 122]⟩, .string ⟨#[]⟩, .string ⟨#[112]⟩, .bool false, .string ⟨#[111, 116, 104, 101, 114]⟩, .int .i64 0, .int .i64 0, .string ⟨#[49, 50]⟩, .string ⟨#[]⟩, .string ⟨#[112]⟩, .bool false, .string ⟨#[112]⟩, .int .i64 2, .int .i64 420, .string z1, .string ⟨#[]⟩] 43 (0, 0)) ∧ w.heap[b2]? = some (.cells #[.string ⟨#[112, 47]⟩, .bool true, .string ⟨#[]⟩, .int .i64 0, .int .i64 0, .string ⟨#[]⟩, .string ⟨#[]⟩, .string ⟨#[97, 112]⟩, .bool true, .string ⟨#[]⟩, .int .i64 0, .int .i64 0, .string ⟨#[]⟩, .string ⟨#[]⟩, .string ⟨#[112, 47, 120]⟩, .bool false, .string ⟨#[112, 47, 120]⟩, .int .i64 2, .int .i64 420, .string z4, .string ⟨#[]⟩, .string ⟨#[112]⟩, .bool true, .string ⟨#[]⟩, .int .i64 0, .int .i64 0, .string ⟨#[]⟩, .string ⟨#[]⟩] 43 (0, 0))
  | 11, v, w => ∃ g c, v = .agg #[.int .i64 7, .int .i64 0, .float .f64 0, .float .f64 4615063718147915776, .float .f64 4602678819172646912, .slice (some ⟨g, 0, none⟩) 2 c] ∧ 2 ≤ c ∧ c ≤ maxLen ∧ w.cell? ⟨g, 0, none⟩ = some (.string ⟨#[112, 47, 120]⟩) ∧ w.cell? ⟨g, 1, none⟩ = some (.int .i64 1) ∧ w.cell? ⟨g, 2, none⟩ = some (.int .i64 4) ∧ w.cell? ⟨g, 3, none⟩ = some (.string ⟨#[112]⟩) ∧ w.cell? ⟨g, 4, none⟩ = some (.int .i64 2) ∧ w.cell? ⟨g, 5, none⟩ = some (.int .i64 3)
  | 12, v, w => ∃ b, v = .pointer (some ⟨b, 0, none⟩) ∧ B ≤ b ∧ w.heap[b]? = some (.cells #[.int .i64 0, .int .i64 0, .float .f64 0, .float .f64 0, .float .f64 0, .slice none 0 0] 27 (0, 0))
  | _, _, _ => True
def FinF (a : Act) (w : World) : Prop := ∃ b g c, a.tmps[7]?.getD undef = .pointer (some ⟨b, 0, none⟩) ∧ w.heap[b]? = some (.cells #[.int .i64 7, .int .i64 0, .float .f64 0, .float .f64 4615063718147915776, .float .f64 4602678819172646912, .slice (some ⟨g, 0, none⟩) 2 c] 27 (0, 0)) ∧ 2 ≤ c ∧ c ≤ maxLen ∧ w.cell? ⟨g, 0, none⟩ = some (.string ⟨#[112, 47, 120]⟩) ∧ w.cell? ⟨g, 1, none⟩ = some (.int .i64 1) ∧ w.cell? ⟨g, 2, none⟩ = some (.int .i64 4) ∧ w.cell? ⟨g, 3, none⟩ = some (.string ⟨#[112]⟩) ∧ w.cell? ⟨g, 4, none⟩ = some (.int .i64 2) ∧ w.cell? ⟨g, 5, none⟩ = some (.int .i64 3)
theorem PVF_mono {z1 z4 : ByteArray} {B : Nat} {w w' : World} (hb : Below w.heap.size w w') : ∀ (j : Nat) (u : Value), PVF z1 z4 B j u w → PVF z1 z4 B j u w'
  | 0, _, h => h
  | 1, _, h => h
  | 2, _, h => h
  | 3, _, h => h
  | 4, _, ⟨b, h1, h2⟩ => ⟨b, h1, cell_grown_B hb h2⟩
  | 5, _, h => h
  | 6, _, h => h
  | 7, _, h => h
  | 8, _, h => h
  | 9, _, ⟨b, h1, h2⟩ => ⟨b, h1, cell_grown_B hb h2⟩
  | 10, _, ⟨b, b1, b2, h1, h2, h3, h4⟩ => ⟨b, b1, b2, h1, cell_grown_B hb h2, cell_grown_B hb h3, cell_grown_B hb h4⟩
  | 11, _, ⟨g, c, h1, h2, h3, e0, e1, e2, e3, e4, e5⟩ => ⟨g, c, h1, h2, h3, (hb.cell (World.block_lt_of_cell? w _ e0)).trans e0, (hb.cell (World.block_lt_of_cell? w _ e1)).trans e1, (hb.cell (World.block_lt_of_cell? w _ e2)).trans e2, (hb.cell (World.block_lt_of_cell? w _ e3)).trans e3, (hb.cell (World.block_lt_of_cell? w _ e4)).trans e4, (hb.cell (World.block_lt_of_cell? w _ e5)).trans e5⟩
  | 12, _, ⟨b, h1, h2, h3⟩ => ⟨b, h1, h2, cell_grown_B hb h3⟩
  | _ + 13, _, _ => trivial
attribute [local irreducible] wpStill AllB AllC
set_option maxRecDepth 100000 in
set_option maxHeartbeats 16000000 in
theorem wasteKnown_any (w : World) : Calls Try.prog 6 #[] w fun r w' => r = .returned (.bool true) ∧ Below w.heap.size w w' := by
  obtain ⟨z1, hz1⟩ : ∃ y, y = bs (zer 1) := ⟨_, rfl⟩
  obtain ⟨z3, hz3⟩ : ∃ y, y = bs (zer 3) := ⟨_, rfl⟩
  obtain ⟨z4, hz4⟩ : ∃ y, y = bs (zer 4) := ⟨_, rfl⟩
  obtain ⟨z5, hz5⟩ : ∃ y, y = bs (zer 5) := ⟨_, rfl⟩
  have L1 := Lib.hid (show ∀ W, Calls Try.prog 17 #[.string ⟨#[97, 47, 98]⟩, .int .i64 3] W fun r w' => r = .returned (.agg #[.string ⟨#[97, 47, 98]⟩, .bool false, .string ⟨#[97, 47, 98]⟩, .int .i64 2, .int .i64 420, .string z3, .string ⟨#[]⟩]) ∧ Below W.heap.size W w' by rw [hz3]; exact laid_any ⟨#[97, 47, 98]⟩ 3 (by decide))
  have L2 := Lib.hid (show ∀ W, Calls Try.prog 17 #[.string ⟨#[99]⟩, .int .i64 1] W fun r w' => r = .returned (.agg #[.string ⟨#[99]⟩, .bool false, .string ⟨#[99]⟩, .int .i64 2, .int .i64 420, .string z1, .string ⟨#[]⟩]) ∧ Below W.heap.size W w' by rw [hz1]; exact laid_any ⟨#[99]⟩ 1 (by decide))
  have L3 := Lib.hid (show ∀ W, Calls Try.prog 17 #[.string ⟨#[97]⟩, .int .i64 5] W fun r w' => r = .returned (.agg #[.string ⟨#[97]⟩, .bool false, .string ⟨#[97]⟩, .int .i64 2, .int .i64 420, .string z5, .string ⟨#[]⟩]) ∧ Below W.heap.size W w' by rw [hz5]; exact laid_any ⟨#[97]⟩ 5 (by decide))
  have L4 := Lib.hid (show ∀ W, Calls Try.prog 17 #[.string ⟨#[98]⟩, .int .i64 1] W fun r w' => r = .returned (.agg #[.string ⟨#[98]⟩, .bool false, .string ⟨#[98]⟩, .int .i64 2, .int .i64 420, .string z1, .string ⟨#[]⟩]) ∧ Below W.heap.size W w' by rw [hz1]; exact laid_any ⟨#[98]⟩ 1 (by decide))
  have L5 := Lib.hid (show ∀ W, Calls Try.prog 17 #[.string ⟨#[97, 46, 120]⟩, .int .i64 1] W fun r w' => r = .returned (.agg #[.string ⟨#[97, 46, 120]⟩, .bool false, .string ⟨#[97, 46, 120]⟩, .int .i64 2, .int .i64 420, .string z1, .string ⟨#[]⟩]) ∧ Below W.heap.size W w' by rw [hz1]; exact laid_any ⟨#[97, 46, 120]⟩ 1 (by decide))
  have L6 := Lib.hid (show ∀ W, Calls Try.prog 17 #[.string ⟨#[97, 47, 121]⟩, .int .i64 1] W fun r w' => r = .returned (.agg #[.string ⟨#[97, 47, 121]⟩, .bool false, .string ⟨#[97, 47, 121]⟩, .int .i64 2, .int .i64 420, .string z1, .string ⟨#[]⟩]) ∧ Below W.heap.size W w' by rw [hz1]; exact laid_any ⟨#[97, 47, 121]⟩ 1 (by decide))
  have L7 := Lib.hid (show ∀ W, Calls Try.prog 17 #[.string ⟨#[112]⟩, .int .i64 1] W fun r w' => r = .returned (.agg #[.string ⟨#[112]⟩, .bool false, .string ⟨#[112]⟩, .int .i64 2, .int .i64 420, .string z1, .string ⟨#[]⟩]) ∧ Below W.heap.size W w' by rw [hz1]; exact laid_any ⟨#[112]⟩ 1 (by decide))
  have L8 := Lib.hid (show ∀ W, Calls Try.prog 17 #[.string ⟨#[112, 47, 120]⟩, .int .i64 4] W fun r w' => r = .returned (.agg #[.string ⟨#[112, 47, 120]⟩, .bool false, .string ⟨#[112, 47, 120]⟩, .int .i64 2, .int .i64 420, .string z4, .string ⟨#[]⟩]) ∧ Below W.heap.size W w' by rw [hz4]; exact laid_any ⟨#[112, 47, 120]⟩ 4 (by decide))
  have G1 := Lib.hid (show ∀ W, Calls Try.prog 18 #[.string ⟨#[97]⟩] W fun r w' => r = .returned (.agg #[.string ⟨#[97]⟩, .bool true, .string ⟨#[]⟩, .int .i64 0, .int .i64 0, .string ⟨#[]⟩, .string ⟨#[]⟩]) ∧ Below W.heap.size W w' from gone_any ⟨#[97]⟩)
  have G2 := Lib.hid (show ∀ W, Calls Try.prog 18 #[.string ⟨#[122]⟩] W fun r w' => r = .returned (.agg #[.string ⟨#[122]⟩, .bool true, .string ⟨#[]⟩, .int .i64 0, .int .i64 0, .string ⟨#[]⟩, .string ⟨#[]⟩]) ∧ Below W.heap.size W w' from gone_any ⟨#[122]⟩)
  have G3 := Lib.hid (show ∀ W, Calls Try.prog 18 #[.string ⟨#[]⟩] W fun r w' => r = .returned (.agg #[.string ⟨#[]⟩, .bool true, .string ⟨#[]⟩, .int .i64 0, .int .i64 0, .string ⟨#[]⟩, .string ⟨#[]⟩]) ∧ Below W.heap.size W w' from gone_any ⟨#[]⟩)
  have G4 := Lib.hid (show ∀ W, Calls Try.prog 18 #[.string ⟨#[112, 47]⟩] W fun r w' => r = .returned (.agg #[.string ⟨#[112, 47]⟩, .bool true, .string ⟨#[]⟩, .int .i64 0, .int .i64 0, .string ⟨#[]⟩, .string ⟨#[]⟩]) ∧ Below W.heap.size W w' from gone_any ⟨#[112, 47]⟩)
  have G5 := Lib.hid (show ∀ W, Calls Try.prog 18 #[.string ⟨#[97, 112]⟩] W fun r w' => r = .returned (.agg #[.string ⟨#[97, 112]⟩, .bool true, .string ⟨#[]⟩, .int .i64 0, .int .i64 0, .string ⟨#[]⟩, .string ⟨#[]⟩]) ∧ Below W.heap.size W w' from gone_any ⟨#[97, 112]⟩)
  have G6 := Lib.hid (show ∀ W, Calls Try.prog 18 #[.string ⟨#[112]⟩] W fun r w' => r = .returned (.agg #[.string ⟨#[112]⟩, .bool true, .string ⟨#[]⟩, .int .i64 0, .int .i64 0, .string ⟨#[]⟩, .string ⟨#[]⟩]) ∧ Below W.heap.size W w' from gone_any ⟨#[112]⟩)
  have Gq := Lib.hid (show ∀ W, Calls Try.prog 18 #[.string ⟨#[113]⟩] W fun r w' => r = .returned (.agg #[.string ⟨#[113]⟩, .bool true, .string ⟨#[]⟩, .int .i64 0, .int .i64 0, .string ⟨#[]⟩, .string ⟨#[]⟩]) ∧ Below W.heap.size W w' from gone_any ⟨#[113]⟩)
  have AtC := Lib.hid (fun W => exC_at hz1 hz3 W)
  have AtD := Lib.hid (fun W => exD_at hz5 W)
  have AtE := Lib.hid (fun W => exE_at hz1 W)
  have AtF := Lib.hid (fun W => exF_at hz1 hz4 W)
  clear hz1 hz3 hz4 hz5
  have hsf := fun (x : Addr) (b : Nat) (m : Mode) (W : World) => run_store Try.prog W x (.float .f64 b) m rfl
  have HW := Lib.hid works_any
  have S0 := Lib.hid (St.start w)
  go_enter Try.func6, Try.ntmps6
  go_wp2_with fail
  refine (nil_look _).mono ?_
  rintro r w1 ⟨mA, pA, oA, cA, rfl, nA, nP, hb⟩
  have NA := Lib.hid nA
  have NP := Lib.hid nP
  clear nA nP
  have S1 := Lib.hid (S0.out.call hb)
  clear S0
  clear hb
  go_upto_region 2 with fail
  have hs := S1.out.waste (.int .i64 0) (.int .i64 0) (.float .f64 4607182418800017408) (.float .f64 mA) (.float .f64 pA) (.slice oA 0 cA) 27
  obtain ⟨w2, hw⟩ : ∃ y, y = w1.alloc (.cells #[.int .i64 0, .int .i64 0, .float .f64 4607182418800017408, .float .f64 mA, .float .f64 pA, .slice oA 0 cA] 27) := ⟨_, rfl⟩
  rw [← hw] at hs ⊢
  obtain ⟨bA, hb⟩ : ∃ y, y = w1.heap.size := ⟨_, rfl⟩
  rw [← hb] at hs ⊢
  have S2 := Lib.hid hs
  clear hs hw hb S1
  go_wp2_with fail
  have hd := exB_at _ _ (S2.out.alloc #[.slice none 0 0] 38).blk.head
  refine (exB_look _ _ hd).mono ?_
  rintro r w3 ⟨oB, cB, rfl, hb⟩
  have S3 := Lib.hid (((S2.out.alloc #[.slice none 0 0] 38).call hb).drop)
  clear S2
  clear hb hd
  go_upto_region 3 with fail
  have hs := S3.out.waste (.int .i64 0) (.int .i64 0) (.float .f64 4607182418800017408) (.float .f64 0) (.float .f64 0) (.slice oB 0 cB) 27
  obtain ⟨w4, hw⟩ : ∃ y, y = w3.alloc (.cells #[.int .i64 0, .int .i64 0, .float .f64 4607182418800017408, .float .f64 0, .float .f64 0, .slice oB 0 cB] 27) := ⟨_, rfl⟩
  rw [← hw] at hs ⊢
  obtain ⟨bB, hb⟩ : ∃ y, y = w3.heap.size := ⟨_, rfl⟩
  rw [← hb] at hs ⊢
  have S4 := Lib.hid hs
  clear hs hw hb S3
  go_wp2_with fail
  refine (L1.out _).mono ?_
  rintro r w5 ⟨rfl, hb⟩
  have S5 := Lib.hid (S4.out.call hb)
  clear S4
  clear hb
  go_wp2_with fail
  refine (L2.out _).mono ?_
  rintro r w6 ⟨rfl, hb⟩
  have S6 := Lib.hid (S5.out.call hb)
  clear S5
  clear hb
  go_wp2_with fail
  refine (G1.out _).mono ?_
  rintro r w7 ⟨rfl, hb⟩
  have S7 := Lib.hid ((S6.out.alloc #[.string ⟨#[97, 47, 98]⟩, .bool false, .string ⟨#[97, 47, 98]⟩, .int .i64 2, .int .i64 420, .string z3, .string ⟨#[]⟩, .string ⟨#[99]⟩, .bool false, .string ⟨#[99]⟩, .int .i64 2, .int .i64 420, .string z1, .string ⟨#[]⟩] 43).call hb)
  clear S6
  clear hb
  go_wp2_with fail
  have hs := (S7.out.alloc #[.string ⟨#[97]⟩, .bool true, .string ⟨#[]⟩, .int .i64 0, .int .i64 0, .string ⟨#[]⟩, .string ⟨#[]⟩] 43).alloc #[.slice (some ⟨w6.heap.size, 0, none⟩) 2 2, .slice (some ⟨w7.heap.size, 0, none⟩) 1 1] 38
  obtain ⟨w9, hw9⟩ : ∃ y, y = (w7.alloc (.cells #[.string ⟨#[97]⟩, .bool true, .string ⟨#[]⟩, .int .i64 0, .int .i64 0, .string ⟨#[]⟩, .string ⟨#[]⟩] 43)).alloc (.cells #[.slice (some ⟨w6.heap.size, 0, none⟩) 2 2, .slice (some ⟨w7.heap.size, 0, none⟩) 1 1] 38) := ⟨_, rfl⟩
  rw [size_alloc1] at hs
  rw [← hw9] at hs ⊢
  have hd := AtC.out w9 _ _ _ hs.blk.tail.tail.head hs.blk.tail.head hs.blk.head
  have S8 := Lib.hid hs.drop
  clear hs hw9 S7
  refine (exC_look _ _ hd).mono ?_
  rintro r w8 ⟨gC, cC, rfl, hc1, hc2, e0, e1, e2, hb⟩
  have S9 := Lib.hid ((((S8.out.call hb).cell e0).cell e1).cell e2)
  clear S8
  clear hb hd e0 e1 e2
  have L1C := Lib.hid hc1
  have L2C := Lib.hid hc2
  clear hc1 hc2
  go_upto_region 4 with fail
  have hs := S9.out.waste (.int .i64 4) (.int .i64 1) (.float .f64 4598175219545276416) (.float .f64 4611686018427387904) (.float .f64 4611686018427387904) (.slice (some ⟨gC, 0, none⟩) 1 cC) 27
  obtain ⟨w9, hw⟩ : ∃ y, y = w8.alloc (.cells #[.int .i64 4, .int .i64 1, .float .f64 4598175219545276416, .float .f64 4611686018427387904, .float .f64 4611686018427387904, .slice (some ⟨gC, 0, none⟩) 1 cC] 27) := ⟨_, rfl⟩
  rw [← hw] at hs ⊢
  obtain ⟨bC, hb⟩ : ∃ y, y = w8.heap.size := ⟨_, rfl⟩
  rw [← hb] at hs ⊢
  have S10 := Lib.hid hs
  clear hs hw hb S9
  go_wp2_with fail
  refine (G1.out _).mono ?_
  rintro r w10 ⟨rfl, hb⟩
  have S11 := Lib.hid (S10.out.call hb)
  clear S10
  clear hb
  go_wp2_with fail
  refine (L3.out _).mono ?_
  rintro r w11 ⟨rfl, hb⟩
  have S12 := Lib.hid (S11.out.call hb)
  clear S11
  clear hb
  go_wp2_with fail
  refine (L3.out _).mono ?_
  rintro r w12 ⟨rfl, hb⟩
  have S13 := Lib.hid ((S12.out.alloc #[.string ⟨#[97]⟩, .bool true, .string ⟨#[]⟩, .int .i64 0, .int .i64 0, .string ⟨#[]⟩, .string ⟨#[]⟩, .string ⟨#[97]⟩, .bool false, .string ⟨#[97]⟩, .int .i64 2, .int .i64 420, .string z5, .string ⟨#[]⟩] 43).call hb)
  clear S12
  clear hb
  go_wp2_with fail
  refine (G2.out _).mono ?_
  rintro r w13 ⟨rfl, hb⟩
  have S14 := Lib.hid ((S13.out.alloc #[.string ⟨#[97]⟩, .bool false, .string ⟨#[97]⟩, .int .i64 2, .int .i64 420, .string z5, .string ⟨#[]⟩] 43).call hb)
  clear S13
  clear hb
  go_wp2_with fail
  have hs := (S14.out.alloc #[.string ⟨#[122]⟩, .bool true, .string ⟨#[]⟩, .int .i64 0, .int .i64 0, .string ⟨#[]⟩, .string ⟨#[]⟩] 43).alloc #[.slice (some ⟨w11.heap.size, 0, none⟩) 2 2, .slice (some ⟨w12.heap.size, 0, none⟩) 1 1, .slice (some ⟨w13.heap.size, 0, none⟩) 1 1] 38
  obtain ⟨w9, hw9⟩ : ∃ y, y = (w13.alloc (.cells #[.string ⟨#[122]⟩, .bool true, .string ⟨#[]⟩, .int .i64 0, .int .i64 0, .string ⟨#[]⟩, .string ⟨#[]⟩] 43)).alloc (.cells #[.slice (some ⟨w11.heap.size, 0, none⟩) 2 2, .slice (some ⟨w12.heap.size, 0, none⟩) 1 1, .slice (some ⟨w13.heap.size, 0, none⟩) 1 1] 38) := ⟨_, rfl⟩
  rw [size_alloc1] at hs
  rw [← hw9] at hs ⊢
  have hd := AtD.out w9 _ _ _ _ hs.blk.tail.tail.tail.head hs.blk.tail.tail.head hs.blk.tail.head hs.blk.head
  have S15 := Lib.hid hs.drop
  clear hs hw9 S14
  refine (exD_look _ _ hd).mono ?_
  rintro r w14 ⟨gD, cD, rfl, hc1, hc2, e0, e1, e2, hb⟩
  have S16 := Lib.hid ((((S15.out.call hb).cell e0).cell e1).cell e2)
  clear S15
  clear hb hd e0 e1 e2
  have L1D := Lib.hid hc1
  have L2D := Lib.hid hc2
  clear hc1 hc2
  go_upto_region 5 with fail
  have hs := S16.out.waste (.int .i64 10) (.int .i64 5) (.float .f64 4602678819172646912) (.float .f64 4614688418178968235) (.float .f64 4612489961860455552) (.slice (some ⟨gD, 0, none⟩) 1 cD) 27
  obtain ⟨w15, hw⟩ : ∃ y, y = w14.alloc (.cells #[.int .i64 10, .int .i64 5, .float .f64 4602678819172646912, .float .f64 4614688418178968235, .float .f64 4612489961860455552, .slice (some ⟨gD, 0, none⟩) 1 cD] 27) := ⟨_, rfl⟩
  rw [← hw] at hs ⊢
  obtain ⟨bD, hb⟩ : ∃ y, y = w14.heap.size := ⟨_, rfl⟩
  rw [← hb] at hs ⊢
  have S17 := Lib.hid hs
  clear hs hw hb S16
  go_wp2_with fail
  refine (L4.out _).mono ?_
  rintro r w16 ⟨rfl, hb⟩
  have S18 := Lib.hid (S17.out.call hb)
  clear S17
  clear hb
  go_wp2_with fail
  refine (L5.out _).mono ?_
  rintro r w17 ⟨rfl, hb⟩
  have S19 := Lib.hid (S18.out.call hb)
  clear S18
  clear hb
  go_wp2_with fail
  refine (L6.out _).mono ?_
  rintro r w18 ⟨rfl, hb⟩
  have S20 := Lib.hid (S19.out.call hb)
  clear S19
  clear hb
  go_wp2_with fail
  refine (G3.out _).mono ?_
  rintro r w19 ⟨rfl, hb⟩
  have S21 := Lib.hid ((S20.out.alloc #[.string ⟨#[98]⟩, .bool false, .string ⟨#[98]⟩, .int .i64 2, .int .i64 420, .string z1, .string ⟨#[]⟩, .string ⟨#[97, 46, 120]⟩, .bool false, .string ⟨#[97, 46, 120]⟩, .int .i64 2, .int .i64 420, .string z1, .string ⟨#[]⟩, .string ⟨#[97, 47, 121]⟩, .bool false, .string ⟨#[97, 47, 121]⟩, .int .i64 2, .int .i64 420, .string z1, .string ⟨#[]⟩] 43).call hb)
  clear S20
  clear hb
  go_wp2_with fail
  have hs := (S21.out.alloc #[.string ⟨#[]⟩, .bool true, .string ⟨#[]⟩, .int .i64 0, .int .i64 0, .string ⟨#[]⟩, .string ⟨#[]⟩] 43).alloc #[.slice (some ⟨w18.heap.size, 0, none⟩) 3 3, .slice (some ⟨w19.heap.size, 0, none⟩) 1 1] 38
  obtain ⟨w9, hw9⟩ : ∃ y, y = (w19.alloc (.cells #[.string ⟨#[]⟩, .bool true, .string ⟨#[]⟩, .int .i64 0, .int .i64 0, .string ⟨#[]⟩, .string ⟨#[]⟩] 43)).alloc (.cells #[.slice (some ⟨w18.heap.size, 0, none⟩) 3 3, .slice (some ⟨w19.heap.size, 0, none⟩) 1 1] 38) := ⟨_, rfl⟩
  rw [size_alloc1] at hs
  rw [← hw9] at hs ⊢
  have hd := AtE.out w9 _ _ _ hs.blk.tail.tail.head hs.blk.tail.head hs.blk.head
  have S22 := Lib.hid hs.drop
  clear hs hw9 S21
  refine (exE_look _ _ hd).mono ?_
  rintro r w20 ⟨gE, cE, rfl, hc1, hc2, e0, e1, e2, e3, e4, e5, e6, e7, e8, hb⟩
  have S23 := Lib.hid ((((((((((S22.out.call hb).cell e0).cell e1).cell e2).cell e3).cell e4).cell e5).cell e6).cell e7).cell e8)
  clear S22
  clear hb hd e0 e1 e2 e3 e4 e5 e6 e7 e8
  have L1E := Lib.hid hc1
  have L2E := Lib.hid hc2
  clear hc1 hc2
  go_upto_region 6 with fail
  have hs := S23.out.waste (.int .i64 3) (.int .i64 0) (.float .f64 0) (.float .f64 4609434218613702656) (.float .f64 4609434218613702656) (.slice (some ⟨gE, 0, none⟩) 3 cE) 27
  obtain ⟨w21, hw⟩ : ∃ y, y = w20.alloc (.cells #[.int .i64 3, .int .i64 0, .float .f64 0, .float .f64 4609434218613702656, .float .f64 4609434218613702656, .slice (some ⟨gE, 0, none⟩) 3 cE] 27) := ⟨_, rfl⟩
  rw [← hw] at hs ⊢
  obtain ⟨bE, hb⟩ : ∃ y, y = w20.heap.size := ⟨_, rfl⟩
  rw [← hb] at hs ⊢
  have S24 := Lib.hid hs
  clear hs hw hb S23
  go_wp2_with fail
  refine (Gq.out _).mono ?_
  rintro r w22 ⟨rfl, hb⟩
  have S25 := Lib.hid (S24.out.call hb)
  clear S24
  clear hb
  go_upto_region 7 with fail
  go_upto_region 8 with fail
  have hs := S25.out.alloc #[.string ⟨#[113]⟩, .bool true, .string ⟨#[]⟩, .int .i64 0, .int .i64 0, .string ⟨#[120, 121, 122]⟩, .string ⟨#[]⟩] 43
  obtain ⟨wo, hw⟩ : ∃ y, y = w22.alloc (.cells #[.string ⟨#[113]⟩, .bool true, .string ⟨#[]⟩, .int .i64 0, .int .i64 0, .string ⟨#[120, 121, 122]⟩, .string ⟨#[]⟩] 43) := ⟨_, rfl⟩
  rw [← hw] at hs ⊢
  obtain ⟨bO, hb⟩ : ∃ y, y = w22.heap.size := ⟨_, rfl⟩
  rw [← hb] at hs ⊢
  have HO := Lib.hid (show wo.drew.heap[bO]? = some (.cells #[.string ⟨#[113]⟩, .bool true, .string ⟨#[]⟩, .int .i64 0, .int .i64 0, .string ⟨#[120, 121, 122]⟩, .string ⟨#[]⟩] 43 (0, 0)) from hs.blk.head)
  have S26 := Lib.hid hs.drop.drew
  clear hs hw hb S25
  refine act_open fun a0 ha0 => ?_
  have k281 : a0.tmps.size = 281 := by rw [ha0]; rfl
  have kd : a0.defers = [] := by rw [ha0]
  have k0 : a0.tmps[0]?.getD undef = .bool false := by rw [ha0]; rfl
  have k1 : a0.tmps[1]?.getD undef = .pointer (some ⟨bA, 0, none⟩) := by rw [ha0]; rfl
  have k2 : a0.tmps[2]?.getD undef = .pointer (some ⟨bB, 0, none⟩) := by rw [ha0]; rfl
  have k3 : a0.tmps[3]?.getD undef = .pointer (some ⟨bC, 0, none⟩) := by rw [ha0]; rfl
  have k4 : a0.tmps[4]?.getD undef = .pointer (some ⟨bD, 0, none⟩) := by rw [ha0]; rfl
  have k5 : a0.tmps[5]?.getD undef = .pointer (some ⟨bE, 0, none⟩) := by rw [ha0]; rfl
  have k6 : a0.tmps[6]?.getD undef = .pointer (some ⟨bO, 0, none⟩) := by rw [ha0]; rfl
  clear ha0
  refine region_inv (DInv wo.drew a0 (fun k => decide (k < 7)) 13 dKn (PVF z1 z4 wo.drew.heap.size) FinF) (by kernel_rfl) (by kernel_rfl) (fun f hf => DInv.start fun i hi => hf i hi) ?_ ?_
  · intro i o f a w' ho hI hfi hdue
    match i, ho, hfi, hdue with
    | 0, ho, hfi, hdue =>
      have ho2 := Option.some.inj ho
      subst ho2
      have h13 := hI.open_ (i := 0) (by decide) hfi
      have h6 : a.tmps[6]?.getD undef = .pointer (some ⟨bO, 0, none⟩) := (hI.kept 6 rfl).trans k6
      have hO := (hI.bel.block bO (heap_lt HO.out)).trans HO.out
      have c0 := block_cell (j := 0) hO rfl
      have c1 := block_cell (j := 1) hO rfl
      have c2 := block_cell (j := 2) hO rfl
      have c3 := block_cell (j := 3) hO rfl
      have c4 := block_cell (j := 4) hO rfl
      have c5 := block_cell (j := 5) hO rfl
      have c6 := block_cell (j := 6) hO rfl
      refine wpOp_list rfl ?_
      go_wp2_with fail
      exact hI.step (i := 0) _ (by decide) hfi (by decide) rfl (by rw [k281]; decide) (fun j u hu => PVF_mono (Below.refl _ _) j u hu) rfl (Below.refl _ _)
      done
    | 1, ho, hfi, hdue =>
      have ho2 := Option.some.inj ho
      subst ho2
      have h13 := hI.open_ (i := 1) (by decide) hfi
      refine wpOp_list rfl ?_
      go_wp2_with fail
      exact hI.step (i := 1) _ (by decide) hfi (by decide) rfl (by rw [k281]; decide) (fun j u hu => PVF_mono (Below.refl _ _) j u hu) rfl (Below.refl _ _)
      done
    | 2, ho, hfi, hdue =>
      have ho2 := Option.some.inj ho
      subst ho2
      have h13 := hI.open_ (i := 2) (by decide) hfi
      have h44 : a.tmps[44]?.getD undef = .agg #[.string ⟨#[111, 116, 104, 101, 114]⟩, .int .i64 0, .int .i64 0, .string ⟨#[49, 50]⟩, .string ⟨#[]⟩] := hI.pv h13 1 (by decide) (due_on hdue 1 rfl)
      refine wpOp_list rfl ?_
      go_wp2_with fail
      exact hI.step (i := 2) _ (by decide) hfi (by decide) rfl (by rw [k281]; decide) (fun j u hu => PVF_mono (Below.refl _ _) j u hu) rfl (Below.refl _ _)
      done
    | 3, ho, hfi, hdue =>
      have ho2 := Option.some.inj ho
      subst ho2
      have h13 := hI.open_ (i := 3) (by decide) hfi
      refine wpOp_list rfl ?_
      go_wp2_with fail
      refine (L7.out _).mono ?_
      rintro r w2 ⟨rfl, hb⟩
      have HB := Lib.hid hb
      clear hb
      go_wp2_with fail
      exact hI.step (i := 3) _ (by decide) hfi (by decide) rfl (by rw [k281]; decide) (fun j u hu => PVF_mono HB.out j u hu) rfl HB.out
      done
    | 4, ho, hfi, hdue =>
      have ho2 := Option.some.inj ho
      subst ho2
      have h13 := hI.open_ (i := 4) (by decide) hfi
      have h43 : a.tmps[43]?.getD undef = .agg #[.string ⟨#[113]⟩, .bool true, .string ⟨#[]⟩, .int .i64 0, .int .i64 0, .string ⟨#[120, 121, 122]⟩, .string ⟨#[]⟩] := hI.pv h13 0 (by decide) (due_on hdue 0 rfl)
      have h45 : a.tmps[45]?.getD undef = .agg #[.string ⟨#[112]⟩, .bool false, .string ⟨#[111, 116, 104, 101, 114]⟩, .int .i64 0, .int .i64 0, .string ⟨#[49, 50]⟩, .string ⟨#[]⟩] := hI.pv h13 2 (by decide) (due_on hdue 2 rfl)
      have h46 : a.tmps[46]?.getD undef = .agg #[.string ⟨#[112]⟩, .bool false, .string ⟨#[112]⟩, .int .i64 2, .int .i64 420, .string z1, .string ⟨#[]⟩] := hI.pv h13 3 (by decide) (due_on hdue 3 rfl)
      refine wpOp_list rfl ?_
      go_wp2_with fail
      exact hI.step (i := 4) _ (by decide) hfi (by decide) rfl (by rw [k281]; decide) (fun j u hu => PVF_mono ((Below.refl _ _).alloc (Nat.le_refl _) _) j u hu) ⟨_, rfl, World.alloc_heap_new _ _⟩ ((Below.refl _ _).alloc (Nat.le_refl _) _)
      done
    | 5, ho, hfi, hdue =>
      have ho2 := Option.some.inj ho
      subst ho2
      have h13 := hI.open_ (i := 5) (by decide) hfi
      refine wpOp_list rfl ?_
      go_wp2_with fail
      refine (G4.out _).mono ?_
      rintro r w2 ⟨rfl, hb⟩
      have HB := Lib.hid hb
      clear hb
      go_wp2_with fail
      exact hI.step (i := 5) _ (by decide) hfi (by decide) rfl (by rw [k281]; decide) (fun j u hu => PVF_mono HB.out j u hu) rfl HB.out
      done
    | 6, ho, hfi, hdue =>
      have ho2 := Option.some.inj ho
      subst ho2
      have h13 := hI.open_ (i := 6) (by decide) hfi
      refine wpOp_list rfl ?_
      go_wp2_with fail
      refine (G5.out _).mono ?_
      rintro r w2 ⟨rfl, hb⟩
      have HB := Lib.hid hb
      clear hb
      go_wp2_with fail
      exact hI.step (i := 6) _ (by decide) hfi (by decide) rfl (by rw [k281]; decide) (fun j u hu => PVF_mono HB.out j u hu) rfl HB.out
      done
    | 7, ho, hfi, hdue =>
      have ho2 := Option.some.inj ho
      subst ho2
      have h13 := hI.open_ (i := 7) (by decide) hfi
      refine wpOp_list rfl ?_
      go_wp2_with fail
      refine (L8.out _).mono ?_
      rintro r w2 ⟨rfl, hb⟩
      have HB := Lib.hid hb
      clear hb
      go_wp2_with fail
      exact hI.step (i := 7) _ (by decide) hfi (by decide) rfl (by rw [k281]; decide) (fun j u hu => PVF_mono HB.out j u hu) rfl HB.out
      done
    | 8, ho, hfi, hdue =>
      have ho2 := Option.some.inj ho
      subst ho2
      have h13 := hI.open_ (i := 8) (by decide) hfi
      refine wpOp_list rfl ?_
      go_wp2_with fail
      refine (G6.out _).mono ?_
      rintro r w2 ⟨rfl, hb⟩
      have HB := Lib.hid hb
      clear hb
      go_wp2_with fail
      exact hI.step (i := 8) _ (by decide) hfi (by decide) rfl (by rw [k281]; decide) (fun j u hu => PVF_mono HB.out j u hu) rfl HB.out
      done
    | 9, ho, hfi, hdue =>
      have ho2 := Option.some.inj ho
      subst ho2
      have h13 := hI.open_ (i := 9) (by decide) hfi
      have h48 : a.tmps[48]?.getD undef = .agg #[.string ⟨#[112, 47]⟩, .bool true, .string ⟨#[]⟩, .int .i64 0, .int .i64 0, .string ⟨#[]⟩, .string ⟨#[]⟩] := hI.pv h13 5 (by decide) (due_on hdue 5 rfl)
      have h49 : a.tmps[49]?.getD undef = .agg #[.string ⟨#[97, 112]⟩, .bool true, .string ⟨#[]⟩, .int .i64 0, .int .i64 0, .string ⟨#[]⟩, .string ⟨#[]⟩] := hI.pv h13 6 (by decide) (due_on hdue 6 rfl)
      have h50 : a.tmps[50]?.getD undef = .agg #[.string ⟨#[112, 47, 120]⟩, .bool false, .string ⟨#[112, 47, 120]⟩, .int .i64 2, .int .i64 420, .string z4, .string ⟨#[]⟩] := hI.pv h13 7 (by decide) (due_on hdue 7 rfl)
      have h51 : a.tmps[51]?.getD undef = .agg #[.string ⟨#[112]⟩, .bool true, .string ⟨#[]⟩, .int .i64 0, .int .i64 0, .string ⟨#[]⟩, .string ⟨#[]⟩] := hI.pv h13 8 (by decide) (due_on hdue 8 rfl)
      refine wpOp_list rfl ?_
      go_wp2_with fail
      exact hI.step (i := 9) _ (by decide) hfi (by decide) rfl (by rw [k281]; decide) (fun j u hu => PVF_mono ((Below.refl _ _).alloc (Nat.le_refl _) _) j u hu) ⟨_, rfl, World.alloc_heap_new _ _⟩ ((Below.refl _ _).alloc (Nat.le_refl _) _)
      done
    | 10, ho, hfi, hdue =>
      have ho2 := Option.some.inj ho
      subst ho2
      have h13 := hI.open_ (i := 10) (by decide) hfi
      obtain ⟨b1, h47, q1⟩ := hI.pv h13 4 (by decide) (due_on hdue 4 rfl)
      obtain ⟨b2, h52, q2⟩ := hI.pv h13 9 (by decide) (due_on hdue 9 rfl)
      have Q1 := Lib.hid q1
      have Q2 := Lib.hid q2
      clear q1 q2
      have h47a : a.tmps[47]?.getD undef = _ := h47
      have h52a : a.tmps[52]?.getD undef = _ := h52
      refine wpOp_list rfl ?_
      go_wp2_with fail
      exact hI.step (i := 10) _ (by decide) hfi (by decide) rfl (by rw [k281]; decide) (fun j u hu => PVF_mono ((Below.refl _ _).alloc (Nat.le_refl _) _) j u hu) ⟨_, b1, b2, rfl, World.alloc_heap_new _ _, cell_grown_B ((Below.refl _ _).alloc (Nat.le_refl _) _) Q1.out, cell_grown_B ((Below.refl _ _).alloc (Nat.le_refl _) _) Q2.out⟩ ((Below.refl _ _).alloc (Nat.le_refl _) _)
      done
    | 11, ho, hfi, hdue =>
      have ho2 := Option.some.inj ho
      subst ho2
      have h13 := hI.open_ (i := 11) (by decide) hfi
      obtain ⟨b, b1, b2, h53, q1, q2, q3⟩ := hI.pv h13 10 (by decide) (due_on hdue 10 rfl)
      have hl := exF_look _ _ (AtF.out w' b1 b2 b q2 q3 q1)
      have HL := Lib.hid hl
      clear hl q1 q2 q3
      have h53a : a.tmps[53]?.getD undef = _ := h53
      refine wpOp_list rfl ?_
      go_wp2_with fail
      refine HL.out.mono ?_
      rintro r w2 ⟨g, c, rfl, hc1, hc2, e0, e1, e2, e3, e4, e5, hb⟩
      have HB := Lib.hid hb
      have HE := Lib.hid (⟨g, c, rfl, hc1, hc2, e0, e1, e2, e3, e4, e5⟩ : PVF z1 z4 wo.drew.heap.size 11 (.agg #[.int .i64 7, .int .i64 0, .float .f64 0, .float .f64 4615063718147915776, .float .f64 4602678819172646912, .slice (some ⟨g, 0, none⟩) 2 c]) w2)
      clear hb e0 e1 e2 e3 e4 e5
      go_wp2_with fail
      exact hI.step (i := 11) _ (by decide) hfi (by decide) rfl (by rw [k281]; decide) (fun j u hu => PVF_mono HB.out j u hu) HE.out HB.out
      done
    | 12, ho, hfi, hdue =>
      have ho2 := Option.some.inj ho
      subst ho2
      have h13 := hI.open_ (i := 12) (by decide) hfi
      refine wpOp_list rfl ?_
      go_wp2_with fail
      exact hI.step (i := 12) _ (by decide) hfi (by decide) rfl (by rw [k281]; decide) (fun j u hu => PVF_mono ((Below.refl _ _).alloc (Nat.le_refl _) _) j u hu) ⟨_, rfl, hI.bel.size, World.alloc_heap_new _ _⟩ ((Below.refl _ _).alloc (Nat.le_refl _) _)
      done
    | 13, ho, hfi, hdue =>
      have ho2 := Option.some.inj ho
      subst ho2
      have hall : ∀ j, j < 13 → f j = true := fun j hj => by
        match j, hj with
        | 0, _ => exact due_on hdue 0 rfl
        | 1, _ => exact due_on hdue 1 rfl
        | 2, _ => exact due_on hdue 2 rfl
        | 3, _ => exact due_on hdue 3 rfl
        | 4, _ => exact due_on hdue 4 rfl
        | 5, _ => exact due_on hdue 5 rfl
        | 6, _ => exact due_on hdue 6 rfl
        | 7, _ => exact due_on hdue 7 rfl
        | 8, _ => exact due_on hdue 8 rfl
        | 9, _ => exact due_on hdue 9 rfl
        | 10, _ => exact due_on hdue 10 rfl
        | 11, _ => exact due_on hdue 11 rfl
        | 12, _ => exact due_on hdue 12 rfl
        | j + 13, h => exact absurd h (by omega)
      have h13 := hfi
      obtain ⟨b, h7, hbB, hz⟩ := hI.pv h13 12 (by decide) (hall 12 (by decide))
      obtain ⟨g, c, h54, hc1, hc2, e0, e1, e2, e3, e4, e5⟩ := hI.pv h13 11 (by decide) (hall 11 (by decide))
      have hgb : g ≠ b := fun e => by subst e; have := block_cell (j := 0) hz rfl; rw [this] at e0; cases e0
      have h7a : a.tmps[7]?.getD undef = _ := h7
      have h54a : a.tmps[54]?.getD undef = _ := h54
      have Hone := Lib.hid (show (#[.int .i64 7, .int .i64 0, .float .f64 0, .float .f64 4615063718147915776, .float .f64 4602678819172646912, .slice (some ⟨g, 0, none⟩) 2 c] : Array Value).all (·.oneCell') = true by simp [Value.oneCell'])
      have HZ := Lib.hid hz
      have HF := Lib.hid (⟨b, g, c, h7, grow_at hz, hc1, hc2, (cell_setRow_ne _ _ _ hgb _).trans e0, (cell_setRow_ne _ _ _ hgb _).trans e1, (cell_setRow_ne _ _ _ hgb _).trans e2, (cell_setRow_ne _ _ _ hgb _).trans e3, (cell_setRow_ne _ _ _ hgb _).trans e4, (cell_setRow_ne _ _ _ hgb _).trans e5⟩ : FinF a (w'.setRow b #[.int .i64 7, .int .i64 0, .float .f64 0, .float .f64 4615063718147915776, .float .f64 4602678819172646912, .slice (some ⟨g, 0, none⟩) 2 c]))
      clear hz e0 e1 e2 e3 e4 e5
      refine wpOp_list rfl ?_
      refine wpList_store_row rfl _ _ _ rfl b #[.int .i64 7, .int .i64 0, .float .f64 0, .float .f64 4615063718147915776, .float .f64 4602678819172646912, .slice (some ⟨g, 0, none⟩) 2 c] (by simpa [Act.eval] using h7a) (by simpa [Act.eval] using h54a) 27 _ HZ.out (by kernel_rfl) rfl Hone.out ?_
      exact hI.close hall (below_setRow hI.bel hbB _) HF.out
      done
    | i + 14, ho, hfi, hdue => cases ho
  · intro f a w' hI hall
    obtain ⟨b, g, c, h7, hbk, hc1, hc2, e0, e1, e2, e3, e4, e5⟩ := hI.fin (hall 13 (by decide))
    have SE := Lib.hid (((((((((((((S26.out.call hI.bel).cell (block_cell (j := 0) hbk rfl)).cell (block_cell (j := 1) hbk rfl)).cell (block_cell (j := 2) hbk rfl)).cell (block_cell (j := 3) hbk rfl)).cell (block_cell (j := 4) hbk rfl)).cell (block_cell (j := 5) hbk rfl)).cell e0).cell e1).cell e2).cell e3).cell e4).cell e5)
    obtain ⟨x, hx, hg⟩ : ∃ x : Nat → Value, a.tmps = #[x 0, x 1, x 2, x 3, x 4, x 5, x 6, x 7, x 8, x 9, x 10, x 11, x 12, x 13, x 14, x 15, x 16, x 17, x 18, x 19, x 20, x 21, x 22, x 23, x 24, x 25, x 26, x 27, x 28, x 29, x 30, x 31, x 32, x 33, x 34, x 35, x 36, x 37, x 38, x 39, x 40, x 41, x 42, x 43, x 44, x 45, x 46, x 47, x 48, x 49, x 50, x 51, x 52, x 53, x 54, x 55, x 56, x 57, x 58, x 59, x 60, x 61, x 62, x 63, x 64, x 65, x 66, x 67, x 68, x 69, x 70, x 71, x 72, x 73, x 74, x 75, x 76, x 77, x 78, x 79, x 80, x 81, x 82, x 83, x 84, x 85, x 86, x 87, x 88, x 89, x 90, x 91, x 92, x 93, x 94, x 95, x 96, x 97, x 98, x 99, x 100, x 101, x 102, x 103, x 104, x 105, x 106, x 107, x 108, x 109, x 110, x 111, x 112, x 113, x 114, x 115, x 116, x 117, x 118, x 119, x 120, x 121, x 122, x 123, x 124, x 125, x 126, x 127, x 128, x 129, x 130, x 131, x 132, x 133, x 134, x 135, x 136, x 137, x 138, x 139, x 140, x 141, x 142, x 143, x 144, x 145, x 146, x 147, x 148, x 149, x 150, x 151, x 152, x 153, x 154, x 155, x 156, x 157, x 158, x 159, x 160, x 161, x 162, x 163, x 164, x 165, x 166, x 167, x 168, x 169, x 170, x 171, x 172, x 173, x 174, x 175, x 176, x 177, x 178, x 179, x 180, x 181, x 182, x 183, x 184, x 185, x 186, x 187, x 188, x 189, x 190, x 191, x 192, x 193, x 194, x 195, x 196, x 197, x 198, x 199, x 200, x 201, x 202, x 203, x 204, x 205, x 206, x 207, x 208, x 209, x 210, x 211, x 212, x 213, x 214, x 215, x 216, x 217, x 218, x 219, x 220, x 221, x 222, x 223, x 224, x 225, x 226, x 227, x 228, x 229, x 230, x 231, x 232, x 233, x 234, x 235, x 236, x 237, x 238, x 239, x 240, x 241, x 242, x 243, x 244, x 245, x 246, x 247, x 248, x 249, x 250, x 251, x 252, x 253, x 254, x 255, x 256, x 257, x 258, x 259, x 260, x 261, x 262, x 263, x 264, x 265, x 266, x 267, x 268, x 269, x 270, x 271, x 272, x 273, x 274, x 275, x 276, x 277, x 278, x 279, x 280] ∧ ∀ k, x k = a.tmps[k]?.getD undef := ⟨fun k => a.tmps[k]?.getD undef, arrN 281 a.tmps (hI.size.trans k281), fun _ => rfl⟩
    have y0 : x 0 = .bool false := (hg 0).trans ((hI.kept 0 rfl).trans k0)
    have y1 : x 1 = .pointer (some ⟨bA, 0, none⟩) := (hg 1).trans ((hI.kept 1 rfl).trans k1)
    have y2 : x 2 = .pointer (some ⟨bB, 0, none⟩) := (hg 2).trans ((hI.kept 2 rfl).trans k2)
    have y3 : x 3 = .pointer (some ⟨bC, 0, none⟩) := (hg 3).trans ((hI.kept 3 rfl).trans k3)
    have y4 : x 4 = .pointer (some ⟨bD, 0, none⟩) := (hg 4).trans ((hI.kept 4 rfl).trans k4)
    have y5 : x 5 = .pointer (some ⟨bE, 0, none⟩) := (hg 5).trans ((hI.kept 5 rfl).trans k5)
    have y7 : x 7 = .pointer (some ⟨b, 0, none⟩) := (hg 7).trans h7
    rw [y0, y1, y2, y3, y4, y5, y7] at hx
    have hd0 := hI.defers.trans kd
    obtain ⟨tm, df⟩ := a
    dsimp only at hx hd0
    subst hx hd0
    clear hI hall hg y0 y1 y2 y3 y4 y5 y7 h7 hbk e0 e1 e2 e3 e4 e5 k0 k1 k2 k3 k4 k5 k6 k281 kd hsf HO
    have q45 := SE.out.cel.tail.tail.tail.tail.tail.tail.tail.tail.tail.tail.tail.tail.tail.tail.tail.tail.tail.tail.tail.tail.tail.tail.tail.tail.tail.tail.tail.tail.tail.tail.tail.tail.tail.tail.tail.tail.tail.tail.tail.tail.tail.tail.tail.tail.tail.head
    have q46 := SE.out.cel.tail.tail.tail.tail.tail.tail.tail.tail.tail.tail.tail.tail.tail.tail.tail.tail.tail.tail.tail.tail.tail.tail.tail.tail.tail.tail.tail.tail.tail.tail.tail.tail.tail.tail.tail.tail.tail.tail.tail.tail.tail.tail.tail.tail.tail.tail.head
    have q47 := SE.out.cel.tail.tail.tail.tail.tail.tail.tail.tail.tail.tail.tail.tail.tail.tail.tail.tail.tail.tail.tail.tail.tail.tail.tail.tail.tail.tail.tail.tail.tail.tail.tail.tail.tail.tail.tail.tail.tail.tail.tail.tail.tail.tail.tail.tail.tail.tail.tail.head
    have q48 := SE.out.cel.tail.tail.tail.tail.tail.tail.tail.tail.tail.tail.tail.tail.tail.tail.tail.tail.tail.tail.tail.tail.tail.tail.tail.tail.tail.tail.tail.tail.tail.tail.tail.tail.tail.tail.tail.tail.tail.tail.tail.tail.tail.tail.tail.tail.tail.tail.tail.tail.head
    have q49 := SE.out.cel.tail.tail.tail.tail.tail.tail.tail.tail.tail.tail.tail.tail.tail.tail.tail.tail.tail.tail.tail.tail.tail.tail.tail.tail.tail.tail.tail.tail.tail.tail.tail.tail.tail.tail.tail.tail.tail.tail.tail.tail.tail.tail.tail.tail.tail.tail.tail.tail.tail.head
    have q50 := SE.out.cel.tail.tail.tail.tail.tail.tail.tail.tail.tail.tail.tail.tail.tail.tail.tail.tail.tail.tail.tail.tail.tail.tail.tail.tail.tail.tail.tail.tail.tail.tail.tail.tail.tail.tail.tail.tail.tail.tail.tail.tail.tail.tail.tail.tail.tail.tail.tail.tail.tail.tail.head
    have q51 := SE.out.cel.tail.tail.tail.tail.tail.tail.tail.tail.tail.tail.tail.tail.tail.tail.tail.tail.tail.tail.tail.tail.tail.tail.tail.tail.tail.tail.tail.tail.tail.tail.tail.tail.tail.tail.tail.tail.tail.tail.tail.tail.tail.tail.tail.tail.tail.tail.tail.tail.tail.tail.tail.head
    have q52 := SE.out.cel.tail.tail.tail.tail.tail.tail.tail.tail.tail.tail.tail.tail.tail.tail.tail.tail.tail.tail.tail.tail.tail.tail.tail.tail.tail.tail.tail.tail.tail.tail.tail.tail.tail.tail.tail.tail.tail.tail.tail.tail.tail.tail.tail.tail.tail.tail.tail.tail.tail.tail.tail.tail.head
    have q53 := SE.out.cel.tail.tail.tail.tail.tail.tail.tail.tail.tail.tail.tail.tail.tail.tail.tail.tail.tail.tail.tail.tail.tail.tail.tail.tail.tail.tail.tail.tail.tail.tail.tail.tail.tail.tail.tail.tail.tail.tail.tail.tail.tail.tail.tail.tail.tail.tail.tail.tail.tail.tail.tail.tail.tail.head
    have q54 := SE.out.cel.tail.tail.tail.tail.tail.tail.tail.tail.tail.tail.tail.tail.tail.tail.tail.tail.tail.tail.tail.tail.tail.tail.tail.tail.tail.tail.tail.tail.tail.tail.tail.tail.tail.tail.tail.tail.tail.tail.tail.tail.tail.tail.tail.tail.tail.tail.tail.tail.tail.tail.tail.tail.tail.tail.head
    have q55 := SE.out.cel.tail.tail.tail.tail.tail.tail.tail.tail.tail.tail.tail.tail.tail.tail.tail.tail.tail.tail.tail.tail.tail.tail.tail.tail.tail.tail.tail.tail.tail.tail.tail.tail.tail.tail.tail.tail.tail.tail.tail.tail.tail.tail.tail.tail.tail.tail.tail.tail.tail.tail.tail.tail.tail.tail.tail.head
    have q56 := SE.out.cel.tail.tail.tail.tail.tail.tail.tail.tail.tail.tail.tail.tail.tail.tail.tail.tail.tail.tail.tail.tail.tail.tail.tail.tail.tail.tail.tail.tail.tail.tail.tail.tail.tail.tail.tail.tail.tail.tail.tail.tail.tail.tail.tail.tail.tail.tail.tail.tail.tail.tail.tail.tail.tail.tail.tail.tail.head
    have o12 : FloatKind.f64.format.order 4607182418800017408 4607182418800017408 = some .eq := by decide +kernel
    have o13 : FloatKind.f64.format.order 0 0 = some .eq := by decide +kernel
    have oA : FloatKind.f64.format.order mA mA = none := NA.out.order mA
    have oP : FloatKind.f64.format.order pA pA = none := NP.out.order pA
    go_upto_region 10 with fail
    clear q45 q46 q47 q48 q49 q50 q51 q52 q53 q54 q55 q56 o12 o13 oA oP
    go_upto_region 10 with fail
    have q36 := SE.out.cel.tail.tail.tail.tail.tail.tail.tail.tail.tail.tail.tail.tail.tail.tail.tail.tail.tail.tail.tail.tail.tail.tail.tail.tail.tail.tail.tail.tail.tail.tail.tail.tail.tail.tail.tail.tail.head
    have q37 := SE.out.cel.tail.tail.tail.tail.tail.tail.tail.tail.tail.tail.tail.tail.tail.tail.tail.tail.tail.tail.tail.tail.tail.tail.tail.tail.tail.tail.tail.tail.tail.tail.tail.tail.tail.tail.tail.tail.tail.head
    have q38 := SE.out.cel.tail.tail.tail.tail.tail.tail.tail.tail.tail.tail.tail.tail.tail.tail.tail.tail.tail.tail.tail.tail.tail.tail.tail.tail.tail.tail.tail.tail.tail.tail.tail.tail.tail.tail.tail.tail.tail.tail.head
    have q39 := SE.out.cel.tail.tail.tail.tail.tail.tail.tail.tail.tail.tail.tail.tail.tail.tail.tail.tail.tail.tail.tail.tail.tail.tail.tail.tail.tail.tail.tail.tail.tail.tail.tail.tail.tail.tail.tail.tail.tail.tail.tail.head
    have q40 := SE.out.cel.tail.tail.tail.tail.tail.tail.tail.tail.tail.tail.tail.tail.tail.tail.tail.tail.tail.tail.tail.tail.tail.tail.tail.tail.tail.tail.tail.tail.tail.tail.tail.tail.tail.tail.tail.tail.tail.tail.tail.tail.head
    have q41 := SE.out.cel.tail.tail.tail.tail.tail.tail.tail.tail.tail.tail.tail.tail.tail.tail.tail.tail.tail.tail.tail.tail.tail.tail.tail.tail.tail.tail.tail.tail.tail.tail.tail.tail.tail.tail.tail.tail.tail.tail.tail.tail.tail.head
    have q42 := SE.out.cel.tail.tail.tail.tail.tail.tail.tail.tail.tail.tail.tail.tail.tail.tail.tail.tail.tail.tail.tail.tail.tail.tail.tail.tail.tail.tail.tail.tail.tail.tail.tail.tail.tail.tail.tail.tail.tail.tail.tail.tail.tail.tail.head
    have q43 := SE.out.cel.tail.tail.tail.tail.tail.tail.tail.tail.tail.tail.tail.tail.tail.tail.tail.tail.tail.tail.tail.tail.tail.tail.tail.tail.tail.tail.tail.tail.tail.tail.tail.tail.tail.tail.tail.tail.tail.tail.tail.tail.tail.tail.tail.head
    have q44 := SE.out.cel.tail.tail.tail.tail.tail.tail.tail.tail.tail.tail.tail.tail.tail.tail.tail.tail.tail.tail.tail.tail.tail.tail.tail.tail.tail.tail.tail.tail.tail.tail.tail.tail.tail.tail.tail.tail.tail.tail.tail.tail.tail.tail.tail.tail.head
    have o9 : FloatKind.f64.format.order 4598175219545276416 4598175219545276416 = some .eq := by decide +kernel
    have o10 : FloatKind.f64.format.order 4611686018427387904 4611686018427387904 = some .eq := by decide +kernel
    have lC := L1C.out
    have mC := L2C.out
    go_upto_region 11 with fail
    clear q36 q37 q38 q39 q40 q41 q42 q43 q44 o9 o10 lC mC
    go_upto_region 11 with fail
    have q27 := SE.out.cel.tail.tail.tail.tail.tail.tail.tail.tail.tail.tail.tail.tail.tail.tail.tail.tail.tail.tail.tail.tail.tail.tail.tail.tail.tail.tail.tail.head
    have q28 := SE.out.cel.tail.tail.tail.tail.tail.tail.tail.tail.tail.tail.tail.tail.tail.tail.tail.tail.tail.tail.tail.tail.tail.tail.tail.tail.tail.tail.tail.tail.head
    have q29 := SE.out.cel.tail.tail.tail.tail.tail.tail.tail.tail.tail.tail.tail.tail.tail.tail.tail.tail.tail.tail.tail.tail.tail.tail.tail.tail.tail.tail.tail.tail.tail.head
    have q30 := SE.out.cel.tail.tail.tail.tail.tail.tail.tail.tail.tail.tail.tail.tail.tail.tail.tail.tail.tail.tail.tail.tail.tail.tail.tail.tail.tail.tail.tail.tail.tail.tail.head
    have q31 := SE.out.cel.tail.tail.tail.tail.tail.tail.tail.tail.tail.tail.tail.tail.tail.tail.tail.tail.tail.tail.tail.tail.tail.tail.tail.tail.tail.tail.tail.tail.tail.tail.tail.head
    have q32 := SE.out.cel.tail.tail.tail.tail.tail.tail.tail.tail.tail.tail.tail.tail.tail.tail.tail.tail.tail.tail.tail.tail.tail.tail.tail.tail.tail.tail.tail.tail.tail.tail.tail.tail.head
    have q33 := SE.out.cel.tail.tail.tail.tail.tail.tail.tail.tail.tail.tail.tail.tail.tail.tail.tail.tail.tail.tail.tail.tail.tail.tail.tail.tail.tail.tail.tail.tail.tail.tail.tail.tail.tail.head
    have q34 := SE.out.cel.tail.tail.tail.tail.tail.tail.tail.tail.tail.tail.tail.tail.tail.tail.tail.tail.tail.tail.tail.tail.tail.tail.tail.tail.tail.tail.tail.tail.tail.tail.tail.tail.tail.tail.head
    have q35 := SE.out.cel.tail.tail.tail.tail.tail.tail.tail.tail.tail.tail.tail.tail.tail.tail.tail.tail.tail.tail.tail.tail.tail.tail.tail.tail.tail.tail.tail.tail.tail.tail.tail.tail.tail.tail.tail.head
    have o9 : FloatKind.f64.format.order 4602678819172646912 4602678819172646912 = some .eq := by decide +kernel
    have o10 : FloatKind.f64.format.order 4614688418178968235 4614688418178968235 = some .eq := by decide +kernel
    have o11 : FloatKind.f64.format.order 4612489961860455552 4612489910960873538 = some .gt := by decide +kernel
    have o12 : FloatKind.f64.format.order 4612489961860455552 4612490136140854906 = some .lt := by decide +kernel
    have lD := L1D.out
    have mD := L2D.out
    go_upto_region 12 with fail
    clear q27 q28 q29 q30 q31 q32 q33 q34 q35 o9 o10 o11 o12 lD mD
    go_upto_region 12 with fail
    have q12 := SE.out.cel.tail.tail.tail.tail.tail.tail.tail.tail.tail.tail.tail.tail.head
    have q13 := SE.out.cel.tail.tail.tail.tail.tail.tail.tail.tail.tail.tail.tail.tail.tail.head
    have q14 := SE.out.cel.tail.tail.tail.tail.tail.tail.tail.tail.tail.tail.tail.tail.tail.tail.head
    have q15 := SE.out.cel.tail.tail.tail.tail.tail.tail.tail.tail.tail.tail.tail.tail.tail.tail.tail.head
    have q16 := SE.out.cel.tail.tail.tail.tail.tail.tail.tail.tail.tail.tail.tail.tail.tail.tail.tail.tail.head
    have q17 := SE.out.cel.tail.tail.tail.tail.tail.tail.tail.tail.tail.tail.tail.tail.tail.tail.tail.tail.tail.head
    have q18 := SE.out.cel.tail.tail.tail.tail.tail.tail.tail.tail.tail.tail.tail.tail.tail.tail.tail.tail.tail.tail.head
    have q19 := SE.out.cel.tail.tail.tail.tail.tail.tail.tail.tail.tail.tail.tail.tail.tail.tail.tail.tail.tail.tail.tail.head
    have q20 := SE.out.cel.tail.tail.tail.tail.tail.tail.tail.tail.tail.tail.tail.tail.tail.tail.tail.tail.tail.tail.tail.tail.head
    have q21 := SE.out.cel.tail.tail.tail.tail.tail.tail.tail.tail.tail.tail.tail.tail.tail.tail.tail.tail.tail.tail.tail.tail.tail.head
    have q22 := SE.out.cel.tail.tail.tail.tail.tail.tail.tail.tail.tail.tail.tail.tail.tail.tail.tail.tail.tail.tail.tail.tail.tail.tail.head
    have q23 := SE.out.cel.tail.tail.tail.tail.tail.tail.tail.tail.tail.tail.tail.tail.tail.tail.tail.tail.tail.tail.tail.tail.tail.tail.tail.head
    have q24 := SE.out.cel.tail.tail.tail.tail.tail.tail.tail.tail.tail.tail.tail.tail.tail.tail.tail.tail.tail.tail.tail.tail.tail.tail.tail.tail.head
    have q25 := SE.out.cel.tail.tail.tail.tail.tail.tail.tail.tail.tail.tail.tail.tail.tail.tail.tail.tail.tail.tail.tail.tail.tail.tail.tail.tail.tail.head
    have q26 := SE.out.cel.tail.tail.tail.tail.tail.tail.tail.tail.tail.tail.tail.tail.tail.tail.tail.tail.tail.tail.tail.tail.tail.tail.tail.tail.tail.tail.head
    have o15 : FloatKind.f64.format.order 0 0 = some .eq := by decide +kernel
    have o16 : FloatKind.f64.format.order 4609434218613702656 4609434218613702656 = some .eq := by decide +kernel
    have lE := L1E.out
    have mE := L2E.out
    go_upto_region 13 with fail
    clear q12 q13 q14 q15 q16 q17 q18 q19 q20 q21 q22 q23 q24 q25 q26 o15 o16 lE mE
    go_upto_region 13 with fail
    have q0 := SE.out.cel.head
    have q1 := SE.out.cel.tail.head
    have q2 := SE.out.cel.tail.tail.head
    have q3 := SE.out.cel.tail.tail.tail.head
    have q4 := SE.out.cel.tail.tail.tail.tail.head
    have q5 := SE.out.cel.tail.tail.tail.tail.tail.head
    have q6 := SE.out.cel.tail.tail.tail.tail.tail.tail.head
    have q7 := SE.out.cel.tail.tail.tail.tail.tail.tail.tail.head
    have q8 := SE.out.cel.tail.tail.tail.tail.tail.tail.tail.tail.head
    have q9 := SE.out.cel.tail.tail.tail.tail.tail.tail.tail.tail.tail.head
    have q10 := SE.out.cel.tail.tail.tail.tail.tail.tail.tail.tail.tail.tail.head
    have q11 := SE.out.cel.tail.tail.tail.tail.tail.tail.tail.tail.tail.tail.tail.head
    go_upto_region 14 with fail
    clear q0 q1 q2 q3 q4 q5 q6 q7 q8 q9 q10 q11
    go_upto_region 14 with fail
    go_wp2_with fail
    refine (HW.out _).mono ?_
    rintro r w99 ⟨rfl, hb⟩
    have SF := Lib.hid (SE.out.call hb)
    clear hb
    go_wp2_with fail
    go_ret
    exact ⟨rfl, SF.out.bel⟩
end Go.Proofs.Ytebniijkhjnbdaa
