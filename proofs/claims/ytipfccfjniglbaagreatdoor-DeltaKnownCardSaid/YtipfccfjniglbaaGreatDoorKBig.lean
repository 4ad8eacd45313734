/- The law DeltaKnown: crowded, its second half's pieces. -/
import Derived.Test.YtipfccfjniglbaaGreatDoorKPlain
import Derived.Test.YtipfccfjniglbaaGreatDoorKReg
import Derived.Test.YtipfccfjniglbaaGreatDoorKHelp
import Derived.Maps.AppendAt
set_option linter.unusedSimpArgs false
set_option linter.unusedVariables false
namespace Go.Proofs.YtipfccfjniglbaaGreatDoor
open Go.RowKit Go.Maps Go.Shelf
open Go.Lib hiding intOf size_eq
theorem Tryz.infoB : (Tryz.prog.info? 5).map (fun i => (i.zero, i.size, i.bytes)) = some (some (Value.int .u8 0), 1, 1) := by kernel_rfl
theorem zer_cells (n : Nat) : madeCells #[Value.int .u8 0] n = ((List.replicate n (0 : UInt8)).map (fun b => Value.int .u8 (b.toNat : Int))).toArray := by
  apply Array.ext
  · simp [madeCells]
  · intro i h1 h2
    simp [madeCells, Nat.mod_one]
/-- a text of so many zeros, made as a slice of bytes -/
theorem zero_text (n : Nat) (hn : n ≤ 1048576) : ∃ (s : ByteArray) (zs : Array Value), s.size = n ∧ (∀ W : World, (Instr.makeSlice 86 (.int .i64 (n : Int)) (.int .i64 (n : Int))).run Tryz.prog W = .ok (.slice (some ⟨W.heap.size, 0, none⟩) n n) (W.alloc (.cells zs 5))) ∧
    ∀ W : World, (convert 86 9 (.slice (some ⟨W.heap.size, 0, none⟩) n n)).run Tryz.prog (W.alloc (.cells zs 5)) = .ok (.string s) (W.alloc (.cells zs 5)) := by
  obtain ⟨iB, hiB, hB0, hB1, hB2⟩ := info_parts Tryz.infoB
  refine ⟨bs (List.replicate n 0), madeCells #[.int .u8 0] n, ?_, fun W => ?_, fun W => ?_⟩
  · show (List.replicate n (0 : UInt8)).toArray.size = n
    simp
  · have := run_make (P := Tryz.prog) W 86 5 iB (.int .u8 0) Tryz.underlying86 hiB hB0 .i64 .i64 (n : Int) (n : Int) (by omega) (Int.le_refl _) (by rw [hB2]; omega) (by omega)
    rw [Int.toNat_natCast, hB1, Nat.mul_one] at this
    exact this
  · rw [zer_cells]
    have hl : (List.replicate n (0 : UInt8)).length = n := by simp
    have := run_convert_bytes_back (P := Tryz.prog) (W.alloc (.cells ((List.replicate n (0 : UInt8)).map (fun b => Value.int .u8 (b.toNat : Int))).toArray 5)) 86 9 5 ⟨W.heap.size, 0, none⟩ n (List.replicate n 0) Tryz.underlying86 Tryz.underlying5 Tryz.underlying9 (fun j hj => by
      rw [gadd_new, Nat.zero_add]
      refine block_cell (World.alloc_heap_new W _) ?_
      have hjn : j < n := by simpa using hj
      simp [List.getElem?_map, List.getElem?_eq_getElem hj, hjn])
    rw [hl] at this
    exact this
/-- two slices lie apart -/
def Apart2 (x y : Value) : Prop := x.ownBlock = none ∨ y.ownBlock = none ∨ x.ownBlock ≠ y.ownBlock
theorem Apart2.kept {x y : Value} (h : Apart2 x y) : y.ownBlock = none ∨ y.ownBlock ≠ x.ownBlock := by
  rcases h with h | h | h
  · cases e : y.ownBlock with
    | none => exact .inl rfl
    | some k => exact .inr (by rw [h]; simp)
  · exact .inl h
  · exact .inr (Ne.symm h)
theorem Apart2.symm {x y : Value} (h : Apart2 x y) : Apart2 y x := by
  rcases h with h | h | h
  · exact .inr (.inl h)
  · exact .inl h
  · exact .inr (.inr (Ne.symm h))
theorem Apart2.step {x y x' : Value} {n : Nat} (h : Apart2 x y) (hl : ∀ k, y.ownBlock = some k → k < n) (hat : x'.ownBlock = x.ownBlock ∨ x'.ownBlock = some n) : Apart2 x' y := by
  rcases hat with e | e
  · unfold Apart2; rw [e]; exact h
  · cases hy : y.ownBlock with
    | none => exact .inr (.inl hy)
    | some k =>
      have := hl k hy
      refine .inr (.inr ?_)
      rw [e, hy]
      simp
      omega
/-- a row's cell is written -/
theorem row_setC {W : World} {base : Nat} {T : TypeId} {size g n cap : Nat} {xs : List Value} {j : Nat} {v : Value} (h : W.ownsRow base T size (.slice (some ⟨g, 0, none⟩) n cap) n xs) (hj : j < xs.length) :
    (W.setCell ⟨g, j, none⟩ v).ownsRow base T size (.slice (some ⟨g, 0, none⟩) n cap) n (xs.set j v) := by
  obtain ⟨h1, h2⟩ := h
  refine ⟨by simpa using h1, ?_⟩
  rcases h2 with ⟨e, _⟩ | ⟨g', cap', cur, e, hb, hg, hn, hm, hs, ht⟩
  · cases e
  · injection e with e1 e2 e3
    injection e1 with e1
    injection e1 with e1
    subst e1 e3
    refine .inr ⟨g, cap, cur.setIfInBounds j v, rfl, hb, Go.heap_setCell_same W g j cur T v hg, hn, hm, by simpa using hs, ?_⟩
    rw [Array.toList_setIfInBounds, List.take_set, ht]
theorem grown_setC {w : World} (p : Addr) (u : Value) : w.grownBy (w.setCell p u) (some p.block) :=
  ⟨rfl, rfl, rfl, by simp, fun k hk hn => heap_setCell_other w p k u (fun e => hn (by rw [e]))⟩
theorem row_formK {W : World} {base : Nat} {T : TypeId} {size n : Nat} {v : Value} {xs : List Value} (h : W.ownsRow base T size v n xs) (hn : n ≠ 0) : ∃ g cap cur, v = .slice (some ⟨g, 0, none⟩) n cap ∧ base ≤ g ∧ W.heap[g]? = some (.cells cur T (0, 0)) := by
  rcases h.2 with ⟨_, e⟩ | ⟨g, cap, cur, e, hb, hg, _⟩
  · exact absurd e hn
  · exact ⟨g, cap, cur, e, hb, hg⟩
theorem big_set (s t : ByteArray) : ((bigL s 16).flatMap entC).set 3 (.string t) = (bigE t 0 :: restE s).flatMap entC := rfl
theorem big_app (s t : ByteArray) : (bigE t 0 :: restE s).flatMap entC ++ entC eG = (bigX s t).flatMap entC := by
  unfold bigX
  rw [← List.cons_append, List.flatMap_append]
  rfl
theorem bigX_len (s t : ByteArray) : (bigX s t).length = 17 := rfl
end Go.Proofs.YtipfccfjniglbaaGreatDoor
