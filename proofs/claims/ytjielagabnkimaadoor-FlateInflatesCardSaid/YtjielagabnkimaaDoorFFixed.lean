/- flate.fixed: the fixed codes. -/
import Derived.Test.YtjielagabnkimaaDoorFCoded
set_option linter.unusedSimpArgs false
set_option linter.unusedVariables false
namespace Go.Proofs.YtjielagabnkimaaDoor
open Go.RowKit
def litLen (i : Nat) : Nat := if i < 144 then 8 else if i < 256 then 9 else if i < 280 then 7 else 8
def fixL : List Nat := (List.range 288).map litLen
def fixD : List Nat := List.replicate 32 5
theorem fixL_get (j : Nat) (h : j < 288) : fixL.getD j 0 = litLen j := by
  unfold fixL
  rw [List.getD_eq_getElem?_getD, List.getElem?_map, List.getElem?_range h]; rfl
theorem fixD_get (j : Nat) (h : j < 32) : fixD.getD j 0 = 5 := by
  unfold fixD
  rw [List.getD_eq_getElem?_getD, List.getElem?_replicate, if_pos h]; rfl
theorem wanted_plain {ops : Array Oper} {o : Oper} {a : Act} (h : o.guard = none) : Region.wanted o (yielded ops a.tmps) = true := by simp [Region.wanted, h]
theorem wpStill_load_row {P : Program} {ops : Array Oper} {w : World} {Q : Act → Prop} {a : Act} {o : Oper} {rest : List Oper} (hw : Region.wanted o (yielded ops a.tmps) = true) (ty : TypeId) (x : Operand) (ho : o.op = .load ty x)
    (g : Nat) (hx : a.eval x = .pointer (some ⟨g, 0, none⟩)) (t : TypeId) (cs : Array Value) (fr : Nat × Nat) (d : TypeDesc) (hg : w.heap[g]? = some (.cells cs t fr))
    (hu : P.underlying ty = some d) (hd : (match d with | .struct _ | .array _ _ => true | _ => false) = true) (hi : (P.info? ty).map (·.size) = some cs.size)
    (h : wpStill P ops w Q rest (a.put o.dst (.agg cs))) : wpStill P ops w Q (o :: rest) a := by
  refine wpStill_step fun K hK => ?_
  rw [if_pos hw]
  unfold Oper.still execOp
  simp only [ho, hx, Instr.loadAt, Instr.sureAddr, Sem.run_bind, Sem.run_pure, Result.andThen_ok, run_loadVar_row w g t ty cs fr d hg hu hd hi]
  rw [Oper.stillUpon_value]
  exact hK _ h
theorem results_cell_cell {fn : Func} {p u : Tmp} {ty : TypeId} {P : Program} (h : fn.results = #[.cell p ty, .cell u ty]) (tmps : Array Value) (w : World) (a b : Nat) (ca cb : Array Value)
    (hp : tmps.getD p undef = .pointer (some ⟨a, 0, none⟩)) (hq : tmps.getD u undef = .pointer (some ⟨b, 0, none⟩)) (ha : (loadVar ty ⟨a, 0, none⟩).run P w = .ok (.agg ca) w) (hb : (loadVar ty ⟨b, 0, none⟩).run P w = .ok (.agg cb) w) :
    (results fn tmps).run P w = .ok (.tuple #[.agg ca, .agg cb]) w := by
  have hp' : tmps[p]?.getD undef = .pointer (some ⟨a, 0, none⟩) := by simpa using hp
  have hq' : tmps[u]?.getD undef = .pointer (some ⟨b, 0, none⟩) := by simpa using hq
  simp [results, h, hp', hq', asAddr, ha, hb]
theorem ownsRow_below {w w' : World} {B base : Nat} {e : TypeId} {size : Nat} {v : Value} {n : Nat} {xs : List Value} (h : w.ownsRow base e size v n xs) (hb : Below B w w') (hB : w.heap.size ≤ B) : w'.ownsRow base e size v n xs := by
  refine ⟨h.1, ?_⟩
  rcases h.2 with h2 | ⟨g, cap, cur, rfl, h3, hg, h4⟩
  · exact .inl h2
  · exact .inr ⟨g, cap, cur, rfl, h3, (hb.block g (by have := heap_lt hg; omega)).trans hg, h4⟩
theorem ownsRow_mono {w : World} {base base' : Nat} {e : TypeId} {size : Nat} {v : Value} {n : Nat} {xs : List Value} (h : w.ownsRow base e size v n xs) (hb : base' ≤ base) : w.ownsRow base' e size v n xs := by
  refine ⟨h.1, ?_⟩
  rcases h.2 with h2 | ⟨g, cap, cur, rfl, h3, h4⟩
  · exact .inl h2
  · exact .inr ⟨g, cap, cur, rfl, Nat.le_trans hb h3, h4⟩
theorem codeCs_size (l : List Nat) (sv : Value) : (codeCs l sv).toArray.size = 17 := by simp [codeCs]
theorem codeCs_one (l : List Nat) {w : World} {base : Nat} {e : TypeId} {size : Nat} {v : Value} {n : Nat} {xs : List Value} (h : w.ownsRow base e size v n xs) : (codeCs l v).toArray.all (·.oneCell') = true := by
  obtain ⟨p, n, c, rfl⟩ := ownsRow_slice h
  rw [Array.all_eq_true_iff_forall_mem]
  intro x hx
  simp only [codeCs, List.mem_toArray, List.mem_append, List.mem_map, List.mem_singleton] at hx
  rcases hx with ⟨a, _, rfl⟩ | rfl <;> rfl
/-- a row of numbers that is being laid -/
def FillAt (w : World) (g n : Nat) (f : Nat → Nat) (i : Nat) : Prop := ∃ cur, w.heap[g]? = some (.cells cur 3 (0, 0)) ∧ cur.size = n ∧ ∀ j, j < i → cur[j]? = some (.int .i64 ((f j : Nat) : Int))
theorem FillAt.cell {w : World} {g n : Nat} {f : Nat → Nat} {i : Nat} (h : FillAt w g n f i) (j : Nat) (hj : j < n) : ∃ v, w.cell? ⟨g, j, none⟩ = some v ∧ w.frozen? ⟨g, j, none⟩ = false := by
  obtain ⟨cur, ho, hz, _⟩ := h
  exact ⟨cur[j]'(by omega), by rw [cell_of_row _ _ _ _ _ _ ho]; exact Array.getElem?_eq_getElem (by omega), frozen_of_row _ _ _ _ _ ho⟩
theorem FillAt.next {w : World} {g n : Nat} {f : Nat → Nat} {i : Nat} (h : FillAt w g n f i) (hi : i < n) (v : Int) (hv : v = (f i : Int)) : FillAt (w.setCell ⟨g, i, none⟩ (.int .i64 v)) g n f (i + 1) := by
  obtain ⟨cur, ho, hz, hc⟩ := h
  refine ⟨_, heap_setCell_same w g i cur _ _ ho, by rw [Array.size_setIfInBounds]; exact hz, fun j hj => ?_⟩
  by_cases hji : j = i
  · subst hji
    rw [Array.getElem?_setIfInBounds_self_of_lt (by omega), hv]
  · rw [Array.getElem?_setIfInBounds_ne (fun e => hji e.symm)]
    exact hc j (by omega)
theorem FillAt.ints {w : World} {g n : Nat} {f : Nat → Nat} (h : FillAt w g n f n) (l : List Nat) (hl : l.length = n) (hf : ∀ j, j < n → l.getD j 0 = f j) : IntsAt w g 0 l := by
  obtain ⟨cur, ho, hz, hc⟩ := h
  intro j hj
  rw [Nat.zero_add, cell_of_row _ _ _ _ _ _ ho, hc j (by omega), hf j (by omega)]

set_option maxRecDepth 100000 in
set_option maxHeartbeats 8000000 in
theorem fixed_any (w : World) :
    Calls Tryd.prog 36 #[] w fun e w' => ∃ sa sb, e = .returned (.tuple #[codeV fixL sa, codeV fixD sb]) ∧ w'.ownsRow w.heap.size 3 1 sa (symsN fixL).length ((symsN fixL).map encI) ∧ w'.ownsRow w.heap.size 3 1 sb (symsN fixD).length ((symsN fixD).map encI) ∧ Below w.heap.size w w' := by
  obtain ⟨fl, hfl⟩ : ∃ l, l = fixL := ⟨_, rfl⟩
  obtain ⟨fd, hfd⟩ : ∃ l, l = fixD := ⟨_, rfl⟩
  rw [← hfl, ← hfd]
  have Hfl := Lib.hid hfl
  have Hfd := Lib.hid hfd
  clear hfl hfd
  have hmk1 : ∀ W : World, (Instr.makeSlice 52 (.int .i64 288) (.int .i64 288)).run Tryd.prog W = .ok (.slice (some ⟨W.heap.size, 0, none⟩) 288 288) (W.alloc (.cells (madeCells #[.int .i64 0] 288) 3)) := run_make_row' (P := Tryd.prog) 52 3 (.int .i64 0) 8 Tryd.underlying52 Tryd.info_int rfl .i64 .i64 288 (by decide) (by decide)
  have hmk2 : ∀ W : World, (Instr.makeSlice 52 (.int .i64 32) (.int .i64 32)).run Tryd.prog W = .ok (.slice (some ⟨W.heap.size, 0, none⟩) 32 32) (W.alloc (.cells (madeCells #[.int .i64 0] 32) 3)) := run_make_row' (P := Tryd.prog) 52 3 (.int .i64 0) 8 Tryd.underlying52 Tryd.info_int rfl .i64 .i64 32 (by decide) (by decide)
  go_enter Tryd.func36, Tryd.ntmps36
  go_wp2_with fail
  have hL0 : FillAt (((w.alloc (.cells zeroCode 64)).alloc (.cells zeroCode 64)).alloc (.cells (madeCells #[.int .i64 0] 288) 3)) (w.heap.size + 1 + 1) 288 litLen 0 := by
    refine ⟨madeCells #[.int .i64 0] 288, ?_, size_madeCells _ _, fun j hj => by omega⟩
    have h := World.alloc_heap_new ((w.alloc (.cells zeroCode 64)).alloc (.cells zeroCode 64)) (.cells (madeCells #[.int .i64 0] 288) 3)
    simp only [World.size_alloc] at h
    exact h
  have hA0 : (((w.alloc (.cells zeroCode 64)).alloc (.cells zeroCode 64)).alloc (.cells (madeCells #[.int .i64 0] 288) 3)).heap[w.heap.size]? = some (.cells zeroCode 64 (0, 0)) := by
    rw [heap_alloc_old _ _ (by simp only [World.size_alloc]; omega), heap_alloc_old _ _ (by simp only [World.size_alloc]; omega)]
    exact World.alloc_heap_new w _
  have hB0 : (((w.alloc (.cells zeroCode 64)).alloc (.cells zeroCode 64)).alloc (.cells (madeCells #[.int .i64 0] 288) 3)).heap[w.heap.size + 1]? = some (.cells zeroCode 64 (0, 0)) := by
    rw [heap_alloc_old _ _ (by simp only [World.size_alloc]; omega)]
    have h := World.alloc_heap_new (w.alloc (.cells zeroCode 64)) (.cells zeroCode 64)
    simp only [World.size_alloc] at h
    exact h
  have hW0 : Below w.heap.size w (((w.alloc (.cells zeroCode 64)).alloc (.cells zeroCode 64)).alloc (.cells (madeCells #[.int .i64 0] 288) 3)) := (((Below.refl _ _).alloc (Nat.le_refl _) _).alloc (by simp only [World.size_alloc]; omega) _).alloc (by simp only [World.size_alloc]; omega) _
  unfold zeroCode at hL0 hA0 hB0 hW0
  have HL0 := Lib.hid hL0
  have HA0 := Lib.hid hA0
  have HB0 := Lib.hid hB0
  have HW0 := Lib.hid hW0
  clear hL0 hA0 hB0 hW0 hmk1
  generalize hLL : w.heap.size + 1 + 1 = L at *
  generalize hCC : w.heap.size + 1 = B1 at *
  generalize hBB : w.heap.size = B at *
  have HBB := Lib.hid hBB
  generalize hw0 : ((w.alloc (.cells #[Value.int IntKind.i64 0, Value.int IntKind.i64 0, Value.int IntKind.i64 0, Value.int IntKind.i64 0, Value.int IntKind.i64 0, Value.int IntKind.i64 0, Value.int IntKind.i64 0, Value.int IntKind.i64 0, Value.int IntKind.i64 0, Value.int IntKind.i64 0, Value.int IntKind.i64 0, Value.int IntKind.i64 0, Value.int IntKind.i64 0, Value.int IntKind.i64 0, Value.int IntKind.i64 0, Value.int IntKind.i64 0, Value.slice none 0 0] 64)).alloc (.cells #[Value.int IntKind.i64 0, Value.int IntKind.i64 0, Value.int IntKind.i64 0, Value.int IntKind.i64 0, Value.int IntKind.i64 0, Value.int IntKind.i64 0, Value.int IntKind.i64 0, Value.int IntKind.i64 0, Value.int IntKind.i64 0, Value.int IntKind.i64 0, Value.int IntKind.i64 0, Value.int IntKind.i64 0, Value.int IntKind.i64 0, Value.int IntKind.i64 0, Value.int IntKind.i64 0, Value.int IntKind.i64 0, Value.slice none 0 0] 64)).alloc (.cells (madeCells #[.int .i64 0] 288) 3) = w0 at *
  clear hw0 hBB
  go_loopw [13] (fun iv wr => ∃ i : Nat, iv = .int .i64 (i : Int) ∧ i ≤ 288 ∧ FillAt wr L 288 litLen i ∧ wr.heap[B]? = some (.cells #[Value.int IntKind.i64 0, Value.int IntKind.i64 0, Value.int IntKind.i64 0, Value.int IntKind.i64 0, Value.int IntKind.i64 0, Value.int IntKind.i64 0, Value.int IntKind.i64 0, Value.int IntKind.i64 0, Value.int IntKind.i64 0, Value.int IntKind.i64 0, Value.int IntKind.i64 0, Value.int IntKind.i64 0, Value.int IntKind.i64 0, Value.int IntKind.i64 0, Value.int IntKind.i64 0, Value.int IntKind.i64 0, Value.slice none 0 0] 64 (0, 0)) ∧ wr.heap[B1]? = some (.cells #[Value.int IntKind.i64 0, Value.int IntKind.i64 0, Value.int IntKind.i64 0, Value.int IntKind.i64 0, Value.int IntKind.i64 0, Value.int IntKind.i64 0, Value.int IntKind.i64 0, Value.int IntKind.i64 0, Value.int IntKind.i64 0, Value.int IntKind.i64 0, Value.int IntKind.i64 0, Value.int IntKind.i64 0, Value.int IntKind.i64 0, Value.int IntKind.i64 0, Value.int IntKind.i64 0, Value.int IntKind.i64 0, Value.slice none 0 0] 64 (0, 0)) ∧ Below B w wr) (fun iv _ => 288 - (intOf iv).toNat)
  case atStart => exact ⟨0, rfl, by omega, HL0.out, HA0.out, HB0.out, HW0.out⟩
  case round =>
    obtain ⟨i, rfl, hi, hL, hA, hB, hW⟩ := hrel
    have HL := Lib.hid hL
    have HA := Lib.hid hA
    have HB := Lib.hid hB
    have HW := Lib.hid hW
    clear hL hA hB hW
    by_cases hlt : (i : Int) < 288
    · obtain ⟨ov, c1, c2⟩ := HL.out.cell i (by omega)
      have hkeepA : ∀ v, (wr.setCell ⟨L, i, none⟩ v).heap[B]? = some (.cells #[Value.int IntKind.i64 0, Value.int IntKind.i64 0, Value.int IntKind.i64 0, Value.int IntKind.i64 0, Value.int IntKind.i64 0, Value.int IntKind.i64 0, Value.int IntKind.i64 0, Value.int IntKind.i64 0, Value.int IntKind.i64 0, Value.int IntKind.i64 0, Value.int IntKind.i64 0, Value.int IntKind.i64 0, Value.int IntKind.i64 0, Value.int IntKind.i64 0, Value.int IntKind.i64 0, Value.int IntKind.i64 0, Value.slice none 0 0] 64 (0, 0)) := fun v => (heap_setCell_other wr ⟨L, i, none⟩ B v (by show B ≠ L; omega)).trans HA.out
      have hkeepB : ∀ v, (wr.setCell ⟨L, i, none⟩ v).heap[B1]? = some (.cells #[Value.int IntKind.i64 0, Value.int IntKind.i64 0, Value.int IntKind.i64 0, Value.int IntKind.i64 0, Value.int IntKind.i64 0, Value.int IntKind.i64 0, Value.int IntKind.i64 0, Value.int IntKind.i64 0, Value.int IntKind.i64 0, Value.int IntKind.i64 0, Value.int IntKind.i64 0, Value.int IntKind.i64 0, Value.int IntKind.i64 0, Value.int IntKind.i64 0, Value.int IntKind.i64 0, Value.int IntKind.i64 0, Value.slice none 0 0] 64 (0, 0)) := fun v => (heap_setCell_other wr ⟨L, i, none⟩ B1 v (by show B1 ≠ L; omega)).trans HB.out
      have HkA := Lib.hid hkeepA
      have HkB := Lib.hid hkeepB
      clear hkeepA hkeepB
      have rel : ∀ v : Int, v = ((litLen i : Nat) : Int) → FillAt (wr.setCell ⟨L, i, none⟩ (.int .i64 v)) L 288 litLen (i + 1) ∧ (wr.setCell ⟨L, i, none⟩ (.int .i64 v)).heap[B]? = some (.cells #[Value.int IntKind.i64 0, Value.int IntKind.i64 0, Value.int IntKind.i64 0, Value.int IntKind.i64 0, Value.int IntKind.i64 0, Value.int IntKind.i64 0, Value.int IntKind.i64 0, Value.int IntKind.i64 0, Value.int IntKind.i64 0, Value.int IntKind.i64 0, Value.int IntKind.i64 0, Value.int IntKind.i64 0, Value.int IntKind.i64 0, Value.int IntKind.i64 0, Value.int IntKind.i64 0, Value.int IntKind.i64 0, Value.slice none 0 0] 64 (0, 0)) ∧ (wr.setCell ⟨L, i, none⟩ (.int .i64 v)).heap[B1]? = some (.cells #[Value.int IntKind.i64 0, Value.int IntKind.i64 0, Value.int IntKind.i64 0, Value.int IntKind.i64 0, Value.int IntKind.i64 0, Value.int IntKind.i64 0, Value.int IntKind.i64 0, Value.int IntKind.i64 0, Value.int IntKind.i64 0, Value.int IntKind.i64 0, Value.int IntKind.i64 0, Value.int IntKind.i64 0, Value.int IntKind.i64 0, Value.int IntKind.i64 0, Value.int IntKind.i64 0, Value.int IntKind.i64 0, Value.slice none 0 0] 64 (0, 0)) ∧ Below B w (wr.setCell ⟨L, i, none⟩ (.int .i64 v)) :=
        fun v hv => ⟨HL.out.next (by omega) v hv, HkA.out _, HkB.out _, HW.out.setCell (p := ⟨L, i, none⟩) (by show B ≤ L; omega) _⟩
      have Rel := Lib.hid rel
      clear rel
      by_cases h1 : (i : Int) < 144
      · go_wp2_with fail
        go_roundw
        case rel => exact ⟨i + 1, by go_num, by omega, Rel.out 8 (by unfold litLen; rw [if_pos (by omega)]; rfl)⟩
        case measure => simp [intOf]; omega
      · by_cases h2 : (i : Int) < 256
        · go_wp2_with fail
          go_roundw
          case rel => exact ⟨i + 1, by go_num, by omega, Rel.out 9 (by unfold litLen; rw [if_neg (by omega), if_pos (by omega)]; rfl)⟩
          case measure => simp [intOf]; omega
        · by_cases h3 : (i : Int) < 280
          · go_wp2_with fail
            go_roundw
            case rel => exact ⟨i + 1, by go_num, by omega, Rel.out 7 (by unfold litLen; rw [if_neg (by omega), if_neg (by omega), if_pos (by omega)]; rfl)⟩
            case measure => simp [intOf]; omega
          · go_wp2_with fail
            go_roundw
            case rel => exact ⟨i + 1, by go_num, by omega, Rel.out 8 (by unfold litLen; rw [if_neg (by omega), if_neg (by omega), if_neg (by omega)]; rfl)⟩
            case measure => simp [intOf]; omega
    · obtain rfl : i = 288 := by omega
      have hL2 : FillAt (wr.alloc (.cells (madeCells #[.int .i64 0] 32) 3)) wr.heap.size 32 (fun _ => 5) 0 := ⟨madeCells #[.int .i64 0] 32, World.alloc_heap_new wr _, size_madeCells _ _, fun j hj => by omega⟩
      have hW2 : Below wr.heap.size wr (wr.alloc (.cells (madeCells #[.int .i64 0] 32) 3)) := (Below.refl _ _).alloc (Nat.le_refl _) _
      have HL2 := Lib.hid hL2
      have HW2 := Lib.hid hW2
      clear hL2 hW2
      obtain ⟨w1, hw1⟩ : ∃ x, x = wr := ⟨_, rfl⟩
      subst hw1
      go_wp2_with fail
      clear hmk2
      generalize hw2 : w1.alloc (.cells (madeCells #[.int .i64 0] 32) 3) = w2 at *
      generalize hL3 : w1.heap.size = L2 at *
      clear hw2
      go_loopw [41] (fun iv wr => ∃ i : Nat, iv = .int .i64 (i : Int) ∧ i ≤ 32 ∧ FillAt wr L2 32 (fun _ => 5) i ∧ Below L2 w1 wr) (fun iv _ => 32 - (intOf iv).toNat)
      case atStart => exact ⟨0, rfl, by omega, HL2.out, HW2.out⟩
      case round =>
        obtain ⟨i, rfl, hi2, hF, hV⟩ := hrel
        have HF := Lib.hid hF
        have HV := Lib.hid hV
        clear hF hV
        by_cases hlt : (i : Int) < 32
        · obtain ⟨ov, c1, c2⟩ := HF.out.cell i (by omega)
          go_wp2_with fail
          go_roundw
          case rel => exact ⟨i + 1, by go_num, by omega, HF.out.next (by omega) 5 rfl, HV.out.setCell (p := ⟨L2, i, none⟩) (Nat.le_refl _) _⟩
          case measure => simp [intOf]; omega
        · obtain rfl : i = 32 := by omega
          have hLlt := heap_lt (HL.out.choose_spec.1)
          have hVs := HV.out.size
          have hI1 : IntsAt wr L 0 fl := fun j hj => by
            rw [HV.out.cell (p := ⟨L, 0 + j, none⟩) (by show L < L2; omega)]
            exact HL.out.ints fl (by rw [Hfl.out]; simp [fixL]) (fun j hj => by rw [Hfl.out]; exact fixL_get j hj) j hj
          have hI2 : IntsAt wr L2 0 fd := HF.out.ints fd (by rw [Hfd.out]; simp [fixD]) (fun j hj => by rw [Hfd.out]; exact fixD_get j hj)
          have hfl288 : fl.length = 288 := by rw [Hfl.out]; simp [fixL]
          have hfd32 : fd.length = 32 := by rw [Hfd.out]; simp [fixD]
          have hc1 := coded_any L 0 288 fl wr hI1 (by omega) (by omega) (by
            intro x hx
            rw [Hfl.out] at hx
            simp only [fixL, List.mem_map, List.mem_range] at hx
            obtain ⟨a, _, rfl⟩ := hx
            unfold litLen
            repeat' split
            all_goals omega)
          rw [hfl288] at hc1
          have hL2lt := heap_lt (HF.out.choose_spec.1)
          have hA2 : wr.heap[B]? = some (.cells #[Value.int IntKind.i64 0, Value.int IntKind.i64 0, Value.int IntKind.i64 0, Value.int IntKind.i64 0, Value.int IntKind.i64 0, Value.int IntKind.i64 0, Value.int IntKind.i64 0, Value.int IntKind.i64 0, Value.int IntKind.i64 0, Value.int IntKind.i64 0, Value.int IntKind.i64 0, Value.int IntKind.i64 0, Value.int IntKind.i64 0, Value.int IntKind.i64 0, Value.int IntKind.i64 0, Value.int IntKind.i64 0, Value.slice none 0 0] 64 (0, 0)) := (HV.out.block B (by omega)).trans HA.out
          have hB2 : wr.heap[B1]? = some (.cells #[Value.int IntKind.i64 0, Value.int IntKind.i64 0, Value.int IntKind.i64 0, Value.int IntKind.i64 0, Value.int IntKind.i64 0, Value.int IntKind.i64 0, Value.int IntKind.i64 0, Value.int IntKind.i64 0, Value.int IntKind.i64 0, Value.int IntKind.i64 0, Value.int IntKind.i64 0, Value.int IntKind.i64 0, Value.int IntKind.i64 0, Value.int IntKind.i64 0, Value.int IntKind.i64 0, Value.int IntKind.i64 0, Value.slice none 0 0] 64 (0, 0)) := (HV.out.block B1 (by omega)).trans HB.out
          have hW2 : Below B w wr := HW.out.trans (HV.out.mono (by omega))
          have HI2 := Lib.hid hI2
          have HC1 := Lib.hid hc1
          have HA2 := Lib.hid hA2
          have HB2 := Lib.hid hB2
          have HW2 := Lib.hid hW2
          clear hI1 hI2 hc1 hA2 hB2 hW2
          go_wp2_with (first
            | (go_at_call 65; refine (HC1.out).mono ?_; rintro e w5 ⟨sa, rfl, hsa, hb5⟩
               clear HC1
               have hz5 := hb5.size
               obtain ⟨ca, hca⟩ : ∃ c, c = (codeCs fl sa).toArray := ⟨_, rfl⟩
               rw [show codeV fl sa = .agg ca from by rw [hca]; rfl]
               have hsa1 := codeCs_one fl hsa
               rw [← hca] at hsa1
               have hsaz := codeCs_size fl sa
               rw [← hca] at hsaz
               have Hca := Lib.hid hca
               clear hca
               have hA5 := (hb5.block B (by omega)).trans HA2.out
               have hB5 := (hb5.block B1 (by omega)).trans HB2.out
               have hI5 : IntsAt w5 L2 0 fd := fun j hj => (hb5.cell (p := ⟨L2, 0 + j, none⟩) (by show L2 < wr.heap.size; omega)).trans (HI2.out j hj)
               have Hsa := Lib.hid hsa
               have Hsa1 := Lib.hid hsa1
               have Hb5 := Lib.hid hb5
               have HA5 := Lib.hid hA5
               have HB5 := Lib.hid hB5
               have HI5 := Lib.hid hI5
               clear hsa hsa1 hb5 hA5 hB5 hI5)
            | (refine wpList_store_row rfl _ _ _ rfl w5.heap.size ca rfl rfl 64 _ (World.alloc_heap_new w5 _) (by rw [hsaz]; kernel_rfl) (by rw [hsaz]; rfl) Hsa1.out ?_))
          obtain ⟨w6, hw6⟩ : ∃ x, x = (w5.alloc (.cells zeroCode 64)).setRow w5.heap.size ca := ⟨_, rfl⟩
          unfold zeroCode at hw6
          rw [← hw6]
          have hk6 : w6.heap[w5.heap.size]? = some (.cells ca 64 (0, 0)) := by rw [hw6]; exact setRow_heap _ _ _ _ _ _ (World.alloc_heap_new w5 _)
          have hb6 : Below w5.heap.size w5 w6 := by
            rw [hw6]
            exact ⟨rfl, rfl, rfl, by simp, fun k hk => (setRow_other _ _ k _ (by omega)).trans (heap_alloc_old w5 _ hk)⟩
          have hz6 : w6.heap.size = w5.heap.size + 1 := by rw [hw6]; simp
          have hI6 : IntsAt w6 L2 0 fd := fun j hj => (hb6.cell (p := ⟨L2, 0 + j, none⟩) (by show L2 < w5.heap.size; omega)).trans (HI5.out j hj)
          have hc2 := coded_any L2 0 32 fd w6 hI6 (by omega) (by omega) (by
            intro x hx
            rw [Hfd.out] at hx
            have := List.eq_of_mem_replicate hx
            omega)
          rw [hfd32] at hc2
          have HC2 := Lib.hid hc2
          have Hk6 := Lib.hid hk6
          have Hb6 := Lib.hid hb6
          clear hc2 hk6 hb6 hI6 hw6
          go_wp2_with (first
            | (go_at_call 65; refine (HC2.out).mono ?_; rintro e w7 ⟨sb, rfl, hsb, hb7⟩
               clear HC2
               have hz7 := hb7.size
               obtain ⟨cb, hcb⟩ : ∃ c, c = (codeCs fd sb).toArray := ⟨_, rfl⟩
               rw [show codeV fd sb = .agg cb from by rw [hcb]; rfl]
               have hsb1 := codeCs_one fd hsb
               rw [← hcb] at hsb1
               have hsbz := codeCs_size fd sb
               rw [← hcb] at hsbz
               have Hcb := Lib.hid hcb
               clear hcb
               have Hsb := Lib.hid hsb
               have Hsb1 := Lib.hid hsb1
               have Hb7 := Lib.hid hb7
               clear hsb hsb1 hb7)
            | (refine wpList_store_row rfl _ _ _ rfl w7.heap.size cb rfl rfl 64 _ (World.alloc_heap_new w7 _) (by rw [hsbz]; kernel_rfl) (by rw [hsbz]; rfl) Hsb1.out ?_))
          obtain ⟨w8, hw8⟩ : ∃ x, x = (w7.alloc (.cells zeroCode 64)).setRow w7.heap.size cb := ⟨_, rfl⟩
          unfold zeroCode at hw8
          rw [← hw8]
          have hk8 : w8.heap[w7.heap.size]? = some (.cells cb 64 (0, 0)) := by rw [hw8]; exact setRow_heap _ _ _ _ _ _ (World.alloc_heap_new w7 _)
          have hb8 : Below w7.heap.size w7 w8 := by
            rw [hw8]
            exact ⟨rfl, rfl, rfl, by simp, fun k hk => (setRow_other _ _ k _ (by omega)).trans (heap_alloc_old w7 _ hk)⟩
          have hb68 : Below w6.heap.size w6 w8 := Hb7.out.trans (hb8.mono hz7)
          have hb58 : Below w5.heap.size w5 w8 := Hb6.out.trans (hb68.mono (by omega))
          have hj8 : w8.heap[w5.heap.size]? = some (.cells ca 64 (0, 0)) := (hb68.block _ (by omega)).trans Hk6.out
          have hA8 : w8.heap[B]? = some (.cells #[Value.int IntKind.i64 0, Value.int IntKind.i64 0, Value.int IntKind.i64 0, Value.int IntKind.i64 0, Value.int IntKind.i64 0, Value.int IntKind.i64 0, Value.int IntKind.i64 0, Value.int IntKind.i64 0, Value.int IntKind.i64 0, Value.int IntKind.i64 0, Value.int IntKind.i64 0, Value.int IntKind.i64 0, Value.int IntKind.i64 0, Value.int IntKind.i64 0, Value.int IntKind.i64 0, Value.int IntKind.i64 0, Value.slice none 0 0] 64 (0, 0)) := (hb58.block B (by omega)).trans HA5.out
          have hB8 : w8.heap[B1]? = some (.cells #[Value.int IntKind.i64 0, Value.int IntKind.i64 0, Value.int IntKind.i64 0, Value.int IntKind.i64 0, Value.int IntKind.i64 0, Value.int IntKind.i64 0, Value.int IntKind.i64 0, Value.int IntKind.i64 0, Value.int IntKind.i64 0, Value.int IntKind.i64 0, Value.int IntKind.i64 0, Value.int IntKind.i64 0, Value.int IntKind.i64 0, Value.int IntKind.i64 0, Value.int IntKind.i64 0, Value.int IntKind.i64 0, Value.slice none 0 0] 64 (0, 0)) := (hb58.block B1 (by omega)).trans HB5.out
          have hW8 : Below B w w8 := HW2.out.trans ((Hb5.out.trans (hb58.mono (by omega))).mono (by omega))
          have hsa8 := ownsRow_below Hsa.out hb58 (Nat.le_refl _)
          have hsb8 := ownsRow_below Hsb.out hb8 (Nat.le_refl _)
          clear hw8
          have q1 : ((w8.drew.setRow B ca).setRow B1 cb).heap[B]? = some (.cells ca 64 (0, 0)) := (setRow_other _ B1 B cb (by omega)).trans (setRow_heap w8.drew B _ ca _ _ hA8)
          have q2 : ((w8.drew.setRow B ca).setRow B1 cb).heap[B1]? = some (.cells cb 64 (0, 0)) := setRow_heap _ B1 _ cb _ _ ((setRow_other w8.drew B B1 ca (by omega)).trans hB8)
          have q3 : ∀ k, k ≠ B → k ≠ B1 → ((w8.drew.setRow B ca).setRow B1 cb).heap[k]? = w8.heap[k]? := fun k h1 h2 => (setRow_other _ B1 k cb h2).trans (setRow_other w8.drew B k ca h1)
          have q4 : ((w8.drew.setRow B ca).setRow B1 cb).heap.size = w8.heap.size := by simp
          have qk : Keeps (fun k _ => k ≠ B ∧ k ≠ B1) w8 ((w8.drew.setRow B ca).setRow B1 cb) := ⟨rfl, rfl, rfl, by rw [q4]; exact Nat.le_refl _, fun k o hk ho => (q3 k ho.1 ho.2).trans hk⟩
          have fin : ∃ sa sb, Ending.returned (.tuple #[.agg ca, .agg cb]) = .returned (.tuple #[codeV fl sa, codeV fd sb]) ∧ ((w8.drew.setRow B ca).setRow B1 cb).ownsRow w.heap.size 3 1 sa (symsN fl).length ((symsN fl).map encI) ∧ ((w8.drew.setRow B ca).setRow B1 cb).ownsRow w.heap.size 3 1 sb (symsN fd).length ((symsN fd).map encI) ∧ Below w.heap.size w ((w8.drew.setRow B ca).setRow B1 cb) := by
            refine ⟨sa, sb, by rw [Hca.out, Hcb.out]; rfl, ?_, ?_, ?_⟩
            · exact ownsRow_mono (ownsRow_keeps hsa8 qk (fun k cs e => by have := (hsa8.lt k e).1; constructor <;> omega)) (by rw [HBB.out]; omega)
            · exact ownsRow_mono (ownsRow_keeps hsb8 qk (fun k cs e => by have := (hsb8.lt k e).1; constructor <;> omega)) (by rw [HBB.out]; omega)
            · rw [HBB.out]
              exact hW8.trans (qk.below (by have := hW8.size; rw [HBB.out] at this; exact this) (fun k o hk => ⟨by omega, by omega⟩))
          have Fin := Lib.hid fin
          clear fin q3 q4 qk hsa8 hsb8
          have ql1 := run_loadVar_row (P := Tryd.prog) _ B 64 64 ca (0, 0) _ q1 Tryd.underlying64 rfl (by rw [hsaz]; kernel_rfl)
          have ql2 := run_loadVar_row (P := Tryd.prog) _ B1 64 64 cb (0, 0) _ q2 Tryd.underlying64 rfl (by rw [hsbz]; kernel_rfl)
          refine wp_region_any (by kernel_rfl) ?_
          change wpAny _ _ _ _ _ _ _ (World.drew _)
          refine wpAny_ready (rs := [0, 1]) (by kernel_rfl) (by simp) ?_
          refine AllReady.cons rfl (fun J hJ => ?_) (AllReady.cons rfl (fun J hJ => ?_) AllReady.nil)
          · refine Eq.mpr (if_pos (wanted_plain rfl)) ?_
            refine wp_load_row _ _ rfl w5.heap.size rfl 64 ca (0, 0) _ (hj8) Tryd.underlying64 rfl (by rw [hsaz]; kernel_rfl) ?_
            refine hJ _ _ ?_
            clear hJ J
            refine wpAny_ready (rs := [1, 2]) (by kernel_rfl) (by simp) ?_
            refine AllReady.cons rfl (fun J hJ => ?_) (AllReady.cons rfl (fun J hJ => ?_) AllReady.nil)
            · refine Eq.mpr (if_pos (wanted_plain rfl)) ?_
              refine wp_load_row _ _ rfl w7.heap.size rfl 64 cb (0, 0) _ (hk8) Tryd.underlying64 rfl (by rw [hsbz]; kernel_rfl) ?_
              refine hJ _ _ ?_
              clear hJ J
              refine wpAny_ready (rs := [2]) (by kernel_rfl) (by simp) ?_
              refine AllReady.cons rfl (fun J hJ => ?_) AllReady.nil
              refine Eq.mpr (if_pos (wanted_plain rfl)) ?_
              refine wp_store_row _ _ _ rfl B ca rfl rfl 64 _ (show w8.drew.heap[B]? = _ from hA8) (by rw [hsaz]; kernel_rfl) (by rw [hsaz]; rfl) Hsa1.out ?_
              refine hJ _ _ ?_
              clear hJ J
              refine wpAny_ready (rs := [3]) (by kernel_rfl) (by simp) ?_
              refine AllReady.cons rfl (fun J hJ => ?_) AllReady.nil
              refine Eq.mpr (if_pos (wanted_plain rfl)) ?_
              refine wp_store_row _ _ _ rfl B1 cb rfl rfl 64 _ ((setRow_other w8.drew B B1 ca (by omega)).trans (show w8.drew.heap[B1]? = _ from hB8)) (by rw [hsbz]; kernel_rfl) (by rw [hsbz]; rfl) Hsb1.out ?_
              refine hJ _ _ ?_
              clear hJ J
              refine wpAny_done (by kernel_rfl) ?_ _
              go_wp2_with fail
              refine bodyPost_ret (v := .tuple #[.agg ca, .agg cb]) (results_cell_cell rfl _ _ B B1 ca cb rfl rfl ql1 ql2) rfl ?_
              exact Fin.out
            · refine Eq.mpr (if_pos (wanted_plain rfl)) ?_
              refine wp_store_row _ _ _ rfl B ca rfl rfl 64 _ (show w8.drew.heap[B]? = _ from hA8) (by rw [hsaz]; kernel_rfl) (by rw [hsaz]; rfl) Hsa1.out ?_
              refine hJ _ _ ?_
              clear hJ J
              refine wpAny_ready (rs := [1]) (by kernel_rfl) (by simp) ?_
              refine AllReady.cons rfl (fun J hJ => ?_) AllReady.nil
              refine Eq.mpr (if_pos (wanted_plain rfl)) ?_
              refine wp_load_row _ _ rfl w7.heap.size rfl 64 cb (0, 0) _ ((setRow_other w8.drew B w7.heap.size ca (by omega)).trans hk8) Tryd.underlying64 rfl (by rw [hsbz]; kernel_rfl) ?_
              refine hJ _ _ ?_
              clear hJ J
              refine wpAny_ready (rs := [3]) (by kernel_rfl) (by simp) ?_
              refine AllReady.cons rfl (fun J hJ => ?_) AllReady.nil
              refine Eq.mpr (if_pos (wanted_plain rfl)) ?_
              refine wp_store_row _ _ _ rfl B1 cb rfl rfl 64 _ ((setRow_other w8.drew B B1 ca (by omega)).trans (show w8.drew.heap[B1]? = _ from hB8)) (by rw [hsbz]; kernel_rfl) (by rw [hsbz]; rfl) Hsb1.out ?_
              refine hJ _ _ ?_
              clear hJ J
              refine wpAny_done (by kernel_rfl) ?_ _
              go_wp2_with fail
              refine bodyPost_ret (v := .tuple #[.agg ca, .agg cb]) (results_cell_cell rfl _ _ B B1 ca cb rfl rfl ql1 ql2) rfl ?_
              exact Fin.out
          · refine Eq.mpr (if_pos (wanted_plain rfl)) ?_
            refine wp_load_row _ _ rfl w7.heap.size rfl 64 cb (0, 0) _ (hk8) Tryd.underlying64 rfl (by rw [hsbz]; kernel_rfl) ?_
            refine hJ _ _ ?_
            clear hJ J
            refine wpAny_ready (rs := [0]) (by kernel_rfl) (by simp) ?_
            refine AllReady.cons rfl (fun J hJ => ?_) AllReady.nil
            refine Eq.mpr (if_pos (wanted_plain rfl)) ?_
            refine wp_load_row _ _ rfl w5.heap.size rfl 64 ca (0, 0) _ (hj8) Tryd.underlying64 rfl (by rw [hsaz]; kernel_rfl) ?_
            refine hJ _ _ ?_
            clear hJ J
            refine wpAny_ready (rs := [2]) (by kernel_rfl) (by simp) ?_
            refine AllReady.cons rfl (fun J hJ => ?_) AllReady.nil
            refine Eq.mpr (if_pos (wanted_plain rfl)) ?_
            refine wp_store_row _ _ _ rfl B ca rfl rfl 64 _ (show w8.drew.heap[B]? = _ from hA8) (by rw [hsaz]; kernel_rfl) (by rw [hsaz]; rfl) Hsa1.out ?_
            refine hJ _ _ ?_
            clear hJ J
            refine wpAny_ready (rs := [3]) (by kernel_rfl) (by simp) ?_
            refine AllReady.cons rfl (fun J hJ => ?_) AllReady.nil
            refine Eq.mpr (if_pos (wanted_plain rfl)) ?_
            refine wp_store_row _ _ _ rfl B1 cb rfl rfl 64 _ ((setRow_other w8.drew B B1 ca (by omega)).trans (show w8.drew.heap[B1]? = _ from hB8)) (by rw [hsbz]; kernel_rfl) (by rw [hsbz]; rfl) Hsb1.out ?_
            refine hJ _ _ ?_
            clear hJ J
            refine wpAny_done (by kernel_rfl) ?_ _
            go_wp2_with fail
            refine bodyPost_ret (v := .tuple #[.agg ca, .agg cb]) (results_cell_cell rfl _ _ B B1 ca cb rfl rfl ql1 ql2) rfl ?_
            exact Fin.out
end Go.Proofs.YtjielagabnkimaaDoor
