/- What the rows of this seat have in common: what the laid tables give the walks, worlds that meet the lists, the post. -/
import Derived.Test.YtjielagabnkimaaDoorFWorks
import Derived.Test.YtjielagabnkimaaDoorPlain
import Derived.Test.YtjielagabnkimaaDoorCards
import Derived.Test.YtjielagabnkimaaDoorTie
import Derived.WalkKit
import Derived.ProofKit
import Derived.OpenShut
import Derived.ShutString
import Derived.ChangeSame
import Derived.ChangeMaps5
import Derived.Below
import Derived.LaidLaws
import Derived.LaidHandle
import Derived.Lib.LaidTab
import Derived.Deep.DeepHandedRow
set_option linter.unusedVariables false
namespace Go.Proofs.YtjielagabnkimaaDoor
open Go.ChangeShapes Go.WideShapes Go.ChangeAt Go.RowKit

theorem ownOf : ownKnob Tryd.prog.godebug = none := by kernel_rfl
/-- one variable of a laid list -/
theorem laid_at {P : Program} {W : World} {name : String} {d : DataW Unit} : ∀ {l : List (String × DataW Unit)} {ps : List MemPlace}, DataW.LaidVars P W l ps → (name, d) ∈ l →
    ∃ g t cs fuel p, P.globalNamed name = some g ∧ (P.globals[g]?).map (·.type) = some t ∧ W.var? P name = some cs ∧ DataW.trod (fun _ => ()) P W 0 (fun _ => true) false fuel t cs.toList = some (d, p)
  | [], _, _, hm => by cases hm
  | (n, e) :: r, ps, h, hm => by
    obtain ⟨g, t, cs, fuel, p, q, h1, h2, h3, h4, h5, _⟩ := h
    rcases List.mem_cons.1 hm with e1 | hm
    · cases e1
      exact ⟨g, t, cs, fuel, p, h1, h2, h3, h4⟩
    · exact laid_at h5 hm
/-- a table of spans as a row lists it -/
def spanData {H : Type} (T : List (Nat × Nat)) : DataW H := .agg (T.map fun x => .agg [.lit (.int .i64 (x.1 : Int)), .lit (.int .i64 (x.2 : Int))])
theorem spans_cells {P : Program} {W : World} {fuel : Nat} {t e i : TypeId} {n : Nat} {fs : Array Field} {cs : List Value} {T : List (Nat × Nat)} {p : List MemPlace}
    (ht : P.underlying t = some (.array n e)) (he : P.underlying e = some (.struct fs)) (hi : P.underlying i = some (.int .i64)) (hce : P.cellsOf e = 2) (hci : P.cellsOf i = 1) (h0 : (fs[0]?).map (fun f => (f.type, f.offset)) = some (i, 0)) (h1 : (fs[1]?).map (fun f => (f.type, f.offset)) = some (i, 1))
    (h : DataW.trod (fun _ => ()) P W 0 (fun _ => true) false fuel t cs = some (spanData T, p)) (j : Nat) (hj : j < T.length) :
    cs[j * 2]? = some (.int .i64 ((T.getD j (0, 0)).1 : Int)) ∧ cs[j * 2 + 1]? = some (.int .i64 ((T.getD j (0, 0)).2 : Int)) := by
  obtain ⟨xs, m, rfl, hx, hl, hn, hall⟩ := DataW.trod_array ht h
  have hx1 : xs.map (·.1) = T.map fun x => (.agg [.lit (.int .i64 (x.1 : Int)), .lit (.int .i64 (x.2 : Int))] : DataW Unit) := by
    have := congrArg Prod.fst hx
    simp only [spanData, DataW.agg.injEq] at this
    exact this.symm
  have hlen : xs.length = T.length := by simpa using congrArg List.length hx1
  have hjn : j < n := by omega
  have hj1 := hall j hjn
  rw [hce] at hj1
  obtain ⟨y, hy⟩ : ∃ y, xs[j]? = some y := ⟨_, List.getElem?_eq_getElem (by omega)⟩
  rw [hy] at hj1
  have hy1 : y.1 = .agg [.lit (.int .i64 ((T.getD j (0, 0)).1 : Int)), .lit (.int .i64 ((T.getD j (0, 0)).2 : Int))] := by
    have := congrArg (·[j]?) hx1
    simp only [List.getElem?_map, hy, Option.map_some, List.getElem?_eq_getElem hj, Option.some.injEq] at this
    rw [this, List.getD_eq_getElem?_getD, List.getElem?_eq_getElem hj]
    rfl
  obtain ⟨ys, k, rfl, hz, hl2, hn2, hall2⟩ := DataW.trod_struct he hj1
  have hz1 : ys.map (·.1) = [.lit (.int .i64 ((T.getD j (0, 0)).1 : Int)), .lit (.int .i64 ((T.getD j (0, 0)).2 : Int))] := by
    have := congrArg Prod.fst hz
    rw [hy1] at this
    simp only [DataW.agg.injEq] at this
    exact this.symm
  have part : ∀ (o : Nat) (v : Int), o < 2 → (fs[o]?).map (fun f => (f.type, f.offset)) = some (i, o) → (ys.map (·.1))[o]? = some (.lit (.int .i64 v)) → cs[j * 2 + o]? = some (.int .i64 v) := by
    intro o v ho hf hv
    obtain ⟨f, hf1, hf2⟩ := Option.map_eq_some_iff.1 hf
    injection hf2 with hf3 hf4
    have h3 := hall2 o f hf1
    rw [hf3, hf4, hci] at h3
    rw [List.getElem?_map] at hv
    obtain ⟨z, hz1, hz2⟩ := Option.map_eq_some_iff.1 hv
    rw [hz1] at h3
    obtain ⟨num, hc, hd, _⟩ := DataW.trod_int hi h3
    rw [hd] at hz2
    simp only [DataW.lit.injEq, Lit.int.injEq, true_and] at hz2
    rw [hz2] at hc
    have h4 := congrArg (·[0]?) hc
    simp only [List.getElem?_cons_zero, List.getElem?_take, List.getElem?_drop] at h4
    rw [if_pos (by decide), if_pos (by omega), Nat.add_zero] at h4
    exact h4
  refine ⟨part 0 _ (by decide) h0 (by rw [hz1]; rfl), part 1 _ (by decide) h1 (by rw [hz1]; rfl)⟩
theorem Tryd.gLens : Tryd.prog.globalNamed "strata/flate.lengths" = some 0 := by kernel_rfl
theorem Tryd.gDist : Tryd.prog.globalNamed "strata/flate.distances" = some 1 := by kernel_rfl
theorem Tryd.gOrd : Tryd.prog.globalNamed "strata/flate.order" = some 3 := by kernel_rfl
theorem Tryd.tLens : (Tryd.prog.globals[0]?).map (·.type) = some 71 := by kernel_rfl
theorem Tryd.tDist : (Tryd.prog.globals[1]?).map (·.type) = some 72 := by kernel_rfl
theorem Tryd.tOrd : (Tryd.prog.globals[3]?).map (·.type) = some 100 := by kernel_rfl
theorem Tryd.cSpan : Tryd.prog.cellsOf 70 = 2 := by kernel_rfl
theorem Tryd.cInt : Tryd.prog.cellsOf 3 = 1 := by kernel_rfl
theorem Tryd.cOrd : Tryd.prog.cellsOf 100 = 19 := by kernel_rfl
/-- what the laid tables give the walks -/
theorem tabs_of {W : World} {l : List (String × DataW Unit)} {ps : List MemPlace} (h : DataW.LaidVars Tryd.prog W l ps) (h1 : ("strata/flate.lengths", Rows.laid_strata_flate_lengths) ∈ l) (h2 : ("strata/flate.distances", Rows.laid_strata_flate_distances) ∈ l) (h3 : ("strata/flate.order", Rows.laid_strata_flate_order) ∈ l) : Tabs W ∧ OrdAt W := by
  obtain ⟨g1, t1, c1, f1, p1, a1, b1, d1, e1⟩ := laid_at h h1
  obtain ⟨g2, t2, c2, f2, p2, a2, b2, d2, e2⟩ := laid_at h h2
  obtain ⟨g3, t3, c3, f3, p3, a3, b3, d3, e3⟩ := laid_at h h3
  obtain rfl := Option.some.inj (Tryd.gLens.symm.trans a1)
  obtain rfl := Option.some.inj (Tryd.gDist.symm.trans a2)
  obtain rfl := Option.some.inj (Tryd.gOrd.symm.trans a3)
  obtain rfl := Option.some.inj (Tryd.tLens.symm.trans b1)
  obtain rfl := Option.some.inj (Tryd.tDist.symm.trans b2)
  obtain rfl := Option.some.inj (Tryd.tOrd.symm.trans b3)
  have s1 := fun j hj => spans_cells (T := lensT) Tryd.underlying71 Tryd.underlying70 Tryd.underlying3 Tryd.cSpan Tryd.cInt rfl rfl e1 j hj
  have s2 := fun j hj => spans_cells (T := distT) Tryd.underlying72 Tryd.underlying70 Tryd.underlying3 Tryd.cSpan Tryd.cInt rfl rfl e2 j hj
  have s3 := Lib.cells_of_tab (zs := ordT.map Int.ofNat) Tryd.underlying100 Tryd.underlying3 Tryd.cInt Tryd.cOrd e3
  have hord : OrdAt W := by
    intro i hi
    rw [World.var?_cell Tryd.gOrd d3 i, ← Array.getElem?_toList, s3]
    rw [List.map_map, List.getElem?_map, List.getD_eq_getElem?_getD, List.getElem?_eq_getElem (show i < ordT.length from hi)]
    rfl
  have hlt : ∀ (a : Addr) v, W.cell? a = some v → a.block < W.heap.size := fun a v h => by
    by_cases hlt : a.block < W.heap.size
    · exact hlt
    · exfalso
      have e : W.heap[a.block]? = none := Array.getElem?_eq_none (by omega)
      simp [World.cell?, e] at h
  refine ⟨⟨fun k hk => ?_, fun k hk => ?_, ?_⟩, hord⟩
  · rw [World.var?_cell Tryd.gLens d1, World.var?_cell Tryd.gLens d1, ← Array.getElem?_toList, ← Array.getElem?_toList]
    exact s1 k hk
  · rw [World.var?_cell Tryd.gDist d2, World.var?_cell Tryd.gDist d2, ← Array.getElem?_toList, ← Array.getElem?_toList]
    exact s2 k hk
  · exact hlt _ _ (hord 0 (by decide))
/-- worlds that meet the lists -/
noncomputable def laidWorld (os : Os) : World :=
  let w0 := World.holding Tryd.prog os ⟨#[], #[], []⟩
  { w0 with heap := (((w0.heap.modify 0 fun
      | .cells _ t frozen => .cells #[.int .i64 3, .int .i64 0, .int .i64 4, .int .i64 0, .int .i64 5, .int .i64 0, .int .i64 6, .int .i64 0, .int .i64 7, .int .i64 0, .int .i64 8, .int .i64 0, .int .i64 9, .int .i64 0, .int .i64 10, .int .i64 0, .int .i64 11, .int .i64 1, .int .i64 13, .int .i64 1, .int .i64 15, .int .i64 1, .int .i64 17, .int .i64 1, .int .i64 19, .int .i64 2, .int .i64 23, .int .i64 2, .int .i64 27, .int .i64 2, .int .i64 31, .int .i64 2, .int .i64 35, .int .i64 3, .int .i64 43, .int .i64 3, .int .i64 51, .int .i64 3, .int .i64 59, .int .i64 3, .int .i64 67, .int .i64 4, .int .i64 83, .int .i64 4, .int .i64 99, .int .i64 4, .int .i64 115, .int .i64 4, .int .i64 131, .int .i64 5, .int .i64 163, .int .i64 5, .int .i64 195, .int .i64 5, .int .i64 227, .int .i64 5, .int .i64 258, .int .i64 0] t frozen
      | o => o).modify 1 fun
      | .cells _ t frozen => .cells #[.int .i64 1, .int .i64 0, .int .i64 2, .int .i64 0, .int .i64 3, .int .i64 0, .int .i64 4, .int .i64 0, .int .i64 5, .int .i64 1, .int .i64 7, .int .i64 1, .int .i64 9, .int .i64 2, .int .i64 13, .int .i64 2, .int .i64 17, .int .i64 3, .int .i64 25, .int .i64 3, .int .i64 33, .int .i64 4, .int .i64 49, .int .i64 4, .int .i64 65, .int .i64 5, .int .i64 97, .int .i64 5, .int .i64 129, .int .i64 6, .int .i64 193, .int .i64 6, .int .i64 257, .int .i64 7, .int .i64 385, .int .i64 7, .int .i64 513, .int .i64 8, .int .i64 769, .int .i64 8, .int .i64 1025, .int .i64 9, .int .i64 1537, .int .i64 9, .int .i64 2049, .int .i64 10, .int .i64 3073, .int .i64 10, .int .i64 4097, .int .i64 11, .int .i64 6145, .int .i64 11, .int .i64 8193, .int .i64 12, .int .i64 12289, .int .i64 12, .int .i64 16385, .int .i64 13, .int .i64 24577, .int .i64 13] t frozen
      | o => o).modify 3 fun
      | .cells _ t frozen => .cells #[.int .i64 16, .int .i64 17, .int .i64 18, .int .i64 0, .int .i64 8, .int .i64 7, .int .i64 9, .int .i64 6, .int .i64 10, .int .i64 5, .int .i64 11, .int .i64 4, .int .i64 12, .int .i64 3, .int .i64 13, .int .i64 2, .int .i64 14, .int .i64 1, .int .i64 15] t frozen
      | o => o).modify 4 fun
      | .cells _ t frozen => .cells #[.iface 120 (.agg #[.pointer (some ⟨6, 30, none⟩)])] t frozen
      | o => o }
theorem laidWorld_met (os : Os) (args : Array Value) : laidMetH Tryd.prog [("strata/flate.lengths", Rows.laid_strata_flate_lengths), ("strata/flate.distances", Rows.laid_strata_flate_distances), ("strata/flate.order", Rows.laid_strata_flate_order)] ((laidWorld os).forCall (fun _ _ => 0) ⟨#[], args, []⟩).memory :=
  laidMetH_of_parts (laidMet_of_run' 8 (by kernel_rfl) (by kernel_rfl)) (by kernel_rfl)
theorem laidWorld_metH (os : Os) (args : Array Value) : laidMetH Tryd.prog [("errors.errorType", Rows.laid_errors_errorType), ("strata/flate.lengths", Rows.laid_strata_flate_lengths), ("strata/flate.distances", Rows.laid_strata_flate_distances), ("strata/flate.order", Rows.laid_strata_flate_order)] ((laidWorld os).forCall (fun _ _ => 0) ⟨#[], args, []⟩).memory :=
  laidMetH_of_parts (laidMet_of_run' 8 (by kernel_rfl) (by kernel_rfl)) (by kernel_rfl)
theorem tabs_of_laid {W : World} (h : laidMetH Tryd.prog [("strata/flate.lengths", Rows.laid_strata_flate_lengths), ("strata/flate.distances", Rows.laid_strata_flate_distances), ("strata/flate.order", Rows.laid_strata_flate_order)] W) : Tabs W ∧ OrdAt W := by
  have h' : laidMet Tryd.prog [("strata/flate.lengths", Rows.laid_strata_flate_lengths), ("strata/flate.distances", Rows.laid_strata_flate_distances), ("strata/flate.order", Rows.laid_strata_flate_order)] W := h
  obtain ⟨ps, hv, _⟩ := h'
  exact tabs_of hv (by simp) (by simp) (by simp)
theorem laidRt : (Tryd.prog.cutTypes.find? (·.1 == "internal/reflectlite.rtype")).map (·.2) = some 120 := by kernel_rfl
theorem laidEt : Tryd.prog.globalNamed "errors.errorType" = some 4 := by kernel_rfl
theorem laidSize : Tryd.prog.types.size = 163 := by kernel_rfl
theorem laidOne : ((List.range 163).filter fun t => Tryd.prog.rowNamed t [101, 114, 114, 111, 114]) = [30] := by kernel_rfl
theorem lt_of_cell {W : World} {a : Addr} {v : Value} (h : W.cell? a = some v) : a.block < W.heap.size := by
  by_cases hlt : a.block < W.heap.size
  · exact hlt
  · exfalso
    have e : W.heap[a.block]? = none := Array.getElem?_eq_none (by omega)
    simp [World.cell?, e] at h
theorem handle_of {W : World} (h : handlesMet Tryd.prog [("errors.errorType", Rows.laid_errors_errorType)] W) : Handle W := by
  obtain ⟨name, u, ty, e1, e2, e3, e4, e5⟩ := h _ (List.mem_singleton.2 rfl)
  have en : name = [101, 114, 114, 111, 114] := (Option.some.inj e1).symm
  subst en
  obtain rfl := Option.some.inj (laidRt.symm.trans e2)
  have hm : ty ∈ (List.range 163).filter fun t => Tryd.prog.rowNamed t [101, 114, 114, 111, 114] := List.mem_filter.2 ⟨List.mem_range.2 (by rw [← laidSize]; exact e3), e4⟩
  rw [laidOne] at hm
  obtain rfl := List.mem_singleton.1 hm
  have hh : typeHandle Tryd.prog 30 = .pointer (some ⟨6, 30, none⟩) := by kernel_rfl
  rw [hh] at e5
  have hc : W.cell? ⟨4, 0, none⟩ = some (.iface 120 (.agg #[.pointer (some ⟨6, 30, none⟩)])) := by simpa using World.var?_cell laidEt e5 0
  exact ⟨hc, lt_of_cell hc⟩
theorem tabs_of_laidH {W : World} (h : laidMetH Tryd.prog [("errors.errorType", Rows.laid_errors_errorType), ("strata/flate.lengths", Rows.laid_strata_flate_lengths), ("strata/flate.distances", Rows.laid_strata_flate_distances), ("strata/flate.order", Rows.laid_strata_flate_order)] W) : Tabs W ∧ OrdAt W ∧ Handle W := by
  have h' : laidMet Tryd.prog [("strata/flate.lengths", Rows.laid_strata_flate_lengths), ("strata/flate.distances", Rows.laid_strata_flate_distances), ("strata/flate.order", Rows.laid_strata_flate_order)] W ∧ handlesMet Tryd.prog [("errors.errorType", Rows.laid_errors_errorType)] W := h
  obtain ⟨⟨ps, hv, _⟩, hh⟩ := h'
  obtain ⟨a, b⟩ := tabs_of hv (by simp) (by simp) (by simp)
  exact ⟨a, b, handle_of hh⟩
theorem wf_i64 {n : Int} (h : (Lit.int .i64 n).wf = true) : -9223372036854775808 ≤ n ∧ n ≤ 9223372036854775807 := by
  have h' : (decide (IntKind.i64.min ≤ n) && decide (n ≤ IntKind.i64.max)) = true := h
  rw [Bool.and_eq_true, decide_eq_true_iff, decide_eq_true_iff] at h'
  exact h'
/-- the post where nothing was met by the reading: no place has to be shown unfrozen -/
theorem post_below {H : Type} {enc : TypeId × Value → H} {P : Program} {f : Func} {s : ChangeSpec} {apart fresh handsOn again : Bool} {W W' : World} {args : Array Value} {v : Value} {ds gs : List (DataW H)}
    (hW : DataW.Whole enc P f.params.toList s.vars apart W args.toList ds gs [])
    (hres : ∀ (b : Nat) (sp : Nat → Bool) (hd : Bool), DataW.TrodAll enc P W' b sp hd f.resultTypes.toList (v.resultList f.resultTypes.size) (s.fn H (ds ++ gs)).results [])
    (hargs : ∀ sp : Nat → Bool, DataW.TrodAll enc P W' 0 sp true f.params.toList args.toList (s.fn H (ds ++ gs)).args [])
    (hvars : ∀ sp : Nat → Bool, DataW.TrodVars enc P W' sp s.vars (s.fn H (ds ++ gs)).vars [])
    (hk : Below W.heap.size W W')
    (hok : ∀ (j : Nat) (t : TypeId) (r : Value), f.resultTypes[j]? = some t → (v.resultList f.resultTypes.size)[j]? = some r → Value.okWide P W' .any 0 t r) :
    s.post enc P f apart fresh handsOn again W args v W' := by
  refine ⟨ds, gs, [], [], [], [], hW, hres _ _ _, hargs _, hvars _, hk.frame _, fun _ => ⟨hok, _, _, ([] ++ []) ++ [], ⟨[] ++ [], [], trodAll_append (hargs _) (hres _ _ _), hvars _, rfl, ?_, ?_⟩, ?_⟩⟩
  · intro b off hp
    cases hp
  · intro ha
    simp
  · intro p hp _
    cases hp
end Go.Proofs.YtjielagabnkimaaDoor
