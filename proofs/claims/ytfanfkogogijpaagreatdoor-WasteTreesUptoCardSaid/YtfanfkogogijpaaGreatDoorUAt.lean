/- The contracts of errors.Is, errors.As, stratakit.Num, Place and At at an error with a place. -/
import Derived.Test.YtfanfkogogijpaaGreatDoorPlain
import Derived.Test.YtfanfkogogijpaaGreatDoorRGoes
import Derived.OwnWalk
set_option linter.unusedSimpArgs false
set_option linter.unusedVariables false
namespace Go.Proofs.YtfanfkogogijpaaGreatDoor
open Go.RowKit Go.Extern.Stop Go.Stop Go.Extern
def fltC (n line at_ : Int) : List Value := [.int .i64 n, .int .i64 line, .int .i64 at_]
def fltV (n line at_ : Int) : Value := .iface 71 (.agg #[.int .i64 n, .int .i64 line, .int .i64 at_])
theorem Tryz.flUnwrap (v : Value) (xT : TypeId) (w : World) : (Instr.typeAssert (.iface 71 v) xT 136 true).run Tryz.prog w = .ok (.tuple #[.iface 71 v, .bool true]) w := run_typeAssert_hasB Tryz.underlying136 (by kernel_rfl) v xT w
theorem Tryz.flMethodUnwrap (v : Value) (w : World) : (Go.method 294 71 v "Unwrap").run Tryz.prog w = .ok (110, v) w := by kernel_rfl
theorem Tryz.flValueOf (a b c : Int) (w : World) : (callFunc 42 #[.iface 71 (.agg #[.int .i64 a, .int .i64 b, .int .i64 c])]).run Tryz.prog w
    = .ok (.value (.agg #[.pointer (some ⟨3, 71, none⟩), .pointer (some ⟨w.heap.size, 0, none⟩), .int .u64 153])) (w.alloc (.cells #[.int .i64 a, .int .i64 b, .int .i64 c] 71)) := by kernel_rfl
theorem Tryz.flAssign (w : World) : (callFunc 115 #[.agg #[.pointer (some ⟨3, 71, none⟩)], .iface 128 (.agg #[.pointer (some ⟨3, 71, none⟩)])]).run Tryz.prog w = .ok (.value (.bool true)) w := by kernel_rfl
theorem Tryz.flTypeOf (v : Value) (w : World) : (callFunc 65 #[.iface 71 v]).run Tryz.prog w = .ok (.value (.iface 128 (.agg #[.pointer (some ⟨3, 71, none⟩)]))) w := by kernel_rfl
theorem Tryz.flMk (p : Addr) (w : World) : (ReflectliteValue.mk 71 p 256).run Tryz.prog w = .ok (.agg #[.pointer (some ⟨3, 71, none⟩), .pointer (some p), .int .u64 409]) w := by kernel_rfl
theorem Tryz.flElemT (w : World) : (Go.Extern.Rtype.elem? 74).run Tryz.prog w = .ok (some 71) w := by kernel_rfl
theorem Tryz.flElem (a p : Addr) (W : World) (ha : W.cell? a = some (.pointer (some p))) :
    (callFunc 66 #[.agg #[.pointer (some ⟨3, 74, none⟩), .pointer (some a), .int .u64 150]]).run Tryz.prog W = .ok (.value (.agg #[.pointer (some ⟨3, 71, none⟩), .pointer (some p), .int .u64 409])) W := by
  rw [@run_callFunc_extern Tryz.prog 66 _ (ReflectliteValue.method (ReflectliteValue.valueError "reflectlite.Value.Elem" 0) ReflectliteValue.elem) Tryz.func66 (by kernel_rfl) (by kernel_rfl) (by kernel_rfl) (by kernel_rfl)]
  rw [rlm]
  simp only [Sem.run_bind, Tryz.eaParts, Result.andThen]
  simp [ReflectliteValue.elem, loadVar, isAgg, underlying, Tryz.underlying74, ha, Result.andThen, Tryz.flElemT, ReflectliteValue.flagAddr, Tryz.flMk]
theorem Tryz.flPartsD (a : Addr) (w : World) : (ReflectliteValue.parts (.agg #[.pointer (some ⟨3, 71, none⟩), .pointer (some a), .int .u64 409])).run Tryz.prog w = .ok (some (71, a, 409)) w := by kernel_rfl
theorem Tryz.flPartsS (a : Addr) (w : World) : (ReflectliteValue.parts (.agg #[.pointer (some ⟨3, 71, none⟩), .pointer (some a), .int .u64 153])).run Tryz.prog w = .ok (some (71, a, 153)) w := by kernel_rfl
theorem Tryz.flDirect (w : World) : (Go.Extern.Rtype.directlyAssignable 71 71).run Tryz.prog w = .ok true w := by kernel_rfl
theorem Tryz.flSet (t b : Nat) (old cs : Array Value) (W : World) (ht : W.heap[t]? = some (.cells old 71 (0, 0))) (hb : W.heap[b]? = some (.cells cs 71 (0, 0))) (ho : old.size = 3) (hc : cs.size = 3) (h1 : cs.all (·.oneCell') = true) :
    (callFunc 67 #[.agg #[.pointer (some ⟨3, 71, none⟩), .pointer (some ⟨t, 0, none⟩), .int .u64 409], .agg #[.pointer (some ⟨3, 71, none⟩), .pointer (some ⟨b, 0, none⟩), .int .u64 153]]).run Tryz.prog W = .ok (.value (.tuple #[])) (W.setRow t cs) := by
  have hi : (Tryz.prog.info? 71).map (·.size) = some 3 := by kernel_rfl
  have hl := run_loadVar_row (P := Tryz.prog) W b 71 71 cs (0, 0) _ hb Tryz.underlying71 rfl (by rw [hc]; exact hi)
  have hs := run_storeVar_row (P := Tryz.prog) W t 71 71 old cs ht (by rw [hc]; exact hi) (by rw [ho, hc]) h1
  rw [@run_callFunc_extern Tryz.prog 67 _ ReflectliteValue.set Tryz.func67 (by kernel_rfl) (by kernel_rfl) (by kernel_rfl) (by kernel_rfl)]
  delta ReflectliteValue.set ReflectliteValue.set.match_3
  dsimp
  have g0 : ∀ (x y : Value) (h1 : (#[x, y] : Array Value).size = 2) (h2 : 0 < 2), (#[x, y] : Array Value).getLit 0 h1 h2 = x := fun _ _ _ _ => rfl
  have g1 : ∀ (x y : Value) (h1 : (#[x, y] : Array Value).size = 2) (h2 : 1 < 2), (#[x, y] : Array Value).getLit 1 h1 h2 = y := fun _ _ _ _ => rfl
  simp [g0, g1, Sem.run_bind, Tryz.flPartsD, Tryz.flPartsS, Result.andThen, ReflectliteValue.flagAddr, hl, Tryz.flDirect, hs]
set_option maxRecDepth 100000 in
set_option maxHeartbeats 4000000 in
theorem as_fault (n l a : Int) (t : Nat) (old : Array Value) (w : World) (hg : w.cell? ⟨1, 0, none⟩ = some (.iface 128 (.agg #[.pointer (some ⟨3, 26, none⟩)]))) (ht : w.heap[t]? = some (.cells old 71 (0, 0))) (ho : old.size = 3) :
    Calls Tryz.prog 24 #[fltV n l a, .iface 74 (.pointer (some ⟨t, 0, none⟩))] w fun e w' => e = .returned (.bool true) ∧ w'.heap[t]? = some (.cells #[.int .i64 n, .int .i64 l, .int .i64 a] 71 (0, 0)) ∧ But [t] w w' := by
  unfold fltV
  have tT := Tryz.flTypeOf
  have f1 := Tryz.eaValueOf
  have f1b := Tryz.flValueOf
  have f2 := Tryz.eaType
  have f3 := Tryz.eaMethodKind
  have f4 := Tryz.eaMethodElem
  have f5 := Tryz.eaMethodImplements
  have f6 := Tryz.eaMethodAssignableTo
  have f7 := Tryz.eaKindP
  have f8 := Tryz.eaKindF
  have f9 := Tryz.eaElem
  have f10 := Tryz.eaImplements
  have f11 := Tryz.flAssign
  have n8 := Tryz.eaIsNil ⟨w.heap.size, 0, none⟩ ⟨t, 0, none⟩ ((w.alloc (.cells #[.pointer (some ⟨t, 0, none⟩)] 74)).alloc (.cells #[.pointer (some ⟨3, 74, none⟩), .pointer (some ⟨w.heap.size, 0, none⟩), .int .u64 150] 99)) (by simp)
  have hlt : 1 < w.heap.size := by
    rcases Nat.lt_or_ge 1 w.heap.size with h | h
    · exact h
    · simp [World.cell?, Array.getElem?_eq_none h] at hg
  have hg2 : ((w.alloc (.cells #[.pointer (some ⟨t, 0, none⟩)] 74)).alloc (.cells #[.pointer (some ⟨3, 74, none⟩), .pointer (some ⟨w.heap.size, 0, none⟩), .int .u64 150] 99)).cell? ⟨1, 0, none⟩ = some (.iface 128 (.agg #[.pointer (some ⟨3, 26, none⟩)])) := by
    rw [World.cell?_alloc_lt _ _ ⟨1, 0, none⟩ (by simp only [World.size_alloc]; omega), World.cell?_alloc_lt _ _ ⟨1, 0, none⟩ hlt]; exact hg
  have htl := heap_lt ht
  obtain ⟨W3, hW3⟩ : ∃ x, x = ((w.alloc (.cells #[.pointer (some ⟨t, 0, none⟩)] 74)).alloc (.cells #[.pointer (some ⟨3, 74, none⟩), .pointer (some ⟨w.heap.size, 0, none⟩), .int .u64 150] 99)).alloc (.cells #[.pointer (some ⟨3, 74, none⟩), .pointer (some ⟨w.heap.size, 0, none⟩), .int .u64 150] 99) := ⟨_, rfl⟩
  have hs3 : W3.heap.size = w.heap.size + 1 + 1 + 1 := by rw [hW3]; simp
  have hc3 : W3.cell? ⟨w.heap.size, 0, none⟩ = some (.pointer (some ⟨t, 0, none⟩)) := by
    rw [hW3, World.cell?_alloc_lt _ _ _ (by simp only [World.size_alloc]; omega), World.cell?_alloc_lt _ _ _ (by simp only [World.size_alloc]; omega)]
    unfold World.cell?
    rw [World.alloc_heap_new]
    rfl
  have n9 := Tryz.flElem ⟨w.heap.size, 0, none⟩ ⟨t, 0, none⟩ W3 hc3
  have hb3 : Below w.heap.size w W3 := by rw [hW3]; exact (((Below.refl _ _).alloc (Nat.le_refl _) _).alloc (by simp) _).alloc (by simp; omega) _
  have ht4 : (W3.alloc (.cells #[.int .i64 n, .int .i64 l, .int .i64 a] 71)).heap[t]? = some (.cells old 71 (0, 0)) := (heap_alloc_old W3 _ (by omega)).trans ((hb3.block t htl).trans ht)
  have hn4 := World.alloc_heap_new W3 (.cells #[.int .i64 n, .int .i64 l, .int .i64 a] 71)
  have n10 := Tryz.flSet t W3.heap.size old #[.int .i64 n, .int .i64 l, .int .i64 a] _ ht4 hn4 ho rfl (by simp [Value.oneCell'])
  have fin : ((W3.alloc (.cells #[.int .i64 n, .int .i64 l, .int .i64 a] 71)).setRow t #[.int .i64 n, .int .i64 l, .int .i64 a]).heap[t]? = some (.cells #[.int .i64 n, .int .i64 l, .int .i64 a] 71 (0, 0)) ∧ But [t] w ((W3.alloc (.cells #[.int .i64 n, .int .i64 l, .int .i64 a] 71)).setRow t #[.int .i64 n, .int .i64 l, .int .i64 a]) := by
    refine ⟨setRow_heap _ t _ _ _ _ ht4, ?_⟩
    have hb4 := hb3.alloc hb3.size (.cells #[.int .i64 n, .int .i64 l, .int .i64 a] 71)
    exact ⟨hb4.os, hb4.tape, hb4.output, by simpa using hb4.size, fun k hk hkt => (setRow_other _ t k _ (by simpa using hkt)).trans (hb4.block k hk)⟩
  rw [hs3] at n10
  rw [hW3] at n9 n10 fin
  have Fin := Lib.hid fin
  clear fin hb3 ht4 hn4 hc3 hs3 hW3
  go_enter Tryz.func24, Tryz.ntmps24
  go_wp2
  refine wp_loop_rounds 1 ?_
  rw [rounds_succ]
  go_wp2
  go_ret
  exact ⟨rfl, Fin.out⟩
end Go.Proofs.YtfanfkogogijpaaGreatDoor
