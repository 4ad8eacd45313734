/- The contracts of errors.As at nil and at a value of api.Errno (the target a *api.Fault). -/
import Derived.Test.YtdkodedocklmdaaDoorErr
namespace Go.Proofs.YtdkodedocklmdaaDoor
open Go.RowKit Go.Extern.Stop Go.Stop Go.Extern

theorem bcell {W w1 : World} (hb : Below W.heap.size W w1) : (∀ b o, b < W.heap.size → w1.cell? ⟨b, o, none⟩ = W.cell? ⟨b, o, none⟩) ∧ (∀ b o, b < W.heap.size → w1.frozen? ⟨b, o, none⟩ = W.frozen? ⟨b, o, none⟩) :=
  ⟨fun b o h => hb.cell (p := ⟨b, o, none⟩) h, fun b o h => hb.frozen (p := ⟨b, o, none⟩) h⟩

/-- errors.As(nil, target). -/
theorem as_nil (t : Value) (w : World) :
    Calls Tryd.prog 23 #[.nilIface, t] w fun e w' => e = .returned (.bool false) ∧ w = w' := by
  go_enter Tryd.func23, Tryd.ntmps23
  go_wp2
  go_ret
  exact ⟨rfl, rfl⟩

theorem Tryd.eaValueOf (t : Addr) (w : World) : (callFunc 33 #[.iface 62 (.pointer (some t))]).run Tryd.prog w
    = .ok (.value (.agg #[.pointer (some ⟨2, 62, none⟩), .pointer (some ⟨w.heap.size, 0, none⟩), .int .u64 150])) (w.alloc (.cells #[.pointer (some t)] 62)) := by kernel_rfl
theorem Tryd.eaType (a : Addr) (w : World) : (callFunc 34 #[.agg #[.pointer (some ⟨2, 62, none⟩), .pointer (some a), .int .u64 150]]).run Tryd.prog w
    = .ok (.value (.iface 102 (.agg #[.pointer (some ⟨2, 62, none⟩)]))) w := by kernel_rfl
theorem Tryd.eaMethodKind (h : Value) (w : World) : (Go.method 268 102 (.agg #[h]) "Kind").run Tryd.prog w = .ok (90, h) w := by kernel_rfl
theorem Tryd.eaMethodElem (h : Value) (w : World) : (Go.method 268 102 (.agg #[h]) "Elem").run Tryd.prog w = .ok (104, .agg #[h]) w := by kernel_rfl
theorem Tryd.eaMethodImplements (h : Value) (w : World) : (Go.method 268 102 (.agg #[h]) "Implements").run Tryd.prog w = .ok (105, .agg #[h]) w := by kernel_rfl
theorem Tryd.eaMethodAssignableTo (h : Value) (w : World) : (Go.method 268 102 (.agg #[h]) "AssignableTo").run Tryd.prog w = .ok (102, .agg #[h]) w := by kernel_rfl
theorem Tryd.eaKindP (w : World) : (callFunc 90 #[.pointer (some ⟨2, 62, none⟩)]).run Tryd.prog w = .ok (.value (.int .u8 22)) w := by kernel_rfl
theorem Tryd.eaKindF (w : World) : (callFunc 90 #[.pointer (some ⟨2, 60, none⟩)]).run Tryd.prog w = .ok (.value (.int .u8 25)) w := by kernel_rfl
theorem Tryd.eaElem (w : World) : (callFunc 104 #[.agg #[.pointer (some ⟨2, 62, none⟩)]]).run Tryd.prog w = .ok (.value (.iface 102 (.agg #[.pointer (some ⟨2, 60, none⟩)]))) w := by kernel_rfl
theorem Tryd.eaImplements (w : World) : (callFunc 105 #[.agg #[.pointer (some ⟨2, 60, none⟩)], .iface 102 (.agg #[.pointer (some ⟨2, 28, none⟩)])]).run Tryd.prog w = .ok (.value (.bool true)) w := by kernel_rfl
theorem Tryd.eaAssignE (w : World) : (callFunc 102 #[.agg #[.pointer (some ⟨2, 56, none⟩)], .iface 102 (.agg #[.pointer (some ⟨2, 60, none⟩)])]).run Tryd.prog w = .ok (.value (.bool false)) w := by kernel_rfl

theorem rlm (z : Sem Value) (f : TypeId → Addr → Nat → Nat → Sem Value) (v : Value) :
    ReflectliteValue.method z f #[v] = (do match ← ReflectliteValue.parts v with | none => z | some (t, a, fl) => f t a fl (fl % 32)) := rfl
theorem Tryd.eaParts (a : Addr) (w : World) : (ReflectliteValue.parts (.agg #[.pointer (some ⟨2, 62, none⟩), .pointer (some a), .int .u64 150])).run Tryd.prog w = .ok (some (62, a, 150)) w := by kernel_rfl
/-- (Value).IsNil at the Value of a *api.Fault that is not nil. -/
theorem Tryd.eaIsNil (a p : Addr) (W : World) (ha : W.cell? a = some (.pointer (some p))) :
    (callFunc 35 #[.agg #[.pointer (some ⟨2, 62, none⟩), .pointer (some a), .int .u64 150]]).run Tryd.prog W = .ok (.value (.bool false)) W := by
  rw [@run_callFunc_extern Tryd.prog 35 _ (ReflectliteValue.method (ReflectliteValue.valueError "reflectlite.Value.IsNil" 0) ReflectliteValue.isNil) Tryd.func35 (by kernel_rfl) (by kernel_rfl) (by kernel_rfl) (by kernel_rfl)]
  rw [rlm]
  simp only [Sem.run_bind, Tryd.eaParts, Result.andThen]
  simp [ReflectliteValue.isNil, loadVar, isAgg, underlying, Tryd.underlying62, ha, Result.andThen]

set_option maxRecDepth 100000 in
set_option maxHeartbeats 4000000 in
/-- errors.As(n, &f), n a number, f a Fault: false. -/
theorem as_num (n : Int) (t : Addr) (w : World) (hg : w.cell? ⟨0, 0, none⟩ = some (.iface 102 (.agg #[.pointer (some ⟨2, 28, none⟩)]))) :
    Calls Tryd.prog 23 #[.iface 56 (.int .i64 n), .iface 62 (.pointer (some t))] w fun e w' => e = .returned (.bool false) ∧ Below w.heap.size w w' := by
  have tT := Tryd.erCallTypeOf
  have nE := Tryd.erNoAs
  have uE := Tryd.erNoUnwrap
  have vE := Tryd.erNoUnwraps
  have f1 := Tryd.eaValueOf
  have f2 := Tryd.eaType
  have f3 := Tryd.eaMethodKind
  have f4 := Tryd.eaMethodElem
  have f5 := Tryd.eaMethodImplements
  have f6 := Tryd.eaMethodAssignableTo
  have f7 := Tryd.eaKindP
  have f8 := Tryd.eaKindF
  have f9 := Tryd.eaElem
  have f10 := Tryd.eaImplements
  have f11 := Tryd.eaAssignE
  have n8 := Tryd.eaIsNil ⟨w.heap.size, 0, none⟩ t ((w.alloc (.cells #[.pointer (some t)] 62)).alloc (.cells #[.pointer (some ⟨2, 62, none⟩), .pointer (some ⟨w.heap.size, 0, none⟩), .int .u64 150] 84)) (by simp)
  have hlt : 0 < w.heap.size := by
    rcases Nat.lt_or_ge 0 w.heap.size with h | h
    · exact h
    · simp [World.cell?, Array.getElem?_eq_none h] at hg
  have hg2 : ((w.alloc (.cells #[.pointer (some t)] 62)).alloc (.cells #[.pointer (some ⟨2, 62, none⟩), .pointer (some ⟨w.heap.size, 0, none⟩), .int .u64 150] 84)).cell? ⟨0, 0, none⟩ = some (.iface 102 (.agg #[.pointer (some ⟨2, 28, none⟩)])) := by
    rw [World.cell?_alloc_lt _ _ ⟨0, 0, none⟩ (by simp only [World.size_alloc]; omega), World.cell?_alloc_lt _ _ ⟨0, 0, none⟩ hlt]; exact hg
  go_enter Tryd.func23, Tryd.ntmps23
  go_wp2
  refine wp_loop_rounds 1 ?_
  rw [rounds_succ]
  go_wp2
  go_ret
  exact ⟨rfl, (((Below.refl _ _).alloc (Nat.le_refl _) _).alloc (by simp only [World.size_alloc]; omega) _).alloc (by simp only [World.size_alloc]; omega) _⟩
end Go.Proofs.YtdkodedocklmdaaDoor
