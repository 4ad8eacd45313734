/- The contracts of errors.As at nil and at a value of api.Errno (the target a *api.Fault). -/
import Derived.Test.YtfanfkogogijpaaGreatDoorErr
namespace Go.Proofs.YtfanfkogogijpaaGreatDoor
open Go.RowKit Go.Extern.Stop Go.Stop Go.Extern

theorem bcell {W w1 : World} (hb : Below W.heap.size W w1) : (∀ b o, b < W.heap.size → w1.cell? ⟨b, o, none⟩ = W.cell? ⟨b, o, none⟩) ∧ (∀ b o, b < W.heap.size → w1.frozen? ⟨b, o, none⟩ = W.frozen? ⟨b, o, none⟩) :=
  ⟨fun b o h => hb.cell (p := ⟨b, o, none⟩) h, fun b o h => hb.frozen (p := ⟨b, o, none⟩) h⟩

/-- errors.As(nil, target). -/
theorem as_nil (t : Value) (w : World) :
    Calls Tryz.prog 24 #[.nilIface, t] w fun e w' => e = .returned (.bool false) ∧ w = w' := by
  go_enter Tryz.func24, Tryz.ntmps24
  go_wp2
  go_ret
  exact ⟨rfl, rfl⟩

theorem Tryz.eaValueOf (t : Addr) (w : World) : (callFunc 42 #[.iface 74 (.pointer (some t))]).run Tryz.prog w
    = .ok (.value (.agg #[.pointer (some ⟨3, 74, none⟩), .pointer (some ⟨w.heap.size, 0, none⟩), .int .u64 150])) (w.alloc (.cells #[.pointer (some t)] 74)) := by kernel_rfl
theorem Tryz.eaType (a : Addr) (w : World) : (callFunc 43 #[.agg #[.pointer (some ⟨3, 74, none⟩), .pointer (some a), .int .u64 150]]).run Tryz.prog w
    = .ok (.value (.iface 128 (.agg #[.pointer (some ⟨3, 74, none⟩)]))) w := by kernel_rfl
theorem Tryz.eaMethodKind (h : Value) (w : World) : (Go.method 294 128 (.agg #[h]) "Kind").run Tryz.prog w = .ok (103, h) w := by kernel_rfl
theorem Tryz.eaMethodElem (h : Value) (w : World) : (Go.method 294 128 (.agg #[h]) "Elem").run Tryz.prog w = .ok (117, .agg #[h]) w := by kernel_rfl
theorem Tryz.eaMethodImplements (h : Value) (w : World) : (Go.method 294 128 (.agg #[h]) "Implements").run Tryz.prog w = .ok (118, .agg #[h]) w := by kernel_rfl
theorem Tryz.eaMethodAssignableTo (h : Value) (w : World) : (Go.method 294 128 (.agg #[h]) "AssignableTo").run Tryz.prog w = .ok (115, .agg #[h]) w := by kernel_rfl
theorem Tryz.eaKindP (w : World) : (callFunc 103 #[.pointer (some ⟨3, 74, none⟩)]).run Tryz.prog w = .ok (.value (.int .u8 22)) w := by kernel_rfl
theorem Tryz.eaKindF (w : World) : (callFunc 103 #[.pointer (some ⟨3, 71, none⟩)]).run Tryz.prog w = .ok (.value (.int .u8 25)) w := by kernel_rfl
theorem Tryz.eaElem (w : World) : (callFunc 117 #[.agg #[.pointer (some ⟨3, 74, none⟩)]]).run Tryz.prog w = .ok (.value (.iface 128 (.agg #[.pointer (some ⟨3, 71, none⟩)]))) w := by kernel_rfl
theorem Tryz.eaImplements (w : World) : (callFunc 118 #[.agg #[.pointer (some ⟨3, 71, none⟩)], .iface 128 (.agg #[.pointer (some ⟨3, 26, none⟩)])]).run Tryz.prog w = .ok (.value (.bool true)) w := by kernel_rfl
theorem Tryz.eaAssignE (w : World) : (callFunc 115 #[.agg #[.pointer (some ⟨3, 65, none⟩)], .iface 128 (.agg #[.pointer (some ⟨3, 71, none⟩)])]).run Tryz.prog w = .ok (.value (.bool false)) w := by kernel_rfl

theorem rlm (z : Sem Value) (f : TypeId → Addr → Nat → Nat → Sem Value) (v : Value) :
    ReflectliteValue.method z f #[v] = (do match ← ReflectliteValue.parts v with | none => z | some (t, a, fl) => f t a fl (fl % 32)) := rfl
theorem Tryz.eaParts (a : Addr) (w : World) : (ReflectliteValue.parts (.agg #[.pointer (some ⟨3, 74, none⟩), .pointer (some a), .int .u64 150])).run Tryz.prog w = .ok (some (74, a, 150)) w := by kernel_rfl
/-- (Value).IsNil at the Value of a *api.Fault that is not nil. -/
theorem Tryz.eaIsNil (a p : Addr) (W : World) (ha : W.cell? a = some (.pointer (some p))) :
    (callFunc 44 #[.agg #[.pointer (some ⟨3, 74, none⟩), .pointer (some a), .int .u64 150]]).run Tryz.prog W = .ok (.value (.bool false)) W := by
  rw [@run_callFunc_extern Tryz.prog 44 _ (ReflectliteValue.method (ReflectliteValue.valueError "reflectlite.Value.IsNil" 0) ReflectliteValue.isNil) Tryz.func44 (by kernel_rfl) (by kernel_rfl) (by kernel_rfl) (by kernel_rfl)]
  rw [rlm]
  simp only [Sem.run_bind, Tryz.eaParts, Result.andThen]
  simp [ReflectliteValue.isNil, loadVar, isAgg, underlying, Tryz.underlying74, ha, Result.andThen]

set_option maxRecDepth 100000 in
set_option maxHeartbeats 4000000 in
/-- errors.As(n, &f), n a number, f a Fault: false. -/
theorem as_num (n : Int) (t : Addr) (w : World) (hg : w.cell? ⟨1, 0, none⟩ = some (.iface 128 (.agg #[.pointer (some ⟨3, 26, none⟩)]))) :
    Calls Tryz.prog 24 #[.iface 65 (.int .i64 n), .iface 74 (.pointer (some t))] w fun e w' => e = .returned (.bool false) ∧ Below w.heap.size w w' := by
  have tT := Tryz.erCallTypeOf
  have nE := Tryz.erNoAs
  have uE := Tryz.erNoUnwrap
  have vE := Tryz.erNoUnwraps
  have f1 := Tryz.eaValueOf
  have f2 := Tryz.eaType
  have f3 := Tryz.eaMethodKind
  have f4 := Tryz.eaMethodElem
  have f5 := Tryz.eaMethodImplements
  have f6 := Tryz.eaMethodAssignableTo
  have f7 := Tryz.eaKindP
  have f8 := Tryz.eaKindF
  have f9 := Tryz.eaElem
  have f10 := Tryz.eaImplements
  have f11 := Tryz.eaAssignE
  have n8 := Tryz.eaIsNil ⟨w.heap.size, 0, none⟩ t ((w.alloc (.cells #[.pointer (some t)] 74)).alloc (.cells #[.pointer (some ⟨3, 74, none⟩), .pointer (some ⟨w.heap.size, 0, none⟩), .int .u64 150] 99)) (by simp)
  have hlt : 1 < w.heap.size := by
    rcases Nat.lt_or_ge 1 w.heap.size with h | h
    · exact h
    · simp [World.cell?, Array.getElem?_eq_none h] at hg
  have hg2 : ((w.alloc (.cells #[.pointer (some t)] 74)).alloc (.cells #[.pointer (some ⟨3, 74, none⟩), .pointer (some ⟨w.heap.size, 0, none⟩), .int .u64 150] 99)).cell? ⟨1, 0, none⟩ = some (.iface 128 (.agg #[.pointer (some ⟨3, 26, none⟩)])) := by
    rw [World.cell?_alloc_lt _ _ ⟨1, 0, none⟩ (by simp only [World.size_alloc]; omega), World.cell?_alloc_lt _ _ ⟨1, 0, none⟩ hlt]; exact hg
  go_enter Tryz.func24, Tryz.ntmps24
  go_wp2
  refine wp_loop_rounds 1 ?_
  rw [rounds_succ]
  go_wp2
  go_ret
  exact ⟨rfl, (((Below.refl _ _).alloc (Nat.le_refl _) _).alloc (by simp only [World.size_alloc]; omega) _).alloc (by simp only [World.size_alloc]; omega) _⟩
end Go.Proofs.YtfanfkogogijpaaGreatDoor
