/- The contracts of errors.As at nil and at a value of api.Errno (the target a *api.Fault). -/
import Derived.Test.YtdkodedocklmdaaGreatErr
namespace Go.Proofs.YtdkodedocklmdaaGreat
open Go.RowKit Go.Extern.Stop Go.Stop Go.Extern

theorem bcell {W w1 : World} (hb : Below W.heap.size W w1) : (∀ b o, b < W.heap.size → w1.cell? ⟨b, o, none⟩ = W.cell? ⟨b, o, none⟩) ∧ (∀ b o, b < W.heap.size → w1.frozen? ⟨b, o, none⟩ = W.frozen? ⟨b, o, none⟩) :=
  ⟨fun b o h => hb.cell (p := ⟨b, o, none⟩) h, fun b o h => hb.frozen (p := ⟨b, o, none⟩) h⟩

theorem Tryz.eaMethodKind (h : Value) (w : World) : (Go.method 285 104 (.agg #[h]) "Kind").run Tryz.prog w = .ok (127, h) w := by kernel_rfl
theorem Tryz.eaMethodElem (h : Value) (w : World) : (Go.method 285 104 (.agg #[h]) "Elem").run Tryz.prog w = .ok (131, .agg #[h]) w := by kernel_rfl
theorem Tryz.eaMethodImplements (h : Value) (w : World) : (Go.method 285 104 (.agg #[h]) "Implements").run Tryz.prog w = .ok (132, .agg #[h]) w := by kernel_rfl
theorem Tryz.eaMethodAssignableTo (h : Value) (w : World) : (Go.method 285 104 (.agg #[h]) "AssignableTo").run Tryz.prog w = .ok (129, .agg #[h]) w := by kernel_rfl
theorem Tryz.eaKindF (w : World) : (callFunc 127 #[.pointer (some ⟨1, 63, none⟩)]).run Tryz.prog w = .ok (.value (.int .u8 25)) w := by kernel_rfl
theorem Tryz.eaImplements (w : World) : (callFunc 132 #[.agg #[.pointer (some ⟨1, 63, none⟩)], .iface 104 (.agg #[.pointer (some ⟨1, 26, none⟩)])]).run Tryz.prog w = .ok (.value (.bool true)) w := by kernel_rfl
theorem Tryz.eaAssignE (w : World) : (callFunc 129 #[.agg #[.pointer (some ⟨1, 57, none⟩)], .iface 104 (.agg #[.pointer (some ⟨1, 63, none⟩)])]).run Tryz.prog w = .ok (.value (.bool false)) w := by kernel_rfl

theorem rlm (z : Sem Value) (f : TypeId → Addr → Nat → Nat → Sem Value) (v : Value) :
    ReflectliteValue.method z f #[v] = (do match ← ReflectliteValue.parts v with | none => z | some (t, a, fl) => f t a fl (fl % 32)) := rfl
end Go.Proofs.YtdkodedocklmdaaGreat
