/- The contracts of errors.Is and errors.As at nil and at values of api.Errno, and of stratakit.Num and stratakit.Plain. -/
import Derived.Test.YtdkodedocklmdaaDoorProg
import Derived.WalkKit
import Derived.WalkLawsBesides
import Derived.WalkSpells
import Derived.LaidEql
import Derived.Stop.Asserts
import Derived.RowKitTokens
import Derived.Lib.Hide
import Derived.Deep.QuietTactic
import Derived.BigQuiet
namespace Go
section
variable {P : Program} (w : World)
theorem run_equalIn_iface_int (d : Nat) {ti tn : TypeId} {ms : Array (String × TypeId)} {i : TypeInfo} {k : IntKind} (a b : Int)
    (hi : P.underlying ti = some (.interface ms)) (hn : P.underlying tn = some (.int k)) (hinfo : P.info? tn = some i) (hcomp : i.comparable = true) :
    (Op.equalIn (d + 2) ti (.iface tn (.int k a)) (.iface tn (.int k b))).run P w = .ok (a == b) w := by
  simp [Op.equalIn, run_underlying hi, run_underlying hn, typeInfo, hinfo, hcomp]
theorem run_eql_iface_int {ti tn : TypeId} {ms : Array (String × TypeId)} {i : TypeInfo} {k : IntKind} (a b : Int)
    (hi : P.underlying ti = some (.interface ms)) (hn : P.underlying tn = some (.int k)) (hinfo : P.info? tn = some i) (hcomp : i.comparable = true) :
    (binOp .eql ti (.iface tn (.int k a)) (.iface tn (.int k b))).run P w = .ok (.bool (a == b)) w := by
  simp only [binOp]
  simp [Op.equal, Op.maxDepth, run_equalIn_iface_int w 9998 a b hi hn hinfo hcomp]
end
end Go
namespace Go.Proofs.YtdkodedocklmdaaDoor
open Go.RowKit Go.Extern.Stop Go.Stop Go.Extern

theorem Tryd.erCallTypeOf (v : Value) (w : World) : (callFunc 30 #[.iface 56 v]).run Tryd.prog w = .ok (.value (.iface 102 (.agg #[.pointer (some ⟨2, 56, none⟩)]))) w := by kernel_rfl
theorem Tryd.erCallComparable (w : World) : (callFunc 103 #[.agg #[.pointer (some ⟨2, 56, none⟩)]]).run Tryd.prog w = .ok (.value (.bool true)) w := by kernel_rfl
theorem Tryd.erMethodComparable (v : Value) (w : World) : (Go.method 268 102 v "Comparable").run Tryd.prog w = .ok (103, v) w := by kernel_rfl
theorem Tryd.erComp : (Tryd.prog.info? 56).map (·.comparable) = some true := by kernel_rfl
theorem Tryd.erNoIs (v : Value) (xT : TypeId) (w : World) : (Instr.typeAssert (.iface 56 v) xT 104 true).run Tryd.prog w = .ok (.tuple #[.nilIface, .bool false]) w := run_typeAssert_lacksB Tryd.underlying104 (by kernel_rfl) (by kernel_rfl) v xT w
theorem Tryd.erNoUnwrap (v : Value) (xT : TypeId) (w : World) : (Instr.typeAssert (.iface 56 v) xT 107 true).run Tryd.prog w = .ok (.tuple #[.nilIface, .bool false]) w := run_typeAssert_lacksB Tryd.underlying107 (by kernel_rfl) (by kernel_rfl) v xT w
theorem Tryd.erNoUnwraps (v : Value) (xT : TypeId) (w : World) : (Instr.typeAssert (.iface 56 v) xT 109 true).run Tryd.prog w = .ok (.tuple #[.nilIface, .bool false]) w := run_typeAssert_lacksB Tryd.underlying109 (by kernel_rfl) (by kernel_rfl) v xT w
theorem Tryd.erNoAs (v : Value) (xT : TypeId) (w : World) : (Instr.typeAssert (.iface 56 v) xT 116 true).run Tryd.prog w = .ok (.tuple #[.nilIface, .bool false]) w := run_typeAssert_lacksB Tryd.underlying116 (by kernel_rfl) (by kernel_rfl) v xT w

/-- errors.Is(nil, n). -/
theorem is_nil (n : Int) (w : World) :
    Calls Tryd.prog 19 #[.nilIface, .iface 56 (.int .i64 n)] w fun e w' => e = .returned (.bool false) ∧ w = w' := by
  have hn := run_eql_iface_nil_left (P := Tryd.prog) w 56 (.int .i64 n) Tryd.underlying28
  go_enter Tryd.func19, Tryd.ntmps19
  go_wp2
  go_ret
  exact ⟨rfl, rfl⟩

set_option maxRecDepth 100000 in
set_option maxHeartbeats 1000000 in
/-- errors.Is(m, n), two numbers. -/
theorem is_num (m n : Int) (w : World) :
    Calls Tryd.prog 19 #[.iface 56 (.int .i64 m), .iface 56 (.int .i64 n)] w fun e w' => e = .returned (.bool (m == n)) ∧ w = w' := by
  obtain ⟨i, hi, hcmp⟩ := Option.map_eq_some_iff.1 Tryd.erComp
  have tT := Tryd.erCallTypeOf
  have cT := Tryd.erCallComparable
  have mR := Tryd.erMethodComparable
  have nE := Tryd.erNoIs
  have uE := Tryd.erNoUnwrap
  have vE := Tryd.erNoUnwraps
  have heq := fun W => run_eql_iface_int (P := Tryd.prog) W m n Tryd.underlying28 Tryd.underlying56 hi hcmp
  by_cases hmn : (m == n) = true
  · rw [hmn] at heq ⊢
    clear hmn
    go_enter Tryd.func19, Tryd.ntmps19
    go_wp2
    refine wp_loop_rounds 1 ?_
    rw [rounds_succ]
    go_wp2
    go_ret
    exact ⟨rfl, rfl⟩
  · have hmn : (m == n) = false := by simpa using hmn
    rw [hmn] at heq ⊢
    clear hmn
    go_enter Tryd.func19, Tryd.ntmps19
    go_wp2
    refine wp_loop_rounds 1 ?_
    rw [rounds_succ]
    go_wp2
    go_ret
    exact ⟨rfl, rfl⟩
end Go.Proofs.YtdkodedocklmdaaDoor
