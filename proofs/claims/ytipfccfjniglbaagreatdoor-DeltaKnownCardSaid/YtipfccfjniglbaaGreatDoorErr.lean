/- The contracts of errors.Is and errors.As at nil and at values of api.Errno, and of stratakit.Num and stratakit.Plain. -/
import Derived.Test.YtipfccfjniglbaaGreatDoorProg
import Derived.WalkKit
import Derived.WalkLawsBesides
import Derived.WalkSpells
import Derived.LaidEql
import Derived.Stop.Asserts
import Derived.RowKitTokens
import Derived.Lib.Hide
import Derived.Deep.QuietTactic
import Derived.BigQuiet
namespace Go
section
variable {P : Program} (w : World)
theorem run_equalIn_iface_int (d : Nat) {ti tn : TypeId} {ms : Array (String × TypeId)} {i : TypeInfo} {k : IntKind} (a b : Int)
    (hi : P.underlying ti = some (.interface ms)) (hn : P.underlying tn = some (.int k)) (hinfo : P.info? tn = some i) (hcomp : i.comparable = true) :
    (Op.equalIn (d + 2) ti (.iface tn (.int k a)) (.iface tn (.int k b))).run P w = .ok (a == b) w := by
  simp [Op.equalIn, run_underlying hi, run_underlying hn, typeInfo, hinfo, hcomp]
theorem run_eql_iface_int {ti tn : TypeId} {ms : Array (String × TypeId)} {i : TypeInfo} {k : IntKind} (a b : Int)
    (hi : P.underlying ti = some (.interface ms)) (hn : P.underlying tn = some (.int k)) (hinfo : P.info? tn = some i) (hcomp : i.comparable = true) :
    (binOp .eql ti (.iface tn (.int k a)) (.iface tn (.int k b))).run P w = .ok (.bool (a == b)) w := by
  simp only [binOp]
  simp [Op.equal, Op.maxDepth, run_equalIn_iface_int w 9998 a b hi hn hinfo hcomp]
end
end Go
namespace Go.Proofs.YtipfccfjniglbaaGreatDoor
open Go.RowKit Go.Extern.Stop Go.Stop Go.Extern

theorem Tryz.erCallTypeOf (v : Value) (w : World) : (callFunc 94 #[.iface 75 v]).run Tryz.prog w = .ok (.value (.iface 155 (.agg #[.pointer (some ⟨2, 75, none⟩)]))) w := by kernel_rfl
theorem Tryz.erCallComparable (w : World) : (callFunc 172 #[.agg #[.pointer (some ⟨2, 75, none⟩)]]).run Tryz.prog w = .ok (.value (.bool true)) w := by kernel_rfl
theorem Tryz.erMethodComparable (v : Value) (w : World) : (Go.method 317 155 v "Comparable").run Tryz.prog w = .ok (172, v) w := by kernel_rfl
theorem Tryz.erComp : (Tryz.prog.info? 75).map (·.comparable) = some true := by kernel_rfl
theorem Tryz.erNoIs (v : Value) (xT : TypeId) (w : World) : (Instr.typeAssert (.iface 75 v) xT 157 true).run Tryz.prog w = .ok (.tuple #[.nilIface, .bool false]) w := run_typeAssert_lacksB Tryz.underlying157 (by kernel_rfl) (by kernel_rfl) v xT w
theorem Tryz.erNoUnwrap (v : Value) (xT : TypeId) (w : World) : (Instr.typeAssert (.iface 75 v) xT 160 true).run Tryz.prog w = .ok (.tuple #[.nilIface, .bool false]) w := run_typeAssert_lacksB Tryz.underlying160 (by kernel_rfl) (by kernel_rfl) v xT w
theorem Tryz.erNoUnwraps (v : Value) (xT : TypeId) (w : World) : (Instr.typeAssert (.iface 75 v) xT 162 true).run Tryz.prog w = .ok (.tuple #[.nilIface, .bool false]) w := run_typeAssert_lacksB Tryz.underlying162 (by kernel_rfl) (by kernel_rfl) v xT w
theorem Tryz.erNoAs (v : Value) (xT : TypeId) (w : World) : (Instr.typeAssert (.iface 75 v) xT 167 true).run Tryz.prog w = .ok (.tuple #[.nilIface, .bool false]) w := run_typeAssert_lacksB Tryz.underlying167 (by kernel_rfl) (by kernel_rfl) v xT w

/-- errors.Is(nil, n). -/
theorem is_nil (n : Int) (w : World) :
    Calls Tryz.prog 58 #[.nilIface, .iface 75 (.int .i64 n)] w fun e w' => e = .returned (.bool false) ∧ w = w' := by
  have hn := run_eql_iface_nil_left (P := Tryz.prog) w 75 (.int .i64 n) Tryz.underlying30
  go_enter Tryz.func58, Tryz.ntmps58
  go_wp2
  go_ret
  exact ⟨rfl, rfl⟩

set_option maxRecDepth 100000 in
set_option maxHeartbeats 1000000 in
/-- errors.Is(m, n), two numbers. -/
theorem is_num (m n : Int) (w : World) :
    Calls Tryz.prog 58 #[.iface 75 (.int .i64 m), .iface 75 (.int .i64 n)] w fun e w' => e = .returned (.bool (m == n)) ∧ w = w' := by
  obtain ⟨i, hi, hcmp⟩ := Option.map_eq_some_iff.1 Tryz.erComp
  have tT := Tryz.erCallTypeOf
  have cT := Tryz.erCallComparable
  have mR := Tryz.erMethodComparable
  have nE := Tryz.erNoIs
  have uE := Tryz.erNoUnwrap
  have vE := Tryz.erNoUnwraps
  have heq := fun W => run_eql_iface_int (P := Tryz.prog) W m n Tryz.underlying30 Tryz.underlying75 hi hcmp
  by_cases hmn : (m == n) = true
  · rw [hmn] at heq ⊢
    clear hmn
    go_enter Tryz.func58, Tryz.ntmps58
    go_wp2
    refine wp_loop_rounds 1 ?_
    rw [rounds_succ]
    go_wp2
    go_ret
    exact ⟨rfl, rfl⟩
  · have hmn : (m == n) = false := by simpa using hmn
    rw [hmn] at heq ⊢
    clear hmn
    go_enter Tryz.func58, Tryz.ntmps58
    go_wp2
    refine wp_loop_rounds 1 ?_
    rw [rounds_succ]
    go_wp2
    go_ret
    exact ⟨rfl, rfl⟩
end Go.Proofs.YtipfccfjniglbaaGreatDoor
