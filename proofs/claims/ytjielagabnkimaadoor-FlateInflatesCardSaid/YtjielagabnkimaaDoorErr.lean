/- The contracts of errors.Is and errors.As at nil and at values of api.Errno, and of stratakit.Num and stratakit.Plain. -/
import Derived.Test.YtjielagabnkimaaDoorProg
import Derived.WalkKit
import Derived.WalkLawsBesides
import Derived.WalkSpells
import Derived.LaidEql
import Derived.Stop.Asserts
import Derived.RowKitTokens
import Derived.Lib.Hide
import Derived.Deep.QuietTactic
import Derived.BigQuiet
namespace Go
section
variable {P : Program} (w : World)
theorem run_equalIn_iface_int (d : Nat) {ti tn : TypeId} {ms : Array (String × TypeId)} {i : TypeInfo} {k : IntKind} (a b : Int)
    (hi : P.underlying ti = some (.interface ms)) (hn : P.underlying tn = some (.int k)) (hinfo : P.info? tn = some i) (hcomp : i.comparable = true) :
    (Op.equalIn (d + 2) ti (.iface tn (.int k a)) (.iface tn (.int k b))).run P w = .ok (a == b) w := by
  simp [Op.equalIn, run_underlying hi, run_underlying hn, typeInfo, hinfo, hcomp]
theorem run_eql_iface_int {ti tn : TypeId} {ms : Array (String × TypeId)} {i : TypeInfo} {k : IntKind} (a b : Int)
    (hi : P.underlying ti = some (.interface ms)) (hn : P.underlying tn = some (.int k)) (hinfo : P.info? tn = some i) (hcomp : i.comparable = true) :
    (binOp .eql ti (.iface tn (.int k a)) (.iface tn (.int k b))).run P w = .ok (.bool (a == b)) w := by
  simp only [binOp]
  simp [Op.equal, Op.maxDepth, run_equalIn_iface_int w 9998 a b hi hn hinfo hcomp]
end
end Go
namespace Go.Proofs.YtjielagabnkimaaDoor
open Go.RowKit Go.Extern.Stop Go.Stop Go.Extern

theorem Tryd.erCallTypeOf (v : Value) (w : World) : (callFunc 74 #[.iface 55 v]).run Tryd.prog w = .ok (.value (.iface 120 (.agg #[.pointer (some ⟨6, 55, none⟩)]))) w := by kernel_rfl
theorem Tryd.erCallComparable (w : World) : (callFunc 105 #[.agg #[.pointer (some ⟨6, 55, none⟩)]]).run Tryd.prog w = .ok (.value (.bool true)) w := by kernel_rfl
theorem Tryd.erMethodComparable (v : Value) (w : World) : (Go.method 263 120 v "Comparable").run Tryd.prog w = .ok (105, v) w := by kernel_rfl
theorem Tryd.erComp : (Tryd.prog.info? 55).map (·.comparable) = some true := by kernel_rfl
theorem Tryd.erNoIs (v : Value) (xT : TypeId) (w : World) : (Instr.typeAssert (.iface 55 v) xT 132 true).run Tryd.prog w = .ok (.tuple #[.nilIface, .bool false]) w := run_typeAssert_lacksB Tryd.underlying132 (by kernel_rfl) (by kernel_rfl) v xT w
theorem Tryd.erNoUnwrap (v : Value) (xT : TypeId) (w : World) : (Instr.typeAssert (.iface 55 v) xT 127 true).run Tryd.prog w = .ok (.tuple #[.nilIface, .bool false]) w := run_typeAssert_lacksB Tryd.underlying127 (by kernel_rfl) (by kernel_rfl) v xT w
theorem Tryd.erNoUnwraps (v : Value) (xT : TypeId) (w : World) : (Instr.typeAssert (.iface 55 v) xT 129 true).run Tryd.prog w = .ok (.tuple #[.nilIface, .bool false]) w := run_typeAssert_lacksB Tryd.underlying129 (by kernel_rfl) (by kernel_rfl) v xT w
theorem Tryd.erNoAs (v : Value) (xT : TypeId) (w : World) : (Instr.typeAssert (.iface 55 v) xT 124 true).run Tryd.prog w = .ok (.tuple #[.nilIface, .bool false]) w := run_typeAssert_lacksB Tryd.underlying124 (by kernel_rfl) (by kernel_rfl) v xT w

/-- errors.Is(nil, n). -/
theorem is_nil (n : Int) (w : World) :
    Calls Tryd.prog 66 #[.nilIface, .iface 55 (.int .i64 n)] w fun e w' => e = .returned (.bool false) ∧ w = w' := by
  have hn := run_eql_iface_nil_left (P := Tryd.prog) w 55 (.int .i64 n) Tryd.underlying30
  go_enter Tryd.func66, Tryd.ntmps66
  go_wp2
  go_ret
  exact ⟨rfl, rfl⟩

set_option maxRecDepth 100000 in
set_option maxHeartbeats 1000000 in
/-- errors.Is(m, n), two numbers. -/
theorem is_num (m n : Int) (w : World) :
    Calls Tryd.prog 66 #[.iface 55 (.int .i64 m), .iface 55 (.int .i64 n)] w fun e w' => e = .returned (.bool (m == n)) ∧ w = w' := by
  obtain ⟨i, hi, hcmp⟩ := Option.map_eq_some_iff.1 Tryd.erComp
  have tT := Tryd.erCallTypeOf
  have cT := Tryd.erCallComparable
  have mR := Tryd.erMethodComparable
  have nE := Tryd.erNoIs
  have uE := Tryd.erNoUnwrap
  have vE := Tryd.erNoUnwraps
  have heq := fun W => run_eql_iface_int (P := Tryd.prog) W m n Tryd.underlying30 Tryd.underlying55 hi hcmp
  by_cases hmn : (m == n) = true
  · rw [hmn] at heq ⊢
    clear hmn
    go_enter Tryd.func66, Tryd.ntmps66
    go_wp2
    refine wp_loop_rounds 1 ?_
    rw [rounds_succ]
    go_wp2
    go_ret
    exact ⟨rfl, rfl⟩
  · have hmn : (m == n) = false := by simpa using hmn
    rw [hmn] at heq ⊢
    clear hmn
    go_enter Tryd.func66, Tryd.ntmps66
    go_wp2
    refine wp_loop_rounds 1 ?_
    rw [rounds_succ]
    go_wp2
    go_ret
    exact ⟨rfl, rfl⟩
end Go.Proofs.YtjielagabnkimaaDoor
