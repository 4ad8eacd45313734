/- The contracts of errors.Is and errors.As at nil and at values of api.Errno, and of stratakit.Num and stratakit.Plain. -/
import Derived.Test.YtfanfkogogijpaaGreatDoorProg
import Derived.WalkKit
import Derived.WalkLawsBesides
import Derived.WalkSpells
import Derived.LaidEql
import Derived.Stop.Asserts
import Derived.RowKitTokens
import Derived.Lib.Hide
import Derived.Deep.QuietTactic
import Derived.BigQuiet
namespace Go
section
variable {P : Program} (w : World)
theorem run_equalIn_iface_int (d : Nat) {ti tn : TypeId} {ms : Array (String × TypeId)} {i : TypeInfo} {k : IntKind} (a b : Int)
    (hi : P.underlying ti = some (.interface ms)) (hn : P.underlying tn = some (.int k)) (hinfo : P.info? tn = some i) (hcomp : i.comparable = true) :
    (Op.equalIn (d + 2) ti (.iface tn (.int k a)) (.iface tn (.int k b))).run P w = .ok (a == b) w := by
  simp [Op.equalIn, run_underlying hi, run_underlying hn, typeInfo, hinfo, hcomp]
theorem run_eql_iface_int {ti tn : TypeId} {ms : Array (String × TypeId)} {i : TypeInfo} {k : IntKind} (a b : Int)
    (hi : P.underlying ti = some (.interface ms)) (hn : P.underlying tn = some (.int k)) (hinfo : P.info? tn = some i) (hcomp : i.comparable = true) :
    (binOp .eql ti (.iface tn (.int k a)) (.iface tn (.int k b))).run P w = .ok (.bool (a == b)) w := by
  simp only [binOp]
  simp [Op.equal, Op.maxDepth, run_equalIn_iface_int w 9998 a b hi hn hinfo hcomp]
end
end Go
namespace Go.Proofs.YtfanfkogogijpaaGreatDoor
open Go.RowKit Go.Extern.Stop Go.Stop Go.Extern

theorem Tryz.erCallTypeOf (v : Value) (w : World) : (callFunc 65 #[.iface 65 v]).run Tryz.prog w = .ok (.value (.iface 128 (.agg #[.pointer (some ⟨3, 65, none⟩)]))) w := by kernel_rfl
theorem Tryz.erCallComparable (w : World) : (callFunc 116 #[.agg #[.pointer (some ⟨3, 65, none⟩)]]).run Tryz.prog w = .ok (.value (.bool true)) w := by kernel_rfl
theorem Tryz.erMethodComparable (v : Value) (w : World) : (Go.method 294 128 v "Comparable").run Tryz.prog w = .ok (116, v) w := by kernel_rfl
theorem Tryz.erComp : (Tryz.prog.info? 65).map (·.comparable) = some true := by kernel_rfl
theorem Tryz.erNoUnwrap (v : Value) (xT : TypeId) (w : World) : (Instr.typeAssert (.iface 65 v) xT 136 true).run Tryz.prog w = .ok (.tuple #[.nilIface, .bool false]) w := run_typeAssert_lacksB Tryz.underlying136 (by kernel_rfl) (by kernel_rfl) v xT w
theorem Tryz.erNoUnwraps (v : Value) (xT : TypeId) (w : World) : (Instr.typeAssert (.iface 65 v) xT 138 true).run Tryz.prog w = .ok (.tuple #[.nilIface, .bool false]) w := run_typeAssert_lacksB Tryz.underlying138 (by kernel_rfl) (by kernel_rfl) v xT w
theorem Tryz.erNoAs (v : Value) (xT : TypeId) (w : World) : (Instr.typeAssert (.iface 65 v) xT 133 true).run Tryz.prog w = .ok (.tuple #[.nilIface, .bool false]) w := run_typeAssert_lacksB Tryz.underlying133 (by kernel_rfl) (by kernel_rfl) v xT w

end Go.Proofs.YtfanfkogogijpaaGreatDoor
