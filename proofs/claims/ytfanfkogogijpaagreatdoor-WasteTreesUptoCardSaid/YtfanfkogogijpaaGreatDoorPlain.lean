/- The contracts of stratakit.Num and stratakit.Plain at nil and at a number 1 to 32 of api.Errno. -/
import Derived.Test.YtfanfkogogijpaaGreatDoorAs
namespace Go.Proofs.YtfanfkogogijpaaGreatDoor
open Go.RowKit Go.Extern.Stop Go.Stop Go.Extern

/-- what the world holds of the library's one variable that is read: the handle of the type error. -/
def Handle (w : World) : Prop := w.cell? ⟨1, 0, none⟩ = some (.iface 128 (.agg #[.pointer (some ⟨3, 26, none⟩)])) ∧ 1 < w.heap.size
theorem Handle.below {B : Nat} {w w' : World} (h : Handle w) (hb : Below B w w') (hB : w.heap.size ≤ B) : Handle w' :=
  ⟨(hb.cell (p := ⟨1, 0, none⟩) (Nat.lt_of_lt_of_le h.2 hB)).trans h.1, Nat.lt_of_lt_of_le h.2 hb.size⟩
theorem Handle.alloc {w : World} (h : Handle w) (o : Obj) : Handle (w.alloc o) :=
  ⟨(World.cell?_alloc_lt _ _ ⟨1, 0, none⟩ h.2).trans h.1, by have := h.2; simp only [World.size_alloc]; omega⟩

/-- An error of the program's: none, or a number. -/
def errV : Nat → Value
  | 0 => .nilIface
  | n + 1 => .iface 65 (.int .i64 ((n + 1 : Nat) : Int))

end Go.Proofs.YtfanfkogogijpaaGreatDoor
