/- The contracts of path.Join, Parent, Last, Below and of their twins in the reference; of Begins. -/
import Derived.Test.YtebniijkhjnbdaaShelf
import Derived.Test.YtebniijkhjnbdaaKit
import Derived.Test.YtebniijkhjnbdaaPlain
import Derived.Test.YtebniijkhjnbdaaSpec
import Derived.Outline
set_option linter.unusedSimpArgs false
set_option linter.unusedVariables false
namespace Go.Proofs.Ytebniijkhjnbdaa
open Go.RowKit
open Go.Lib hiding intOf

theorem ret_str {a b : ByteArray} (h : a = b) : Ending.returned (.string a) = .returned (.string b) := by rw [h]
theorem ret_bool {a b : Bool} (h : a = b) : Ending.returned (.bool a) = .returned (.bool b) := by rw [h]
theorem ret_int {k : IntKind} {a b : Int} (h : a = b) : Ending.returned (.int k a) = .returned (.int k b) := by rw [h]
theorem ret_two {a b c d : ByteArray} {v : Value} (h : a = b) (k : c = d) : Ending.returned (.tuple #[.string a, .string c, v]) = .returned (.tuple #[.string b, .string d, v]) := by rw [h, k]
theorem emptyB_t {a : ByteArray} (h : a.data.toList = []) : a.toList.isEmpty = true := by rw [toList_data, h]; rfl
theorem emptyB_f {a : ByteArray} (h : a.data.toList ≠ []) : a.toList.isEmpty = false := by rw [toList_data]; cases ha : a.data.toList <;> simp_all

theorem begins_any (a b : ByteArray) (w : World) (ha : a.size ≤ 9223372036854775807) (hb : b.size < 4611686018427387904) :
    Calls Try.prog 49 #[.string a, .string b] w fun e w' => e = .returned (.bool (hasPrefix a.data.toList b.data.toList)) ∧ w = w' := by
  have hh := hasPrefix_of_take a.data.toList b.data.toList
  rw [← size_eq, ← size_eq] at hh
  have H := Lib.hid hh
  clear hh
  by_cases h : b.size ≤ a.size
  · go_enter Try.func49, Try.ntmps49
    go_wp2
    go_ret
    exact ⟨ret_bool (by rw [← H.out, decide_eq_true h, extract_head, bs_tl, toList_data]; simp), rfl⟩
  · go_enter Try.func49, Try.ntmps49
    go_wp2
    go_ret
    exact ⟨ret_bool (by rw [← H.out, decide_eq_false h]; simp), rfl⟩

end Go.Proofs.Ytebniijkhjnbdaa
