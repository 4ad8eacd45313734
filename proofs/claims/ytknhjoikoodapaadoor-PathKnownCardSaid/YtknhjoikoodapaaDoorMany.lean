/- stratalaw01.many, and the cells of a row of texts just laid. -/
import Derived.Test.YtknhjoikoodapaaDoorWorks
set_option linter.unusedSimpArgs false
set_option linter.unusedVariables false
namespace Go.Proofs.YtknhjoikoodapaaDoor
open Go.RowKit
open Go.Lib hiding intOf

def manyP (l : List UInt8) : Nat → List UInt8
  | 0 => []
  | n + 1 => manyP l n ++ l
theorem manyP_length (l : List UInt8) : ∀ n, (manyP l n).length = n * l.length
  | 0 => by simp [manyP]
  | n + 1 => by rw [manyP, List.length_append, manyP_length l n, Nat.succ_mul]

set_option maxRecDepth 100000 in
set_option maxHeartbeats 1000000 in
theorem many_any (s : ByteArray) (n : Nat) (w : World) (hs : s.size ≤ 2) (hn : n ≤ 1000) :
    Calls Tryd.prog 35 #[.string s, .int .i64 (n : Int)] w fun e w' => e = .returned (.string (bs (manyP s.data.toList n))) ∧ w = w' := by
  go_enter Tryd.func35, Tryd.ntmps35
  go_wp2_with fail
  go_loop [5, 6] (fun o i => ∃ (k : Nat) (x : ByteArray), k ≤ n ∧ i = .int .i64 k ∧ o = .string x ∧ Hid (x = bs (manyP s.data.toList k)) ∧ x.size ≤ k * 2) (fun _ i => n - (intOf i).toNat)
  case atStart => exact ⟨0, ⟨#[]⟩, by omega, rfl, rfl, Lib.hid rfl, by decide⟩
  case round =>
    obtain ⟨k, x, hk, rfl, rfl, hx, hxs⟩ := hrel
    by_cases hlt : (k : Int) < (n : Int)
    · have h1 : ¬ 9223372036854775807 < x.size + s.size := by omega
      go_wp2
      go_round
      case rel =>
        refine ⟨k + 1, _, by omega, by go_num, rfl, Lib.hid ?_, ?_⟩
        · rw [append_bs, hx.out]
          rfl
        · rw [append_bs, bs_size, List.length_append, ← size_eq, ← size_eq]
          omega
      case measure => simp [intOf]; omega
    · obtain rfl : k = n := by omega
      go_wp2
      go_ret
      exact ⟨congrArg (fun y => Ending.returned (.string y)) hx.out, rfl⟩

theorem rowCell (w : World) (t : TypeId) (xs : List ByteArray) (k : Nat) (x : ByteArray) (h : xs[k]? = some x) : (w.alloc (.cells (xs.map Value.string).toArray t)).cell? ⟨w.heap.size, k, none⟩ = some (.string x) := by
  have h1 := World.alloc_heap_new w (.cells (xs.map Value.string).toArray t)
  unfold World.cell?
  rw [h1]
  simp [h]
end Go.Proofs.YtknhjoikoodapaaDoor
