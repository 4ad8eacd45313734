/- The law DeltaKnown: numbered. -/
import Derived.Test.YtipfccfjniglbaaGreatDoorDMakes
set_option linter.unusedSimpArgs false
set_option linter.unusedVariables false
namespace Go.Proofs.YtipfccfjniglbaaGreatDoor
open Go.RowKit Go.Maps Go.Shelf
open Go.Lib hiding intOf size_eq
def numL (h : UInt8) (a b c d : Nat) : List UInt8 := [h, UInt8.ofNat (48 + a), UInt8.ofNat (48 + b), UInt8.ofNat (48 + c), UInt8.ofNat (48 + d)]
theorem u8_of {a : Nat} (ha : a < 10) : ((UInt8.ofNat (48 + a)).toNat : Int) = 48 + (a : Int) := by
  rw [UInt8.toNat_ofNat']
  omega
theorem conv_num (h : UInt8) (a b c d : Nat) (ha : a < 10) (hb : b < 10) (hc : c < 10) (hd : d < 10) (w : World) : (convert 86 9 (.slice (some ⟨w.heap.size, 0, none⟩) 5 5)).run Tryz.prog (w.alloc (.cells #[.int .u8 (h.toNat : Int), .int .u8 (48 + (a : Int)), .int .u8 (48 + (b : Int)), .int .u8 (48 + (c : Int)), .int .u8 (48 + (d : Int))] 5)) = .ok (.string (bs (numL h a b c d))) (w.alloc (.cells #[.int .u8 (h.toNat : Int), .int .u8 (48 + (a : Int)), .int .u8 (48 + (b : Int)), .int .u8 (48 + (c : Int)), .int .u8 (48 + (d : Int))] 5)) := by
  rw [← u8_of ha, ← u8_of hb, ← u8_of hc, ← u8_of hd]
  exact run_convert_bytes_back _ _ _ 5 ⟨w.heap.size, 0, none⟩ 5 (numL h a b c d) Tryz.underlying86 Tryz.underlying5 Tryz.underlying9 (fun j hj => by
    have e2 : (⟨w.heap.size, 0, none⟩ : Addr).add j = ⟨w.heap.size, j, none⟩ := by unfold Addr.add; split <;> simp_all
    rw [e2]
    refine block_cell (j := j) (World.alloc_heap_new w _) ?_
    have hj5 : j < 5 := hj
    match j, hj5 with
    | 0, _ => rfl
    | 1, _ => rfl
    | 2, _ => rfl
    | 3, _ => rfl
    | 4, _ => rfl)
set_option maxRecDepth 100000 in
set_option maxHeartbeats 400000 in
theorem numbered_any (h : UInt8) (n a b c d : Nat) (w : World) (ha : a < 10) (hb : b < 10) (hc : c < 10) (hd : d < 10) (hn : n = 1000 * a + 100 * b + 10 * c + d) :
    Calls Tryz.prog 61 #[.int .u8 (h.toNat : Int), .int .i64 (n : Int)] w fun r w' => r = .returned (.string (bs (numL h a b c d))) ∧ Below w.heap.size w w' := by
  have q1 : Int.tdiv (n : Int) 1000 = (a : Int) := by rw [Int.tdiv_eq_ediv_of_nonneg (by omega)]; omega
  have q2 : Int.tdiv (n : Int) 100 = 10 * (a : Int) + (b : Int) := by rw [Int.tdiv_eq_ediv_of_nonneg (by omega)]; omega
  have q3 : Int.tdiv (n : Int) 10 = 100 * (a : Int) + 10 * (b : Int) + (c : Int) := by rw [Int.tdiv_eq_ediv_of_nonneg (by omega)]; omega
  have r2 : Int.tmod (10 * (a : Int) + (b : Int)) 10 = (b : Int) := by rw [Int.tmod_eq_emod_of_nonneg (by omega)]; omega
  have r3 : Int.tmod (100 * (a : Int) + 10 * (b : Int) + (c : Int)) 10 = (c : Int) := by rw [Int.tmod_eq_emod_of_nonneg (by omega)]; omega
  have r4 : Int.tmod (n : Int) 10 = (d : Int) := by rw [Int.tmod_eq_emod_of_nonneg (by omega)]; omega
  have s2 : (10 * (a : Int) + (b : Int)) % 10 = (b : Int) := by omega
  have s3 : (100 * (a : Int) + 10 * (b : Int) + (c : Int)) % 10 = (c : Int) := by omega
  have s4 : (n : Int) % 10 = (d : Int) := by omega
  have s5 : (b : Int) % 10 = (b : Int) := by omega
  have hnb : n < 10000 := by omega
  have hcv := conv_num h a b c d ha hb hc hd w
  have Hn := Lib.hid hn
  clear hn
  go_enter Tryz.func61, Tryz.ntmps61
  go_wp2_with fail
  go_ret
  exact ⟨rfl, (Below.refl _ _).alloc (Nat.le_refl _) _⟩
end Go.Proofs.YtipfccfjniglbaaGreatDoor
