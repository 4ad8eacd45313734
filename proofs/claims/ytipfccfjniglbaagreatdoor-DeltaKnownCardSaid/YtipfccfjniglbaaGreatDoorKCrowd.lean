/- The law DeltaKnown: crowd. -/
import Derived.Test.YtipfccfjniglbaaGreatDoorKNum
set_option linter.unusedSimpArgs false
set_option linter.unusedVariables false
namespace Go.Proofs.YtipfccfjniglbaaGreatDoor
open Go.RowKit Go.Maps Go.Shelf
open Go.Lib hiding intOf size_eq
def numE (h : UInt8) (i : Nat) : Ent := ⟨bs (numL h (i / 1000) (i / 100 % 10) (i / 10 % 10) (i % 10)), 2, 420, ⟨#[]⟩, ⟨#[]⟩⟩
def crowdE (h : UInt8) (n : Nat) : List Ent := (List.range n).map (numE h)
theorem crowdE_len (h : UInt8) (n : Nat) : (crowdE h n).length = n := by simp [crowdE]
theorem crowdE_succ (h : UInt8) (n : Nat) : crowdE h (n + 1) = crowdE h n ++ [numE h n] := by simp [crowdE, List.range_succ]
set_option maxRecDepth 100000 in
set_option maxHeartbeats 1000000 in
theorem crowd_any (h : UInt8) (n : Nat) (hn : n ≤ 4096) (w : World) : Calls Tryz.prog 60 #[.int .u8 (h.toNat : Int), .int .i64 (n : Int)] w fun r w' => ∃ v, r = .returned v ∧ RowE w' w.heap.size v (crowdE h n) ∧ Below w.heap.size w w' := by
  obtain ⟨i0, hi, hz0, hz1, hz2⟩ := info_parts Tryz.infoEntry
  have Hi := Lib.hid hi
  have Hz0 := Lib.hid hz0
  have Hz1 := Lib.hid hz1
  have Hz2 := Lib.hid hz2
  clear hi hz0 hz1 hz2
  go_enter Tryz.func60, Tryz.ntmps60
  go_wp2_with fail
  go_loopw [5, 6] (fun lv iv wr => ∃ (i : Nat), iv = .int .i64 (i : Int) ∧ i ≤ n ∧ wr.ownsRow w.heap.size 52 5 lv i ((crowdE h i).flatMap entC) ∧ Below w.heap.size w wr) (fun _ iv _ => n - (intOf iv).toNat)
  case atStart => exact ⟨0, rfl, Nat.zero_le _, World.ownsRow_nil _ _ _ _, Below.refl _ _⟩
  case round =>
    obtain ⟨i, rfl, hin, hrow, hbr⟩ := hrel
    have HR := Lib.hid hrow
    have Hbr := Lib.hid hbr
    have hbs := hbr.size
    clear hrow hbr
    by_cases hlt : i < n
    · obtain ⟨q, hq⟩ : ∃ q, q = bs (numL h (i / 1000) (i / 100 % 10) (i / 10 % 10) (i % 10)) := ⟨_, rfl⟩
      have N0 := Lib.hid (fun W => numbered_any h i (i / 1000) (i / 100 % 10) (i / 10 % 10) (i % 10) W (by omega) (by omega) (by omega) (by omega) (by omega))
      rw [← hq] at N0
      have F0 := Lib.hid (fun W => fileD q ⟨#[]⟩ W)
      have Hq := Lib.hid (show numE h i = ⟨q, 2, 420, ⟨#[]⟩, ⟨#[]⟩⟩ by rw [hq]; rfl)
      clear hq
      go_wp2_with fail
      refine (N0.out wr).mono ?_
      rintro r w2 ⟨rfl, hb1⟩
      have HR2 := Lib.hid (row_belowE HR.out hb1)
      have HB2 := Lib.hid (Hbr.out.trans (hb1.mono Hbr.out.size))
      clear hb1
      go_wp2_with fail
      refine (F0.out w2).mono ?_
      rintro r w3 ⟨rfl, hb2⟩
      have HR3 := Lib.hid (row_belowE HR2.out hb2)
      have HB3 := Lib.hid (HB2.out.trans (hb2.mono HB2.out.size))
      have h3 : w.heap.size ≤ w3.heap.size := HB3.out.size
      have HNx := Lib.hid (item_cells (cs := entC ⟨q, 2, 420, ⟨#[]⟩, ⟨#[]⟩⟩) (World.alloc_heap_new w3 (.cells #[.string q, .int .i64 2, .int .i64 420, .string ⟨#[]⟩, .string ⟨#[]⟩] 52)))
      clear hb2
      go_wp2_with (at_builtin; refine wpList_append_own _ rfl _ _ 22 rfl w.heap.size 52 i0 _ 5 64 Tryz.underlying22 Hi.out Hz0.out Hz1.out Hz2.out rfl (by decide) _ _ _ rfl (HR3.out.alloc _) ⟨w3.heap.size, 0, none⟩ 1 1 [.string q, .int .i64 2, .int .i64 420, .string ⟨#[]⟩, .string ⟨#[]⟩] rfl rfl HNx.out (by simp [Value.oneCell']) (by unfold maxLen; omega) (by omega) (by simp; omega) ?_; intro v' w4 hown hgrow _)
      go_roundw
      case rel => exact ⟨i + 1, by go_num, by omega, by rw [crowdE_succ, List.flatMap_append, Hq.out]; exact hown, (HB3.out.alloc (by omega) _).grown hgrow (by simp; omega) (fun i e => (World.ownsRow.lt HR3.out i e).1)⟩
      case measure => simp [intOf]; omega
    · obtain rfl : i = n := by omega
      have HL := Lib.hid (crowdE_len h i)
      go_wp2_with fail
      go_ret
      refine ⟨_, rfl, ?_, Hbr.out⟩
      unfold RowE
      rw [HL.out]
      exact HR.out
end Go.Proofs.YtipfccfjniglbaaGreatDoor
