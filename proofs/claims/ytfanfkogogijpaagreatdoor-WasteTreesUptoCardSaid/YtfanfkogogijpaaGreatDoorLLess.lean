/- The closure that waste.Look sorts by, cmp.Or. -/
import Derived.Test.YtfanfkogogijpaaGreatDoorJFl
import Derived.Test.YtfanfkogogijpaaGreatDoorCompare
import Derived.Test.YtfanfkogogijpaaGreatDoorSorts
import Derived.Test.YtfanfkogogijpaaGreatDoorShelf
import Derived.Deep.RegionLaw
set_option linter.unusedSimpArgs false
set_option linter.unusedVariables false
namespace Go.Proofs.YtfanfkogogijpaaGreatDoor
open Go.RowKit Go.Maps Go.Sort
open Go.Lib hiding intOf size_eq
/-- draws, and blocks laid behind -/
def Gr (W W' : World) : Prop := ∃ (q : Nat) (os : Array Obj), W' = grow (W.drewN q) os
theorem Gr.refl (W : World) : Gr W W := ⟨0, #[], by rw [grow_empty]; rfl⟩
theorem Gr.alloc {W W' : World} (h : Gr W W') (o : Obj) : Gr W (W'.alloc o) := by
  obtain ⟨q, os, rfl⟩ := h
  exact ⟨q, _, by rw [alloc_eq_grow, grow_grow]⟩
theorem Gr.drewN {W W' : World} (h : Gr W W') (n : Nat) : Gr W (W'.drewN n) := by
  obtain ⟨q, os, rfl⟩ := h
  exact ⟨q + n, os, by show grow ((W.drewN q).drewN n) os = _; rw [World.drewN_drewN]⟩
theorem Gr.drew {W W' : World} (h : Gr W W') : Gr W W'.drew := h.drewN 1
set_option maxHeartbeats 1000000 in
theorem or_any (a b : Int) (g : Nat) (w : World) (h0 : w.cell? ⟨g, 0, none⟩ = some (.int .i64 a)) (h1 : w.cell? ⟨g, 1, none⟩ = some (.int .i64 b)) :
    Calls Tryz.prog 14 #[.slice (some ⟨g, 0, none⟩) 2 2] w fun e w' => e = .returned (.int .i64 (if a = 0 then b else a)) ∧ w' = w := by
  obtain ⟨r, hr⟩ : ∃ r, r = if a = 0 then b else a := ⟨_, rfl⟩
  rw [← hr]
  have Hr := Lib.hid hr
  clear hr
  go_enter Tryz.func14, Tryz.ntmps14
  go_wp2
  go_loopw [8] (fun kv wr => ∃ k : Nat, kv = .int .i64 (k : Int) ∧ k ≤ 2 ∧ wr = w ∧ (1 ≤ k → a = 0) ∧ (2 ≤ k → b = 0)) (fun kv _ => 2 - (intOf kv).toNat)
  case atStart => exact ⟨0, rfl, by omega, rfl, fun h => absurd h (by omega), fun h => absurd h (by omega)⟩
  case round =>
    obtain ⟨k, rfl, hk, rfl, ha, hb⟩ := hrel
    have Ha := Lib.hid ha
    have Hb := Lib.hid hb
    clear ha hb
    match k, hk with
    | 0, _ =>
      by_cases h : a = 0
      · have hn : (a != 0) = false := by simp [h]
        have H := Lib.hid h
        clear h
        go_wp2
        go_roundw
        case rel => exact ⟨1, by simp, by omega, by simp, fun _ => H.out, fun h => absurd h (by omega)⟩
        case measure => simp [intOf]
      · have hn : (a != 0) = true := by simp [h]
        have H := Lib.hid h
        clear h
        go_wp2
        go_ret
        exact ⟨ret_int (by rw [Hr.out, if_neg H.out]), rfl⟩
    | 1, _ =>
      by_cases h : b = 0
      · have hn : (b != 0) = false := by simp [h]
        have H := Lib.hid h
        clear h
        go_wp2
        go_roundw
        case rel => exact ⟨2, by simp, by omega, by simp, fun _ => Ha.out (by omega), fun _ => H.out⟩
        case measure => simp [intOf]
      · have hn : (b != 0) = true := by simp [h]
        have H := Lib.hid h
        clear h
        go_wp2
        go_ret
        exact ⟨ret_int (by rw [Hr.out, if_pos (Ha.out (by omega))]), rfl⟩
    | 2, _ =>
      go_wp2
      go_ret
      exact ⟨ret_int (by rw [Hr.out, if_pos (Ha.out (by omega)), Hb.out (by omega)]), rfl⟩
/-- as the closure compares -/
def cfL (x y : LostB) : Int := if Lib.compareInt (y.b : Int) (x.b : Int) = 0 then compareP x.p.data.toList y.p.data.toList else Lib.compareInt (y.b : Int) (x.b : Int)
set_option maxHeartbeats 1000000 in
set_option maxRecDepth 100000 in
theorem less_any (x y : LostB) (W : World) (hx : x.p.size < 4611686018427387904) (hy : y.p.size < 4611686018427387904) :
    Calls Tryz.prog 13 #[.agg #[.string x.p, .int .i64 (x.t : Int), .int .i64 (x.b : Int)], .agg #[.string y.p, .int .i64 (y.t : Int), .int .i64 (y.b : Int)]] W fun e w' => e = .returned (.int .i64 (cfL x y)) ∧ Gr W w' := by
  have hc1 := fun W' => Tryz.cmp_Compare_int (y.b : Int) (x.b : Int) W'
  have hc2 := fun W' => compare_any x.p y.p W' hx hy
  have e : cfL x y = if Lib.compareInt (y.b : Int) (x.b : Int) = 0 then compareP x.p.data.toList y.p.data.toList else Lib.compareInt (y.b : Int) (x.b : Int) := rfl
  rw [e]
  generalize Lib.compareInt (y.b : Int) (x.b : Int) = c at *
  generalize compareP x.p.data.toList y.p.data.toList = d at *
  have hc3 : ∀ X : World, X.heap.size = W.heap.size + 1 + 1 → Calls Tryz.prog 14 #[.slice (some ⟨W.heap.size + 1 + 1, 0, none⟩) 2 2] (X.alloc (.cells #[.int .i64 c, .int .i64 d] 3)) fun e w' => e = .returned (.int .i64 (if c = 0 then d else c)) ∧ w' = X.alloc (.cells #[.int .i64 c, .int .i64 d] 3) := fun X hX => by
    have h := World.alloc_heap_new X (.cells #[.int .i64 c, .int .i64 d] 3)
    rw [hX] at h
    exact or_any c d _ _ (block_cell (j := 0) h rfl) (block_cell (j := 1) h rfl)
  have H1 := Lib.hid hc1
  have H2 := Lib.hid hc2
  have H3 := Lib.hid hc3
  clear hc3
  generalize (if c = 0 then d else c) = r at *
  clear hc1 hc2 e
  go_enter Tryz.func13, Tryz.ntmps13
  go_wp2_with fail
  go_region_law (first
    | (go_simp; go_at_call 15; refine (H1.out _).mono ?_; rintro e w1 ⟨rfl, rfl⟩)
    | (go_simp; go_at_call 16; refine (H2.out _).mono ?_; rintro e w2 ⟨rfl, q, rfl⟩)
    | (go_simp; go_at_call 14; refine (H3.out _ (by simp)).mono ?_; rintro e w3 ⟨rfl, rfl⟩))
  all_goals go_wp2_with fail
  all_goals go_ret
  all_goals refine ⟨rfl, ?_⟩
  all_goals repeat first | exact Gr.refl _ | refine Gr.alloc ?_ _ | refine Gr.drewN ?_ _ | refine Gr.drew ?_
end Go.Proofs.YtfanfkogogijpaaGreatDoor
