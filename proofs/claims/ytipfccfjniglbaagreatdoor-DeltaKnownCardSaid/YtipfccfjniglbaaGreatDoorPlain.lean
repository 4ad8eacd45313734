/- The contracts of stratakit.Num and stratakit.Plain at nil and at a number 1 to 32 of api.Errno. -/
import Derived.Test.YtipfccfjniglbaaGreatDoorAs
namespace Go.Proofs.YtipfccfjniglbaaGreatDoor
open Go.RowKit Go.Extern.Stop Go.Stop Go.Extern

/-- what the world holds of the library's one variable that is read: the handle of the type error. -/
def Handle (w : World) : Prop := w.cell? ⟨0, 0, none⟩ = some (.iface 155 (.agg #[.pointer (some ⟨2, 30, none⟩)])) ∧ 0 < w.heap.size
theorem Handle.below {B : Nat} {w w' : World} (h : Handle w) (hb : Below B w w') (hB : w.heap.size ≤ B) : Handle w' :=
  ⟨(hb.cell (p := ⟨0, 0, none⟩) (Nat.lt_of_lt_of_le h.2 hB)).trans h.1, Nat.lt_of_lt_of_le h.2 hb.size⟩
theorem Handle.alloc {w : World} (h : Handle w) (o : Obj) : Handle (w.alloc o) :=
  ⟨(World.cell?_alloc_lt _ _ ⟨0, 0, none⟩ h.2).trans h.1, by have := h.2; simp only [World.size_alloc]; omega⟩

/-- An error of the program's: none, or a number. -/
def errV : Nat → Value
  | 0 => .nilIface
  | n + 1 => .iface 75 (.int .i64 ((n + 1 : Nat) : Int))

theorem num_nil (w : World) : Calls Tryz.prog 30 #[.nilIface] w fun e w' => e = .returned (.int .i64 0) ∧ w = w' := by
  go_enter Tryz.func30, Tryz.ntmps30
  go_wp2
  go_ret
  exact ⟨rfl, rfl⟩

set_option maxRecDepth 100000 in
set_option maxHeartbeats 1000000 in
theorem num_num (n : Nat) (w : World) (h1 : 1 ≤ n) (h2 : n ≤ 32) : Calls Tryz.prog 30 #[.iface 75 (.int .i64 (n : Int))] w fun e w' => e = .returned (.int .i64 (n : Int)) ∧ w = w' := by
  go_enter Tryz.func30, Tryz.ntmps30
  go_wp2_with fail
  go_loop [3, 4] (fun f i => ∃ k : Nat, 1 ≤ k ∧ k ≤ 33 ∧ i = .int .i64 k ∧ ((k ≤ n ∧ f = .int .i64 0) ∨ (n < k ∧ f = .int .i64 n))) (fun _ i => 33 - (intOf i).toNat)
  case atStart => exact ⟨1, by omega, by omega, rfl, .inl ⟨h1, rfl⟩⟩
  case round =>
    obtain ⟨k, hk1, hk2, rfl, hf⟩ := hrel
    by_cases hlt : k ≤ 32
    · by_cases he : k = n
      · subst he
        obtain ⟨_, rfl⟩ : k ≤ k ∧ _ := by
          rcases hf with h | h
          · exact h
          · exact absurd h.1 (by omega)
        have hi := is_num (k : Int) (k : Int) w
        rw [show ((k : Int) == (k : Int)) = true from by simp] at hi
        have Hi := Lib.hid hi
        clear hi
        go_wp2_with (go_at_call 58; refine (Hi.out).mono ?_; rintro e w' ⟨rfl, rfl⟩)
        go_round
        case rel => exact ⟨k + 1, by omega, by omega, by go_num, .inr ⟨by omega, rfl⟩⟩
        case measure => simp [intOf]; omega
      · have hi := is_num (n : Int) (k : Int) w
        rw [show ((n : Int) == (k : Int)) = false from by simp; omega] at hi
        have Hi := Lib.hid hi
        clear hi
        rcases hf with ⟨hf, rfl⟩ | ⟨hf, rfl⟩
        · go_wp2_with (go_at_call 58; refine (Hi.out).mono ?_; rintro e w' ⟨rfl, rfl⟩)
          go_round
          case rel => exact ⟨k + 1, by omega, by omega, by go_num, .inl ⟨by omega, rfl⟩⟩
          case measure => simp [intOf]; omega
        · go_wp2_with (go_at_call 58; refine (Hi.out).mono ?_; rintro e w' ⟨rfl, rfl⟩)
          go_round
          case rel => exact ⟨k + 1, by omega, by omega, by go_num, .inr ⟨by omega, rfl⟩⟩
          case measure => simp [intOf]; omega
    · obtain ⟨_, rfl⟩ : n < k ∧ _ := by
        rcases hf with h | h
        · exact absurd h.1 (by omega)
        · exact h
      have hi := is_num (n : Int) 0 w
      rw [show ((n : Int) == 0) = false from by simp; omega] at hi
      have Hi := Lib.hid hi
      clear hi
      have b1 : ((n : Int) == 0) = false := by simp; omega
      go_wp2_with (go_at_call 58; refine (Hi.out).mono ?_; rintro e w' ⟨rfl, rfl⟩)
      go_ret
      exact ⟨rfl, rfl⟩

end Go.Proofs.YtipfccfjniglbaaGreatDoor
