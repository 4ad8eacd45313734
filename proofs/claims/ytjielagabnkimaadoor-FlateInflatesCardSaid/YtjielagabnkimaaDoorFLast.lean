/- flate.last over a laid table. -/
import Derived.Test.YtjielagabnkimaaDoorFSmall
set_option linter.unusedSimpArgs false
set_option linter.unusedVariables false
namespace Go.Proofs.YtjielagabnkimaaDoor
open Go.RowKit

/-- block b holds this table -/
def TabAt (w : World) (b : Nat) (T : List (Nat × Nat)) : Prop := ∀ k, k < T.length → w.cell? ⟨b, k * 2, none⟩ = some (.int .i64 (((T.getD k (0, 0)).1 : Nat) : Int)) ∧ w.cell? ⟨b, k * 2 + 1, none⟩ = some (.int .i64 (((T.getD k (0, 0)).2 : Nat) : Int))

set_option maxRecDepth 100000 in
set_option maxHeartbeats 2000000 in
theorem last_any (b : Nat) (T : List (Nat × Nat)) (n : Nat) (w : World) (hT : TabAt w b T) (h0 : 0 < T.length) (hl : T.length ≤ 30) (hn : (T.getD 0 (0, 0)).1 ≤ n) (hn2 : n < 2 ^ 60) (ha : ∀ k, k < T.length → (T.getD k (0, 0)).1 < 2 ^ 60) :
    Calls Tryd.prog 53 #[.slice (some ⟨b, 0, none⟩) T.length T.length, .int .i64 (n : Int)] w fun e w' => e = .returned (.int .i64 ((lastN T n T.length : Nat) : Int)) ∧ w = w' := by
  generalize hm : T.length = m at *
  go_enter Tryd.func53, Tryd.ntmps53
  go_wp2_with fail
  go_loop [5] (fun iv => ∃ k : Nat, iv = .int .i64 (k : Int) ∧ k < m ∧ lastN T n (k + 1) = lastN T n m) (fun iv => (intOf iv).toNat)
  case atStart => exact ⟨m - 1, by go_num, by omega, by rw [show m - 1 + 1 = m by omega]⟩
  case round =>
    obtain ⟨k, rfl, hk, he⟩ := hrel
    have hc := (hT k (by omega)).1
    have hb := ha k hk
    rw [lastN] at he
    by_cases hlt : (T.getD k (0, 0)).1 ≤ n
    · rw [if_pos hlt] at he
      generalize hv : (T.getD k (0, 0)).1 = v at *
      have He := Lib.hid he
      clear he
      go_wp2_with fail
      go_ret
      exact ⟨ret_num (by have := He.out; omega), rfl⟩
    · rw [if_neg hlt] at he
      generalize hv : (T.getD k (0, 0)).1 = v at *
      have hk0 : 0 < k := by
        apply Nat.pos_of_ne_zero
        rintro rfl
        omega
      go_wp2_with fail
      go_round
      case rel => exact ⟨k - 1, by go_num, by omega, by rw [show k - 1 + 1 = k by omega]; exact he⟩
      case measure => simp [intOf]; omega
end Go.Proofs.YtjielagabnkimaaDoor
