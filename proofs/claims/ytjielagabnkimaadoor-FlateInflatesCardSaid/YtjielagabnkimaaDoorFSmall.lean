/- flate.turned, flate.three, flate.alike: what they answer. -/
import Derived.Test.YtjielagabnkimaaDoorPlain
import Derived.Test.YtjielagabnkimaaDoorFNum
import Derived.Test.YtjielagabnkimaaDoorFDef
set_option linter.unusedSimpArgs false
set_option linter.unusedVariables false
namespace Go.Proofs.YtjielagabnkimaaDoor
open Go.RowKit
theorem ret_num {k : IntKind} {a b : Int} (h : a = b) : Ending.returned (.int k a) = .returned (.int k b) := by rw [h]
theorem Same.drewN {w w' : World} (h : Same w w') (n : Nat) : Same w (w'.drewN n) := by
  obtain ⟨m, rfl⟩ := h
  exact ⟨m + n, World.drewN_drewN _ _ _⟩
theorem three_bits (a b c : Nat) (ha : a < 256) (hb : b < 256) (hc : c < 256) :
    bits .or .u32 (bits .or .u32 ((a : Int) % 4294967296 * 65536 % 4294967296) ((b : Int) % 4294967296 * 256 % 4294967296)) ((c : Int) % 4294967296) = ((a * 65536 + b * 256 + c : Nat) : Int) := by
  rw [show (a : Int) % 4294967296 * 65536 % 4294967296 = ((a * 2 ^ 16 : Nat) : Int) from by omega, show (b : Int) % 4294967296 * 256 % 4294967296 = ((b * 256 : Nat) : Int) from by omega,
    show (c : Int) % 4294967296 = ((c : Nat) : Int) from by omega, u32_or_nat _ _ (by omega) (by omega), add_or (by omega), Nat.add_comm,
    show a * 2 ^ 16 + b * 256 = (a * 256 + b) * 2 ^ 8 by omega, u32_or_nat _ _ (by omega) (by omega), add_or (by omega)]
  congr 1
  omega

set_option maxRecDepth 100000 in
set_option maxHeartbeats 1000000 in
theorem turned_any (x n : Nat) (w : World) (hn : n ≤ 15) (hx : x < 2 ^ 60) :
    Calls Tryd.prog 49 #[.int .i64 (x : Int), .int .i64 (n : Int)] w fun e w' => e = .returned (.int .i64 ((turnN 0 x n : Nat) : Int)) ∧ w = w' := by
  go_enter Tryd.func49, Tryd.ntmps49
  go_wp2_with fail
  go_loop [0, 5, 7] (fun xv yv i => ∃ X Y k : Nat, xv = .int .i64 (X : Int) ∧ yv = .int .i64 (Y : Int) ∧ i = .int .i64 (k : Int) ∧ k ≤ n ∧ X < 2 ^ 60 ∧ Y < 2 ^ k ∧ turnN Y X (n - k) = turnN 0 x n) (fun _ _ i => n - (intOf i).toNat)
  case atStart => exact ⟨x, 0, 0, rfl, rfl, rfl, Nat.zero_le _, hx, by simp, rfl⟩
  case round =>
    obtain ⟨X, Y, k, rfl, rfl, rfl, hk, hX, hY, he⟩ := hrel
    have hp : 2 ^ k ≤ 2 ^ 15 := Nat.pow_le_pow_right (by decide) (by omega)
    by_cases hlt : (k : Int) < (n : Int)
    · go_wp2_with fail
      go_round
      case rel =>
        refine ⟨X / 2, 2 * Y + X % 2, k + 1, ?_, ?_, ?_, by omega, by omega, by rw [Nat.pow_succ]; omega, ?_⟩
        · congr 1
        · congr 1
          rw [show (Y : Int) * 2 = ((Y * 2 ^ 1 : Nat) : Int) from by simp]
          rw [show bits .and .i64 (X : Int) 1 = ((X &&& 1 : Nat) : Int) from i64_and_nat X 1 (by omega) (by decide), and_one, i64_or_nat _ _ (by omega) (by omega), add_or (by omega)]
          omega
        · go_num
        · rw [← he, show n - k = (n - (k + 1)) + 1 by omega]
          rfl
      case measure => simp [intOf]; omega
    · obtain rfl : k = n := by omega
      rw [Nat.sub_self] at he
      have he : Y = turnN 0 x k := he
      go_wp2_with fail
      go_ret
      exact ⟨rfl, rfl⟩

set_option maxRecDepth 100000 in
set_option maxHeartbeats 1000000 in
theorem three_any (s : ByteArray) (i : Nat) (w : World) (hi : i + 3 ≤ s.size) (hs : s.size < 2 ^ 60) :
    Calls Tryd.prog 51 #[.string s, .int .i64 (i : Int)] w fun e w' => e = .returned (.int .u32 ((threeN s.data.toList i : Nat) : Int)) ∧ Same w w' := by
  have h1 : i < s.size := by omega
  have h2 : (i : Int) + 1 < (s.size : Int) := by omega
  have h3 : (i : Int) + 2 < (s.size : Int) := by omega
  have h4 : 0 ≤ (i : Int) + 1 := by omega
  have h5 : 0 ≤ (i : Int) + 2 := by omega
  go_enter Tryd.func51, Tryd.ntmps51
  go_wp2_with fail
  go_wp2_with fail
  go_quiet (fail)
  go_wp2_with fail
  go_ret
  refine ⟨ret_num ?_, ⟨_, rfl⟩⟩
  rw [three_bits _ _ _ s[i].toNat_lt s[i + 1].toNat_lt s[i + 2].toNat_lt, threeN, at8_eq, at8_eq, at8_eq]

set_option maxRecDepth 100000 in
set_option maxHeartbeats 2000000 in
theorem alike_any (s : ByteArray) (j i : Nat) (w : World) (hj : j < i) (hi : i ≤ s.size) (hs : s.size < 2 ^ 60) :
    Calls Tryd.prog 52 #[.string s, .int .i64 (j : Int), .int .i64 (i : Int)] w fun e w' => e = .returned (.int .i64 ((alikeN s.data.toList j i : Nat) : Int)) ∧ Same w w' := by
  go_enter Tryd.func52, Tryd.ntmps52
  go_wp2_with fail
  go_loopw [7] (fun nv wr => ∃ n : Nat, Same w wr ∧ nv = .int .i64 (n : Int) ∧ n ≤ 258 ∧ i + n ≤ s.size ∧ n + common (s.data.toList.drop (j + n)) (s.data.toList.drop (i + n)) (258 - n) = alikeN s.data.toList j i) (fun nv _ => 258 - (intOf nv).toNat)
  case atStart => exact ⟨0, Same.refl _, rfl, by omega, by omega, by simp [alikeN]⟩
  case round =>
    obtain ⟨n, hsm, rfl, hn, hin, he⟩ := hrel
    have Hsm := Lib.hid hsm
    clear hsm
    have hlen : s.data.toList.length = s.size := rfl
    have He := Lib.hid he
    clear he
    by_cases h1 : (n : Int) < 258
    · by_cases h2 : (i : Int) + n < (s.size : Int)
      · have h3 : (j : Int) + n < (s.size : Int) := by omega
        have h4 : 0 ≤ (i : Int) + n := by omega
        have h5 : 0 ≤ (j : Int) + n := by omega
        have k1 : i + n < s.data.toList.length := by omega
        have k2 : j + n < s.data.toList.length := by omega
        have k3 : i + n < s.size := by omega
        have k4 : j + n < s.size := by omega
        obtain ⟨f, hf⟩ : ∃ f, 258 - n = f + 1 := ⟨257 - n, by omega⟩
        have he := He.out
        rw [hf, drop_cons k1, drop_cons k2, common] at he
        by_cases hq : s.data.toList[j + n] = s.data.toList[i + n]
        · rw [if_pos hq] at he
          have hb : ((s[j + n].toNat : Int) == (s[i + n].toNat : Int)) = true := by
            have : s[j + n] = s[i + n] := hq
            rw [this]; simp
          have Hq := Lib.hid hq
          have He2 := Lib.hid he
          have Hf := Lib.hid hf
          clear hq he hf k1 k2
          go_wp2_with fail
          go_quiet (fail)
          go_wp2_with fail
          go_roundw
          case rel => exact ⟨n + 1, Hsm.out.drewN _, by go_num, by omega, by omega, by rw [← He2.out, show 258 - (n + 1) = f by have := Hf.out; omega]; simp only [Nat.add_assoc]⟩
          case measure => simp [intOf]; omega
        · rw [if_neg hq] at he
          have hb : ((s[j + n].toNat : Int) == (s[i + n].toNat : Int)) = false := by
            have : ¬ s[j + n] = s[i + n] := hq
            rw [beq_eq_false_iff_ne]
            intro h
            exact this (UInt8.toNat_inj.1 (by omega))
          have Hq := Lib.hid hq
          have He2 := Lib.hid he
          have Hf := Lib.hid hf
          clear hq he hf k1 k2
          go_wp2_with fail
          go_quiet (fail)
          go_wp2_with fail
          go_ret
          exact ⟨ret_num (by have := He2.out; omega), Hsm.out.drewN _⟩
      · have he := He.out
        have h6 : i + n = s.size := by omega
        rw [h6, ← hlen, List.drop_length, common_end] at he
        have He2 := Lib.hid he
        clear he hlen
        have h7 : s.size ≤ i + n := by omega
        have h8 : ((i : Int) + n < (s.size : Int)) = False := by simp; omega
        clear h6
        go_wp2_with fail
        go_quiet (fail)
        go_wp2_with fail
        go_ret
        exact ⟨ret_num (by have := He2.out; omega), Hsm.out.drewN _⟩
    · have he := He.out
      rw [show 258 - n = 0 by omega, common_zero] at he
      have He2 := Lib.hid he
      clear he hlen
      obtain rfl : n = 258 := by omega
      go_wp2_with fail
      go_quiet (fail)
      go_wp2_with fail
      go_ret
      exact ⟨ret_num (by have := He2.out; omega), Hsm.out.drewN _⟩

end Go.Proofs.YtjielagabnkimaaDoor
