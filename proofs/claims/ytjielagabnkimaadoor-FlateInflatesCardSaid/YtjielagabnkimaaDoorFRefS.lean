/- The document's answer: the stored form, codes as texts, the short form. -/
import Derived.Test.YtjielagabnkimaaDoorFPure
import Derived.Test.YtjielagabnkimaaDoorFFour
import Derived.Test.YtjielagabnkimaaDoorFCanon
import Derived.Test.YtjielagabnkimaaDoorFBack
import Derived.Test.YtjielagabnkimaaDoorFFixed
import Derived.Test.YtjielagabnkimaaDoorFDeflate
import Derived.Deep.RegionWith
import Derived.Laws.BitsAll
import Derived.Deep.RegionHeld3
import Derived.Maps.GroupsBeside
import Derived.Deep.AppendLies
import Derived.Lib.AppendStr
import Derived.Lib.SlBytesConst
set_option linter.unusedSimpArgs false
set_option linter.unusedVariables false
namespace Go.Proofs.YtjielagabnkimaaDoor
section
/-- byte j of the first i bits of l -/
def cellN (l : List Bool) (i j : Nat) : Nat := num (((l.take i).drop (8 * j)).take 8)
theorem cellN_lt (l : List Bool) (i j : Nat) : cellN l i j < 256 := by
  have h := num_lt (((l.take i).drop (8 * j)).take 8)
  have h2 : (((l.take i).drop (8 * j)).take 8).length ≤ 8 := by rw [List.length_take]; omega
  have h3 : 2 ^ (((l.take i).drop (8 * j)).take 8).length ≤ 2 ^ 8 := Nat.pow_le_pow_right (by decide) h2
  unfold cellN; omega
theorem cellN_zero (l : List Bool) (j : Nat) : cellN l 0 j = 0 := by unfold cellN; rw [List.take_zero, List.drop_nil, List.take_nil]; rfl
theorem cellN_other {l : List Bool} {i j : Nat} (h : j ≠ i / 8) : cellN l (i + 1) j = cellN l i j := by
  unfold cellN
  rw [List.drop_take, List.drop_take, List.take_take, List.take_take]
  by_cases h1 : j < i / 8
  · rw [show min 8 (i + 1 - 8 * j) = 8 by omega, show min 8 (i - 8 * j) = 8 by omega]
  · rw [show min 8 (i + 1 - 8 * j) = 0 by omega, show min 8 (i - 8 * j) = 0 by omega]
theorem cellN_at (l : List Bool) (i : Nat) : cellN l i (i / 8) = num ((l.drop (8 * (i / 8))).take (i % 8)) := by
  unfold cellN
  rw [List.drop_take, List.take_take, show min 8 (i - 8 * (i / 8)) = i % 8 by omega]
theorem cellN_at_lt (l : List Bool) (i : Nat) : cellN l i (i / 8) < 2 ^ (i % 8) := by
  rw [cellN_at]
  have h := num_lt ((l.drop (8 * (i / 8))).take (i % 8))
  have h2 : ((l.drop (8 * (i / 8))).take (i % 8)).length ≤ i % 8 := by rw [List.length_take]; omega
  have h3 : 2 ^ ((l.drop (8 * (i / 8))).take (i % 8)).length ≤ 2 ^ (i % 8) := Nat.pow_le_pow_right (by decide) h2
  omega
theorem cellN_next {l : List Bool} {i : Nat} (h : i < l.length) : cellN l (i + 1) (i / 8) = cellN l i (i / 8) + (if l.getD i false then 2 ^ (i % 8) else 0) := by
  rw [cellN_at]
  unfold cellN
  rw [List.drop_take, List.take_take, show min 8 (i + 1 - 8 * (i / 8)) = i % 8 + 1 by omega, List.take_add_one, num_append]
  have e : (l.drop (8 * (i / 8)))[i % 8]? = some (l.getD i false) := by
    rw [List.getElem?_drop, show 8 * (i / 8) + i % 8 = i by omega, List.getElem?_eq_getElem h, List.getD_eq_getElem?_getD, List.getElem?_eq_getElem h]; rfl
  have hl : ((l.drop (8 * (i / 8))).take (i % 8)).length = i % 8 := by rw [List.length_take, List.length_drop]; omega
  rw [e, hl]
  cases l.getD i false <;> simp [num]
theorem or_pow {a k : Nat} (h : a < 2 ^ k) : a ||| 2 ^ k = a + 2 ^ k := by
  have := Nat.two_pow_add_eq_or_of_lt h 1
  rw [Nat.mul_one] at this
  rw [Nat.or_comm, ← this, Nat.add_comm]
theorem cellN_or {l : List Bool} {i : Nat} (h : i < l.length) (hb : l.getD i false = true) : cellN l i (i / 8) ||| 2 ^ (i % 8) = cellN l (i + 1) (i / 8) := by
  rw [cellN_next h, if_pos hb, or_pow (cellN_at_lt l i)]
theorem cellN_none {l : List Bool} {i : Nat} (h : i < l.length) (hb : l.getD i false = false) : cellN l (i + 1) (i / 8) = cellN l i (i / 8) := by
  rw [cellN_next h, hb]; simp
theorem pack_getD : ∀ (m : Nat) (l : List Bool) (j : Nat), j < m → (pack m l).getD j 0 = UInt8.ofNat (num ((l.drop (8 * j)).take 8))
  | 0, _, _, h => by omega
  | m + 1, l, 0, _ => by rw [pack, Nat.mul_zero, List.drop_zero]; rfl
  | m + 1, l, j + 1, h => by
    rw [pack, List.getD_cons_succ, pack_getD m _ j (by omega), List.drop_drop, show 8 + 8 * j = 8 * (j + 1) by omega]
theorem packed_getD (l : List Bool) (j : Nat) (h : j < (l.length + 7) / 8) : (packed l).getD j 0 = UInt8.ofNat (cellN l l.length j) := by
  unfold packed cellN
  rw [pack_getD _ _ _ h, List.take_length]
/-- a length's symbol, found from below -/
theorem lastN_step (t : List (Nat × Nat)) (n k : Nat) : lastN t n (k + 1) = if (t.getD k (0, 0)).1 ≤ n then k else lastN t n k := rfl
/-- are three bytes the same? -/
theorem threeN_inj (s : List UInt8) (i j : Nat) : threeN s i = threeN s j ↔ (s.getD i 0 = s.getD j 0 ∧ s.getD (i + 1) 0 = s.getD (j + 1) 0 ∧ s.getD (i + 2) 0 = s.getD (j + 2) 0) := by
  have a0 := at8_lt s i
  have a1 := at8_lt s (i + 1)
  have a2 := at8_lt s (i + 2)
  have b0 := at8_lt s j
  have b1 := at8_lt s (j + 1)
  have b2 := at8_lt s (j + 2)
  constructor
  · intro h
    unfold threeN at h
    refine ⟨UInt8.toNat_inj.1 ?_, UInt8.toNat_inj.1 ?_, UInt8.toNat_inj.1 ?_⟩
    · show at8 s i = at8 s j; omega
    · show at8 s (i + 1) = at8 s (j + 1); omega
    · show at8 s (i + 2) = at8 s (j + 2); omega
  · rintro ⟨h1, h2, h3⟩
    unfold threeN at8
    rw [h1, h2, h3]
/-- the text of three bytes from a place on -/
def key3 (s : List UInt8) (i : Nat) : List UInt8 := (s.drop i).take 3
theorem key3_eq {s : List UInt8} {i : Nat} (h : i + 3 ≤ s.length) : key3 s i = [s.getD i 0, s.getD (i + 1) 0, s.getD (i + 2) 0] := by
  unfold key3
  rw [drop_cons (by omega), drop_cons (show i + 1 < s.length by omega), drop_cons (show i + 1 + 1 < s.length by omega)]
  simp only [List.take_succ_cons, List.take_zero]
  simp [List.getD_eq_getElem?_getD, show i < s.length by omega, show i + 1 < s.length by omega, show i + 2 < s.length by omega]
theorem key3_iff {s : List UInt8} {i j : Nat} (hi : i + 3 ≤ s.length) (hj : j + 3 ≤ s.length) : key3 s i = key3 s j ↔ threeN s i = threeN s j := by
  rw [key3_eq hi, key3_eq hj, threeN_inj]
  simp
theorem chain_lt (s : List UInt8) (k : Nat) : ∀ i, ∀ x ∈ chain s k i, x < i
  | 0, x, h => by simp [chain] at h
  | i + 1, x, h => by
    rw [chain] at h
    split at h
    · rcases List.mem_cons.1 h with rfl | h
      · omega
      · have := chain_lt s k i x h; omega
    · have := chain_lt s k i x h; omega
theorem chain_len (s : List UInt8) (k : Nat) : ∀ i, (chain s k i).length ≤ i
  | 0 => by simp [chain]
  | i + 1 => by
    have := chain_len s k i
    rw [chain]; split <;> simp <;> omega
end
section
open Go.RowKit
def chB (b : Bool) : UInt8 := if b then 49 else 48
def bitsT (l : List Bool) : List UInt8 := l.map chB
theorem bitsT_length (l : List Bool) : (bitsT l).length = l.length := List.length_map _
theorem bitsT_append (a b : List Bool) : bitsT (a ++ b) = bitsT a ++ bitsT b := List.map_append
theorem chB_inj {a b : Bool} (h : chB a = chB b) : a = b := by
  cases a <;> cases b <;> first | rfl | (revert h; decide)
theorem bitsT_inj : ∀ {a b : List Bool}, bitsT a = bitsT b → a = b
  | [], [], _ => rfl
  | [], _ :: _, h => by cases h
  | _ :: _, [], h => by cases h
  | x :: a, y :: b, h => by
    injection h with h1 h2
    rw [chB_inj h1, bitsT_inj h2]
/-- string([]byte{byte('0' + y % 2)}) -/
theorem conv_bit (W : World) (y : Nat) : (convert 39 9 (.slice (some ⟨W.heap.size, 0, none⟩) 1 1)).run Tryd.prog (W.alloc (.cells #[.int .u8 (48 + (y : Int) % 2)] 5)) =
    .ok (.string (bs [chB (y % 2 == 1)])) (W.alloc (.cells #[.int .u8 (48 + (y : Int) % 2)] 5)) := by
  have h := conv_new W [chB (y % 2 == 1)]
  have e : ([chB (y % 2 == 1)].map encB).toArray = #[.int .u8 (48 + (y : Int) % 2)] := by
    by_cases hy : y % 2 = 1
    · rw [show (y : Int) % 2 = 1 by omega, hy]; rfl
    · rw [show (y : Int) % 2 = 0 by omega, show y % 2 = 0 by omega]; rfl
  rw [e] at h
  exact h
theorem div_pow_succ (x i : Nat) : x / 2 ^ i / 2 = x / 2 ^ (i + 1) := by rw [Nat.div_div_eq_div_mul, Nat.pow_succ]

set_option maxRecDepth 100000 in
set_option maxHeartbeats 2000000 in
theorem rbits_any (x n : Nat) (w : World) (hx : x < 2 ^ 40) (hn : n ≤ 15) :
    Calls Tryd.prog 72 #[.int .i64 (x : Int), .int .i64 (n : Int)] w fun e w' => e = .returned (.string (bs (bitsT (high x n)))) ∧ Below w.heap.size w w' := by
  go_enter Tryd.func72, Tryd.ntmps72
  go_wp2_with fail
  go_loopw [0, 5, 6] (fun xv sv iv wr => ∃ i y : Nat, iv = .int .i64 (i : Int) ∧ i ≤ n ∧ xv = .int .i64 (y : Int) ∧ y = x / 2 ^ i ∧ sv = .string (bs (bitsT (high x i))) ∧ Below w.heap.size w wr) (fun _ _ iv _ => n - (intOf iv).toNat)
  case atStart => exact ⟨0, x, rfl, by omega, rfl, by simp, rfl, Below.refl _ _⟩
  case round =>
    obtain ⟨i, y, rfl, hi, rfl, hy, rfl, hb⟩ := hrel
    have hy40 : y < 1099511627776 := by rw [hy]; exact Nat.lt_of_le_of_lt (Nat.div_le_self _ _) hx
    have Hy := Lib.hid hy
    have Hb := Lib.hid hb
    obtain ⟨ss, hss⟩ : ∃ s, s = bs (bitsT (high x i)) := ⟨_, rfl⟩
    have hsz : ss.size ≤ 15 := by rw [hss]; show (bitsT (high x i)).length ≤ 15; rw [bitsT_length, high_length]; omega
    rw [← hss]
    have Hss := Lib.hid hss
    clear hy hb hss
    by_cases hlt : (i : Int) < (n : Int)
    · have hcv := conv_bit wr y
      obtain ⟨cs, hcs⟩ : ∃ c, c = bs [chB (y % 2 == 1)] := ⟨_, rfl⟩
      have hcz : cs.size ≤ 1 := by rw [hcs]; exact Nat.le_refl _
      rw [← hcs] at hcv
      have Hcs := Lib.hid hcs
      clear hcs
      go_wp2_with fail
      go_roundw
      case rel =>
        refine ⟨i + 1, y / 2, by go_num, by omega, by go_num, by rw [Hy.out, div_pow_succ], ?_, Hb.out.alloc (by have := Hb.out.size; exact this) _⟩
        rw [Hcs.out, Hss.out, append_bs, Hy.out]
        congr 2
        rw [high, high, low_snoc, List.reverse_append]
        rfl
      case measure => simp [intOf]; omega
    · obtain rfl : i = n := by omega
      go_wp2_with fail
      go_ret
      exact ⟨ret_str Hss.out, Hb.out⟩

set_option maxRecDepth 100000 in
set_option maxHeartbeats 2000000 in
theorem rlow_any (x n : Nat) (w : World) (hx : x < 2 ^ 40) (hn : n ≤ 15) :
    Calls Tryd.prog 73 #[.int .i64 (x : Int), .int .i64 (n : Int)] w fun e w' => e = .returned (.string (bs (bitsT (low x n)))) ∧ Below w.heap.size w w' := by
  go_enter Tryd.func73, Tryd.ntmps73
  go_wp2_with fail
  go_loopw [0, 5, 6] (fun xv sv iv wr => ∃ i y : Nat, iv = .int .i64 (i : Int) ∧ i ≤ n ∧ xv = .int .i64 (y : Int) ∧ y = x / 2 ^ i ∧ sv = .string (bs (bitsT (low x i))) ∧ Below w.heap.size w wr) (fun _ _ iv _ => n - (intOf iv).toNat)
  case atStart => exact ⟨0, x, rfl, by omega, rfl, by simp, rfl, Below.refl _ _⟩
  case round =>
    obtain ⟨i, y, rfl, hi, rfl, hy, rfl, hb⟩ := hrel
    have hy40 : y < 1099511627776 := by rw [hy]; exact Nat.lt_of_le_of_lt (Nat.div_le_self _ _) hx
    have Hy := Lib.hid hy
    have Hb := Lib.hid hb
    obtain ⟨ss, hss⟩ : ∃ s, s = bs (bitsT (low x i)) := ⟨_, rfl⟩
    have hsz : ss.size ≤ 15 := by rw [hss]; show (bitsT (low x i)).length ≤ 15; rw [bitsT_length, low_length]; omega
    rw [← hss]
    have Hss := Lib.hid hss
    clear hy hb hss
    by_cases hlt : (i : Int) < (n : Int)
    · have hcv := conv_bit wr y
      obtain ⟨cs, hcs⟩ : ∃ c, c = bs [chB (y % 2 == 1)] := ⟨_, rfl⟩
      have hcz : cs.size ≤ 1 := by rw [hcs]; exact Nat.le_refl _
      rw [← hcs] at hcv
      have Hcs := Lib.hid hcs
      clear hcs
      go_wp2_with fail
      go_roundw
      case rel =>
        refine ⟨i + 1, y / 2, by go_num, by omega, by go_num, by rw [Hy.out, div_pow_succ], ?_, Hb.out.alloc (by have := Hb.out.size; exact this) _⟩
        rw [Hcs.out, Hss.out, append_bs, Hy.out]
        congr 2
        rw [low_snoc, bitsT_append]
        rfl
      case measure => simp [intOf]; omega
    · obtain rfl : i = n := by omega
      go_wp2_with fail
      go_ret
      exact ⟨ret_str Hss.out, Hb.out⟩
theorem extra_tab : ∀ k, k < 29 → (lensT.getD k (0, 0)).2 = if k < 8 ∨ k = 28 then 0 else (k - 4) / 4 := by decide
theorem more_tab : ∀ k, k < 30 → (distT.getD k (0, 0)).2 = if k < 4 then 0 else k / 2 - 1 := by decide

set_option maxRecDepth 100000 in
set_option maxHeartbeats 1000000 in
theorem rextra_any (k : Nat) (v : Int) (w : World) (hk : k < 29) (hv : v = (k : Int) + 257) :
    Calls Tryd.prog 59 #[.int .i64 v] w fun e w' => e = .returned (.int .i64 (((lensT.getD k (0, 0)).2 : Nat) : Int)) ∧ w = w' := by
  have ht := extra_tab k hk
  obtain ⟨x, hx⟩ : ∃ x, x = (lensT.getD k (0, 0)).2 := ⟨_, rfl⟩
  rw [← hx] at ht ⊢
  have Ht := Lib.hid ht
  clear ht hx
  by_cases h8 : k < 8
  · have a1 : v < 265 := by omega
    have a2 : decide (v < 265) = true := decide_eq_true a1
    clear hv
    go_enter Tryd.func59, Tryd.ntmps59
    go_wp2_with fail
    go_ret
    exact ⟨ret_num (by rw [Ht.out, if_pos (.inl h8)]; rfl), rfl⟩
  · have a1 : ¬ v < 265 := by omega
    have a2 : decide (v < 265) = false := decide_eq_false a1
    by_cases h28 : k = 28
    · have a3 : (v == 285) = true := by rw [hv, h28]; rfl
      clear hv
      go_enter Tryd.func59, Tryd.ntmps59
      go_wp2_with fail
      go_ret
      exact ⟨ret_num (by rw [Ht.out, if_pos (.inr h28)]; rfl), rfl⟩
    · have a3 : (v == 285) = false := beq_eq_false_iff_ne.2 (by omega)
      have a4 : 265 ≤ v := by omega
      have a5 : v ≤ 285 := by omega
      have Hv := Lib.hid hv
      clear hv
      go_enter Tryd.func59, Tryd.ntmps59
      go_wp2_with fail
      go_ret
      refine ⟨ret_num ?_, rfl⟩
      rw [Ht.out, if_neg (by omega)]
      have := Hv.out
      omega

set_option maxRecDepth 100000 in
set_option maxHeartbeats 1000000 in
theorem rmore_any (k : Nat) (w : World) (hk : k < 30) :
    Calls Tryd.prog 61 #[.int .i64 (k : Int)] w fun e w' => e = .returned (.int .i64 (((distT.getD k (0, 0)).2 : Nat) : Int)) ∧ w = w' := by
  have ht := more_tab k hk
  obtain ⟨x, hx⟩ : ∃ x, x = (distT.getD k (0, 0)).2 := ⟨_, rfl⟩
  rw [← hx] at ht ⊢
  have Ht := Lib.hid ht
  clear ht hx
  by_cases h4 : k < 4
  · have a1 : (k : Int) < 4 := by omega
    go_enter Tryd.func61, Tryd.ntmps61
    go_wp2_with fail
    go_ret
    exact ⟨ret_num (by rw [Ht.out, if_pos h4]; rfl), rfl⟩
  · have a1 : ¬ (k : Int) < 4 := by omega
    go_enter Tryd.func61, Tryd.ntmps61
    go_wp2_with fail
    go_ret
    refine ⟨ret_num ?_, rfl⟩
    rw [Ht.out, if_neg h4]
    omega
theorem lens_steps : ∀ k, k < 27 → (lensT.getD (k + 1) (0, 0)).1 = (lensT.getD k (0, 0)).1 + 2 ^ (lensT.getD k (0, 0)).2 := by decide
theorem dist_steps : ∀ k, k < 29 → (distT.getD (k + 1) (0, 0)).1 = (distT.getD k (0, 0)).1 + 2 ^ (distT.getD k (0, 0)).2 := by decide
theorem lens_le : ∀ k, k < 29 → (lensT.getD k (0, 0)).1 ≤ 258 := by decide
theorem dist_le : ∀ k, k < 30 → (distT.getD k (0, 0)).1 ≤ 24577 := by decide

set_option maxRecDepth 100000 in
set_option maxHeartbeats 2000000 in
theorem rlength_any (k : Nat) (v : Int) (w : World) (hk : k < 29) (hv : v = (k : Int) + 257) :
    Calls Tryd.prog 58 #[.int .i64 v] w fun e w' => e = .returned (.int .i64 (((lensT.getD k (0, 0)).1 : Nat) : Int)) ∧ w = w' := by
  obtain ⟨q0, hq0⟩ : ∃ q, q = (lensT.getD k (0, 0)).1 := ⟨_, rfl⟩
  rw [← hq0]
  have Hq0 := Lib.hid hq0
  clear hq0
  by_cases h28 : k = 28
  · subst h28
    have a3 : (v == 285) = true := by rw [hv]; rfl
    clear hv
    go_enter Tryd.func58, Tryd.ntmps58
    go_wp2_with fail
    go_ret
    exact ⟨ret_num (by rw [Hq0.out]; rfl), rfl⟩
  · have a3 : (v == 285) = false := beq_eq_false_iff_ne.2 (by omega)
    have a4 : 257 ≤ v := by omega
    have a5 : v ≤ 284 := by omega
    have Hv := Lib.hid hv
    clear hv
    go_enter Tryd.func58, Tryd.ntmps58
    go_wp2_with fail
    go_loop [3, 4] (fun nv sv => ∃ i x : Nat, sv = .int .i64 ((i : Int) + 257) ∧ i ≤ k ∧ nv = .int .i64 (x : Int) ∧ x = (lensT.getD i (0, 0)).1) (fun _ sv => 600 - (intOf sv).toNat)
    case atStart => exact ⟨0, 3, rfl, by omega, rfl, rfl⟩
    case round =>
      obtain ⟨i, x, rfl, hi, rfl, hx⟩ := hrel
      have hx258 : x ≤ 258 := by rw [hx]; exact lens_le i (by omega)
      by_cases hik : i < k
      · have b1 : (i : Int) + 257 < v := by have := Hv.out; omega
        have he := fun W => rextra_any i ((i : Int) + 257) W (by omega) rfl
        obtain ⟨p, hp⟩ : ∃ p, p = (lensT.getD i (0, 0)).2 := ⟨_, rfl⟩
        have hp5 : p ≤ 5 := by rw [hp]; exact lens_extra i
        have hp32 : (2 : Nat) ^ p ≤ 2 ^ 5 := Nat.pow_le_pow_right (by decide) hp5
        have hst := lens_steps i (by omega)
        rw [← hp] at he
        rw [← hp, ← hx] at hst
        have He := Lib.hid he
        have Hst := Lib.hid hst
        clear he hst hp hx
        obtain ⟨q, hq⟩ : ∃ q, q = 2 ^ p := ⟨_, rfl⟩
        rw [← hq] at hp32 Hst
        have hqz : (2 : Int) ^ p = (q : Int) := by rw [hq]; simp
        clear hq
        go_wp2_with (go_at_call 59; refine (He.out _).mono ?_; rintro e w' ⟨rfl, rfl⟩; clear He)
        go_round
        case rel => exact ⟨i + 1, x + q, by go_num, by omega, by go_num, Hst.out.symm⟩
        case measure => simp [intOf]; omega
      · obtain rfl : i = k := by omega
        have b1 : ¬ (i : Int) + 257 < v := by have := Hv.out; omega
        have Hx := Lib.hid hx
        clear hx
        go_wp2_with fail
        go_ret
        exact ⟨ret_num (by rw [Hx.out, ← Hq0.out]), rfl⟩

set_option maxRecDepth 100000 in
set_option maxHeartbeats 2000000 in
theorem rdistance_any (k : Nat) (w : World) (hk : k < 30) :
    Calls Tryd.prog 60 #[.int .i64 (k : Int)] w fun e w' => e = .returned (.int .i64 (((distT.getD k (0, 0)).1 : Nat) : Int)) ∧ w = w' := by
  obtain ⟨q0, hq0⟩ : ∃ q, q = (distT.getD k (0, 0)).1 := ⟨_, rfl⟩
  rw [← hq0]
  have Hq0 := Lib.hid hq0
  clear hq0
  go_enter Tryd.func60, Tryd.ntmps60
  go_wp2_with fail
  go_loop [3, 4] (fun nv sv => ∃ i x : Nat, sv = .int .i64 (i : Int) ∧ i ≤ k ∧ nv = .int .i64 (x : Int) ∧ x = (distT.getD i (0, 0)).1) (fun _ sv => 600 - (intOf sv).toNat)
  case atStart => exact ⟨0, 1, rfl, by omega, rfl, rfl⟩
  case round =>
    obtain ⟨i, x, rfl, hi, rfl, hx⟩ := hrel
    have hx258 : x ≤ 24577 := by rw [hx]; exact dist_le i (by omega)
    by_cases hik : (i : Int) < (k : Int)
    · have he := fun W => rmore_any i W (by omega)
      obtain ⟨p, hp⟩ : ∃ p, p = (distT.getD i (0, 0)).2 := ⟨_, rfl⟩
      have hp5 : p ≤ 13 := by rw [hp]; exact dist_extra i
      have hp32 : (2 : Nat) ^ p ≤ 2 ^ 13 := Nat.pow_le_pow_right (by decide) hp5
      have hst := dist_steps i (by omega)
      rw [← hp] at he
      rw [← hp, ← hx] at hst
      have He := Lib.hid he
      have Hst := Lib.hid hst
      clear he hst hp hx
      obtain ⟨q, hq⟩ : ∃ q, q = 2 ^ p := ⟨_, rfl⟩
      rw [← hq] at hp32 Hst
      have hqz : (2 : Int) ^ p = (q : Int) := by rw [hq]; simp
      clear hq
      go_wp2_with (go_at_call 61; refine (He.out _).mono ?_; rintro e w' ⟨rfl, rfl⟩; clear He)
      go_round
      case rel => exact ⟨i + 1, x + q, by go_num, by omega, by go_num, Hst.out.symm⟩
      case measure => simp [intOf]; omega
    · obtain rfl : i = k := by omega
      have Hx := Lib.hid hx
      clear hx
      go_wp2_with fail
      go_ret
      exact ⟨ret_num (by rw [Hx.out, ← Hq0.out]), rfl⟩
end
section
open Go.RowKit

set_option maxRecDepth 100000 in
set_option maxHeartbeats 2000000 in
theorem rsame_any (s : ByteArray) (j i : Nat) (w : World) (hj : j < i) (hi : i ≤ s.size) (hs : s.size < 2 ^ 60) :
    Calls Tryd.prog 43 #[.string s, .int .i64 (j : Int), .int .i64 (i : Int)] w fun e w' => e = .returned (.int .i64 ((alikeN s.data.toList j i : Nat) : Int)) ∧ Same w w' := by
  go_enter Tryd.func43, Tryd.ntmps43
  go_wp2_with fail
  go_loopw [7] (fun nv wr => ∃ n : Nat, Same w wr ∧ nv = .int .i64 (n : Int) ∧ n ≤ 258 ∧ i + n ≤ s.size ∧ n + common (s.data.toList.drop (j + n)) (s.data.toList.drop (i + n)) (258 - n) = alikeN s.data.toList j i) (fun nv _ => 258 - (intOf nv).toNat)
  case atStart => exact ⟨0, Same.refl _, rfl, by omega, by omega, by simp [alikeN]⟩
  case round =>
    obtain ⟨n, hsm, rfl, hn, hin, he⟩ := hrel
    have Hsm := Lib.hid hsm
    clear hsm
    have hlen : s.data.toList.length = s.size := rfl
    have He := Lib.hid he
    clear he
    by_cases h2 : (i : Int) + n < (s.size : Int)
    · by_cases h1 : (n : Int) < 258
      · have h3 : (j : Int) + n < (s.size : Int) := by omega
        have h4 : 0 ≤ (i : Int) + n := by omega
        have h5 : 0 ≤ (j : Int) + n := by omega
        have k1 : i + n < s.data.toList.length := by omega
        have k2 : j + n < s.data.toList.length := by omega
        have k3 : i + n < s.size := by omega
        have k4 : j + n < s.size := by omega
        obtain ⟨f, hf⟩ : ∃ f, 258 - n = f + 1 := ⟨257 - n, by omega⟩
        have he := He.out
        rw [hf, drop_cons k1, drop_cons k2, common] at he
        by_cases hq : s.data.toList[j + n] = s.data.toList[i + n]
        · rw [if_pos hq] at he
          have hb : ((s[j + n].toNat : Int) == (s[i + n].toNat : Int)) = true := by
            have : s[j + n] = s[i + n] := hq
            rw [this]; simp
          have Hq := Lib.hid hq
          have He2 := Lib.hid he
          have Hf := Lib.hid hf
          clear hq he hf k1 k2
          go_wp2_with fail
          go_quiet (fail)
          go_wp2_with fail
          go_roundw
          case rel => exact ⟨n + 1, Hsm.out.drewN _, by go_num, by omega, by omega, by rw [← He2.out, show 258 - (n + 1) = f by have := Hf.out; omega]; simp only [Nat.add_assoc]⟩
          case measure => simp [intOf]; omega
        · rw [if_neg hq] at he
          have hb : ((s[j + n].toNat : Int) == (s[i + n].toNat : Int)) = false := by
            have : ¬ s[j + n] = s[i + n] := hq
            rw [beq_eq_false_iff_ne]
            intro h
            exact this (UInt8.toNat_inj.1 (by omega))
          have Hq := Lib.hid hq
          have He2 := Lib.hid he
          have Hf := Lib.hid hf
          clear hq he hf k1 k2
          go_wp2_with fail
          go_quiet (fail)
          go_wp2_with fail
          go_ret
          exact ⟨ret_num (by have := He2.out; omega), Hsm.out.drewN _⟩
      · have he := He.out
        rw [show 258 - n = 0 by omega, common_zero] at he
        have He2 := Lib.hid he
        clear he hlen
        have hn9 : n = 258 := by omega
        have hd1 : decide ((n : Int) < 258) = false := decide_eq_false h1
        have hd2 : decide ((i : Int) + n < (s.size : Int)) = true := decide_eq_true h2
        have Hn9 := Lib.hid hn9
        clear hn9
        go_wp2_with fail
        go_quiet (fail)
        go_wp2_with fail
        go_ret
        exact ⟨ret_num (by have := He2.out; have := Hn9.out; omega), Hsm.out.drewN _⟩
    · have he := He.out
      have h6 : i + n = s.size := by omega
      rw [h6, ← hlen, List.drop_length, common_end] at he
      have He2 := Lib.hid he
      clear he hlen
      have h7 : s.size ≤ i + n := by omega
      have h8 : ((i : Int) + n < (s.size : Int)) = False := by simp; omega
      clear h6
      go_wp2_with fail
      go_quiet (fail)
      go_wp2_with fail
      go_ret
      exact ⟨ret_num (by have := He2.out; omega), Hsm.out.drewN _⟩
theorem stored_step (t : ByteArray) (g n e a b c d : Nat) (hn : n = min t.size 65535) (he : e = (if t.size ≤ 65535 then 1 else 0)) (ha : a = n % 256) (hb : b = n / 256) (hc : c = 255 - a) (hd : d = 255 - b) :
    storedP (g + 1) t.data.toList = [UInt8.ofNat e, UInt8.ofNat a, UInt8.ofNat b, UInt8.ofNat c, UInt8.ofNat d] ++ t.data.toList.take n ++ (if t.size ≤ 65535 then [] else storedP g (t.data.toList.drop n)) := by
  have hlen : t.data.toList.length = t.size := rfl
  rw [storedP, hlen, ← hn]
  by_cases h : t.size ≤ 65535
  · rw [if_pos h, if_pos h, if_pos h, List.take_of_length_le (by omega), List.take_of_length_le (by omega), he, if_pos h, hd, hc, ha, hb]
    rfl
  · rw [if_neg h, if_neg h, if_neg h, show n = 65535 by omega, he, if_neg h, hd, hc, ha, hb, show n = 65535 by omega]
    rfl

set_option maxRecDepth 100000 in
set_option maxHeartbeats 2000000 in
theorem rstored_any (s : ByteArray) (w : World) (hs : s.size < 2 ^ 30) :
    Calls Tryd.prog 20 #[.string s] w fun e w' => e = .returned (.string (bs (storedP (blocksN s.size) s.data.toList))) ∧ Below w.heap.size w w' := by
  go_enter Tryd.func20, Tryd.ntmps20
  go_wp2_with fail
  go_loopw [0, 3] (fun tv ov wr => ∃ (t o : ByteArray) (f : Nat), tv = .string t ∧ ov = .string o ∧ t.size ≤ s.size ∧ o.size + t.size + 5 * f ≤ 2 * s.size + 10 ∧ 0 < f ∧ t.size ≤ 65535 * f ∧ bs (o.data.toList ++ storedP f t.data.toList) = bs (storedP (blocksN s.size) s.data.toList) ∧ Below w.heap.size w wr) (fun tv _ _ => match tv with | .string t => t.size | _ => 0)
  case atStart => exact ⟨s, ⟨#[]⟩, blocksN s.size, rfl, rfl, Nat.le_refl _, by (unfold blocksN; show 0 + s.size + _ ≤ _; omega), by unfold blocksN; omega, by unfold blocksN; omega, rfl, Below.refl _ _⟩
  case round =>
    obtain ⟨t, o, f, rfl, rfl, hts, hos, hf, htf, he, hb⟩ := hrel
    have He := Lib.hid he
    have Hb := Lib.hid hb
    clear he hb
    go_upto_if 9 with fail
    go_cut [4, 5] (fun nv ev wx => ∃ n e : Nat, nv = .int .i64 (n : Int) ∧ ev = .int .u8 (e : Int) ∧ n = min t.size 65535 ∧ e = (if t.size ≤ 65535 then 1 else 0) ∧ wx = wr)
    case first =>
      by_cases hbig : (65535 : Int) < (t.size : Int)
      · go_wp2_with fail
        go_meet
        exact ⟨65535, 0, rfl, rfl, by omega, by rw [if_neg (by omega)], rfl⟩
      · go_wp2_with fail
        go_meet
        exact ⟨t.size, 1, rfl, rfl, by omega, by rw [if_pos (by omega)], rfl⟩
    case rest =>
      obtain ⟨n, e, rfl, rfl, hn, hee, rfl⟩ := hcut
      have hn1 : n ≤ 65535 := by omega
      have hn2 : n ≤ t.size := by omega
      have he1 : e ≤ 1 := by rw [hee]; split <;> omega
      have Hn := Lib.hid hn
      have Hee := Lib.hid hee
      clear hn hee
      obtain ⟨a, ha⟩ : ∃ a, a = n % 256 := ⟨_, rfl⟩
      obtain ⟨b, hbb⟩ : ∃ b, b = n / 256 := ⟨_, rfl⟩
      obtain ⟨c, hc⟩ : ∃ c, c = 255 - a := ⟨_, rfl⟩
      obtain ⟨d, hd⟩ : ∃ d, d = 255 - b := ⟨_, rfl⟩
      have ra : ((n : Int)).tmod 256 = (a : Int) := by rw [ha, Int.tmod_eq_emod_of_nonneg (by omega)]; omega
      have rb : (n : Int) / 256 = (b : Int) := by omega
      have rc : (255 : Int) - (a : Int) = (c : Int) := by omega
      have rd : (255 : Int) - (b : Int) = (d : Int) := by omega
      have wa : IntKind.u8.wrap (a : Int) = (a : Int) := IntWalk.u8_in _ (by omega)
      have wb : IntKind.u8.wrap (b : Int) = (b : Int) := IntWalk.u8_in _ (by omega)
      have wc' : IntKind.u8.wrap (c : Int) = (c : Int) := IntWalk.u8_in _ (by omega)
      have wd : IntKind.u8.wrap (d : Int) = (d : Int) := IntWalk.u8_in _ (by omega)
      have xb : IntKind.i64.wrap (b : Int) = (b : Int) := IntWalk.i64_in _ (by omega)
      have xc : IntKind.i64.wrap (c : Int) = (c : Int) := IntWalk.i64_in _ (by omega)
      have xd : IntKind.i64.wrap (d : Int) = (d : Int) := IntWalk.i64_in _ (by omega)
      obtain ⟨hd5, hhd⟩ : ∃ h, h = bs [UInt8.ofNat e, UInt8.ofNat a, UInt8.ofNat b, UInt8.ofNat c, UInt8.ofNat d] := ⟨_, rfl⟩
      have hcv : (convert 39 9 (.slice (some ⟨wc.heap.size, 0, none⟩) 5 5)).run Tryd.prog (wc.alloc (.cells #[.int .u8 (e : Int), .int .u8 (a : Int), .int .u8 (b : Int), .int .u8 (c : Int), .int .u8 (d : Int)] 5)).drew = .ok (.string hd5) (wc.alloc (.cells #[.int .u8 (e : Int), .int .u8 (a : Int), .int .u8 (b : Int), .int .u8 (c : Int), .int .u8 (d : Int)] 5)).drew := by
        have h := conv_new wc.drew [UInt8.ofNat e, UInt8.ofNat a, UInt8.ofNat b, UInt8.ofNat c, UInt8.ofNat d]
        have e5 : ([UInt8.ofNat e, UInt8.ofNat a, UInt8.ofNat b, UInt8.ofNat c, UInt8.ofNat d].map encB).toArray = #[.int .u8 (e : Int), .int .u8 (a : Int), .int .u8 (b : Int), .int .u8 (c : Int), .int .u8 (d : Int)] := by
          simp [encB]
          omega
        rw [e5, ← hhd] at h
        exact h
      have hs5 : hd5.size ≤ 5 := by rw [hhd]; exact Nat.le_refl _
      have Ha := Lib.hid ha
      have Hbb := Lib.hid hbb
      have Hc := Lib.hid hc
      have Hd := Lib.hid hd
      have Hhd := Lib.hid hhd
      clear ha hbb hc hd hhd
      obtain ⟨g, rfl⟩ : ∃ g, f = g + 1 := ⟨f - 1, by omega⟩
      by_cases hsm : t.size ≤ 65535
      · have eb : ((e : Int) == 1) = true := by rw [Hee.out, if_pos hsm]; rfl
        have Hsm := Lib.hid hsm
        clear hsm
        go_wp2_with fail
        go_region_with (fail)
        all_goals
          go_wp2_with fail
          go_ret
          refine ⟨ret_str ?_, below_drew (Hb.out.alloc Hb.out.size _)⟩
          rw [← He.out, stored_step t g n e a b c d Hn.out Hee.out Ha.out Hbb.out Hc.out Hd.out, if_pos Hsm.out, Hhd.out, append_bs, append_bs, extract_bs]
          simp only [bs, List.append_nil, List.drop_zero, Nat.sub_zero, List.append_assoc]
      · have eb : ((e : Int) == 1) = false := by rw [Hee.out, if_neg hsm]; rfl
        have Hsm := Lib.hid hsm
        clear hsm
        go_wp2_with fail
        go_region_with (fail)
        all_goals
          go_wp2_with fail
          go_roundw
          case rel =>
            have hsm := Hsm.out
            have hn := Hn.out
            have hz1 : (t.extract n t.size).size = t.size - n := by simp
            have hz2 : (o ++ hd5 ++ t.extract 0 n).size = o.size + hd5.size + n := by simp; omega
            refine ⟨t.extract n t.size, o ++ hd5 ++ t.extract 0 n, g, rfl, rfl, by omega, by omega, by omega, by omega, ?_, below_drew (Hb.out.alloc Hb.out.size _)⟩
            rw [← He.out, stored_step t g n e a b c d Hn.out Hee.out Ha.out Hbb.out Hc.out Hd.out, if_neg hsm, Hhd.out, append_bs, append_bs, extract_bs, extract_bs]
            have hlen : t.data.toList.length = t.size := rfl
            rw [show (bs ((t.data.toList.drop n).take (t.size - n))).data.toList = t.data.toList.drop n from by show (t.data.toList.drop n).take (t.size - n) = _; rw [List.take_of_length_le (by rw [List.length_drop]; omega)]]
            simp only [bs, List.drop_zero, Nat.sub_zero, List.append_assoc]
          case measure =>
            have hsm := Hsm.out
            have hn := Hn.out
            have hz1 : (t.extract n t.size).size = t.size - n := by simp
            show (t.extract n t.size).size < t.size
            omega
end
section
open Go.RowKit
theorem fixL_len' : fixL.length = 288 := by simp [fixL]
theorem fixD_len' : fixD.length = 32 := by simp [fixD]
theorem Tryd.info_str : (Tryd.prog.info? 9).map (fun i => (i.zero, i.size, i.bytes)) = some (some (.string ⟨#[]⟩), 1, 16) := by kernel_rfl

set_option maxRecDepth 100000 in
set_option maxHeartbeats 4000000 in
theorem rfixl_any (w : World) :
    Calls Tryd.prog 29 #[] w fun e w' => ∃ v, e = .returned v ∧ w'.ownsRow w.heap.size 3 1 v 288 (fixL.map encI) ∧ Below w.heap.size w w' := by
  obtain ⟨i0, hi, hz0, hz1, hz2⟩ := info_parts Tryd.info_int
  have Hi := Lib.hid hi
  have Hz0 := Lib.hid hz0
  have Hz1 := Lib.hid hz1
  have Hz2 := Lib.hid hz2
  clear hi hz0 hz1 hz2
  go_enter Tryd.func29, Tryd.ntmps29
  go_wp2_with fail
  go_loopw [1, 2] (fun lv iv wr => ∃ i : Nat, iv = .int .i64 (i : Int) ∧ i ≤ 288 ∧ wr.ownsRow w.heap.size 3 1 lv i ((fixL.take i).map encI) ∧ Below w.heap.size w wr) (fun _ iv _ => 288 - (intOf iv).toNat)
  case atStart => exact ⟨0, rfl, by omega, World.ownsRow_nil _ _ _ _, Below.refl _ _⟩
  case round =>
    obtain ⟨i, rfl, hi2, hown, hb⟩ := hrel
    have Hown := Lib.hid hown
    have Hb := Lib.hid hb
    have hbz := hb.size
    clear hown hb
    by_cases hlt : (i : Int) < 288
    · obtain ⟨x, hx⟩ : ∃ x, x = litLen i := ⟨_, rfl⟩
      have htk := take_snoc (l := fixL) (i := i) (by rw [fixL_len']; omega)
      rw [fixL_get i (by omega), ← hx] at htk
      have Htk := Lib.hid htk
      clear htk
      rcases (by omega : i < 144 ∨ (144 ≤ i ∧ i < 256) ∨ (256 ≤ i ∧ i < 280) ∨ 280 ≤ i) with h | ⟨h, h2⟩ | ⟨h, h2⟩ | h
      all_goals
        first
          | (have d1 : decide ((144 : Int) ≤ (i : Int)) = false := decide_eq_false (by omega); have d2 : decide ((256 : Int) ≤ (i : Int)) = false := decide_eq_false (by omega); have hx1 : x = 8 := (by rw [hx]; unfold litLen; rw [if_pos (by omega)]))
          | (have d1 : decide ((144 : Int) ≤ (i : Int)) = true := decide_eq_true (by omega); have d2 : decide ((i : Int) < 256) = true := decide_eq_true (by omega); have d3 : decide ((256 : Int) ≤ (i : Int)) = false := decide_eq_false (by omega); have hx1 : x = 9 := (by rw [hx]; unfold litLen; rw [if_neg (by omega), if_pos (by omega)]))
          | (have d1 : decide ((144 : Int) ≤ (i : Int)) = true := decide_eq_true (by omega); have d2 : decide ((i : Int) < 256) = false := decide_eq_false (by omega); have d3 : decide ((256 : Int) ≤ (i : Int)) = true := decide_eq_true (by omega); have d4 : decide ((i : Int) < 280) = true := decide_eq_true (by omega); have hx1 : x = 7 := (by rw [hx]; unfold litLen; rw [if_neg (by omega), if_neg (by omega), if_pos (by omega)]))
          | (have d1 : decide ((144 : Int) ≤ (i : Int)) = true := decide_eq_true (by omega); have d2 : decide ((i : Int) < 256) = false := decide_eq_false (by omega); have d3 : decide ((256 : Int) ≤ (i : Int)) = true := decide_eq_true (by omega); have d4 : decide ((i : Int) < 280) = false := decide_eq_false (by omega); have hx1 : x = 8 := (by rw [hx]; unfold litLen; rw [if_neg (by omega), if_neg (by omega), if_neg (by omega)]))
        subst hx1
        clear hx
        go_wp2_with (at_builtin; refine wpList_append_own_at _ rfl _ _ 52 rfl w.heap.size 3 i0 (.int .i64 0) 1 8 Tryd.underlying52 Hi.out Hz0.out Hz1.out Hz2.out rfl (by decide) _ _ _ rfl (Hown.out.alloc _) ⟨wr.heap.size, 0, none⟩ 1 1 [_] rfl rfl (cell_one_new _ _ _) (by simp [Value.oneCell']) (by unfold maxLen; omega) (by omega) (by simp only [World.size_alloc]; omega) ?_; intro v' w1 hown' hgrow _ _
                     have hb1 := belowC Hown.out Hb.out hbz hgrow
                     have Hown1 := Lib.hid hown'
                     have Hb1 := Lib.hid hb1
                     clear hown' hb1 hgrow)
        go_roundw
        case rel => exact ⟨i + 1, by go_num, by omega, by rw [Htk.out, List.map_append]; exact Hown1.out, Hb1.out⟩
        case measure => simp [intOf]; omega
    · obtain rfl : i = 288 := by omega
      have hall : fixL.take 288 = fixL := List.take_of_length_le (by rw [fixL_len']; exact Nat.le_refl _)
      rw [hall] at Hown
      go_wp2_with fail
      go_ret
      exact ⟨_, rfl, Hown.out, Hb.out⟩

set_option maxRecDepth 100000 in
set_option maxHeartbeats 4000000 in
theorem rfixd_any (w : World) :
    Calls Tryd.prog 30 #[] w fun e w' => ∃ v, e = .returned v ∧ w'.ownsRow w.heap.size 3 1 v 32 (fixD.map encI) ∧ Below w.heap.size w w' := by
  obtain ⟨i0, hi, hz0, hz1, hz2⟩ := info_parts Tryd.info_int
  have Hi := Lib.hid hi
  have Hz0 := Lib.hid hz0
  have Hz1 := Lib.hid hz1
  have Hz2 := Lib.hid hz2
  clear hi hz0 hz1 hz2
  go_enter Tryd.func30, Tryd.ntmps30
  go_wp2_with fail
  go_loopw [1, 2] (fun lv iv wr => ∃ i : Nat, iv = .int .i64 (i : Int) ∧ i ≤ 32 ∧ wr.ownsRow w.heap.size 3 1 lv i ((fixD.take i).map encI) ∧ Below w.heap.size w wr) (fun _ iv _ => 32 - (intOf iv).toNat)
  case atStart => exact ⟨0, rfl, by omega, World.ownsRow_nil _ _ _ _, Below.refl _ _⟩
  case round =>
    obtain ⟨i, rfl, hi2, hown, hb⟩ := hrel
    have Hown := Lib.hid hown
    have Hb := Lib.hid hb
    have hbz := hb.size
    clear hown hb
    by_cases hlt : (i : Int) < 32
    · have htk := take_snoc (l := fixD) (i := i) (by rw [fixD_len']; omega)
      rw [fixD_get i (by omega)] at htk
      have Htk := Lib.hid htk
      clear htk
      go_wp2_with (at_builtin; refine wpList_append_own_at _ rfl _ _ 52 rfl w.heap.size 3 i0 (.int .i64 0) 1 8 Tryd.underlying52 Hi.out Hz0.out Hz1.out Hz2.out rfl (by decide) _ _ _ rfl (Hown.out.alloc _) ⟨wr.heap.size, 0, none⟩ 1 1 [_] rfl rfl (cell_one_new _ _ _) (by simp [Value.oneCell']) (by unfold maxLen; omega) (by omega) (by simp only [World.size_alloc]; omega) ?_; intro v' w1 hown' hgrow _ _
                   have hb1 := belowC Hown.out Hb.out hbz hgrow
                   have Hown1 := Lib.hid hown'
                   have Hb1 := Lib.hid hb1
                   clear hown' hb1 hgrow)
      go_roundw
      case rel => exact ⟨i + 1, by go_num, by omega, by rw [Htk.out, List.map_append]; exact Hown1.out, Hb1.out⟩
      case measure => simp [intOf]; omega
    · obtain rfl : i = 32 := by omega
      have hall : fixD.take 32 = fixD := List.take_of_length_le (by rw [fixD_len']; exact Nat.le_refl _)
      rw [hall] at Hown
      go_wp2_with fail
      go_ret
      exact ⟨_, rfl, Hown.out, Hb.out⟩
theorem madeCells_get (z : Value) {n j : Nat} (h : j < n) : (madeCells #[z] n)[j]? = some z := by
  rw [Array.getElem?_eq_getElem (by rw [size_madeCells]; exact h)]
  simp [madeCells, Nat.mod_one]
/-- a row of texts -/
def TextsAt (w : World) (g n : Nat) (f : Nat → List Bool) : Prop := ∃ cur, w.heap[g]? = some (.cells cur 9 (0, 0)) ∧ cur.size = n ∧ ∀ j, j < n → cur[j]? = some (.string (bs (bitsT (f j))))
theorem TextsAt.cell {w : World} {g n : Nat} {f : Nat → List Bool} (h : TextsAt w g n f) (j : Nat) (hj : j < n) : w.cell? ⟨g, j, none⟩ = some (.string (bs (bitsT (f j)))) ∧ w.frozen? ⟨g, j, none⟩ = false := by
  obtain ⟨cur, ho, hz, hc⟩ := h
  exact ⟨by rw [cell_of_row _ _ _ _ _ _ ho]; exact hc j hj, frozen_of_row _ _ _ _ _ ho⟩
theorem TextsAt.lt {w : World} {g n : Nat} {f : Nat → List Bool} (h : TextsAt w g n f) : g < w.heap.size := let ⟨_, ho, _⟩ := h; heap_lt ho
theorem TextsAt.below {w w' : World} {g n B : Nat} {f : Nat → List Bool} (h : TextsAt w g n f) (hb : Below B w w') (hg : g < B) : TextsAt w' g n f := by
  obtain ⟨cur, ho, hz, hc⟩ := h
  exact ⟨cur, (hb.block g hg).trans ho, hz, hc⟩
theorem TextsAt.congr {w : World} {g n : Nat} {f f' : Nat → List Bool} (h : TextsAt w g n f) (he : ∀ j, j < n → f j = f' j) : TextsAt w g n f' := by
  obtain ⟨cur, ho, hz, hc⟩ := h
  exact ⟨cur, ho, hz, fun j hj => by rw [← he j hj]; exact hc j hj⟩
theorem TextsAt.put {w : World} {g n : Nat} {f f' : Nat → List Bool} (h : TextsAt w g n f) (i : Nat) (hi : i < n) (t : ByteArray) (ht : t = bs (bitsT (f' i))) (he : ∀ j, j ≠ i → f j = f' j) : TextsAt (w.setCell ⟨g, i, none⟩ (.string t)) g n f' := by
  obtain ⟨cur, ho, hz, hc⟩ := h
  refine ⟨_, heap_setCell_same w g i cur _ _ ho, by rw [Array.size_setIfInBounds]; exact hz, fun j hj => ?_⟩
  by_cases hji : i = j
  · subst hji
    rw [Array.getElem?_setIfInBounds_self_of_lt (by omega), ht]
  · rw [Array.getElem?_setIfInBounds_ne hji, hc j hj, he j (fun e => hji e.symm)]
/-- the texts that are laid when the symbols of at most k bits are, and those of k + 1 bits among the first i -/
def codesAt (l : List Nat) (k i j : Nat) : List Bool := if l.getD j 0 = 0 then [] else if l.getD j 0 ≤ k ∨ (l.getD j 0 = k + 1 ∧ j < i) then codeB l j else []
def codesF (l : List Nat) (j : Nat) : List Bool := if l.getD j 0 = 0 then [] else codeB l j
theorem codesAt_zero (l : List Nat) (j : Nat) : codesAt l 0 0 j = [] := by
  unfold codesAt
  by_cases h : l.getD j 0 = 0
  · rw [if_pos h]
  · rw [if_neg h, if_neg (by omega)]
theorem codesAt_next (l : List Nat) (k j : Nat) (hj : j < l.length) : codesAt l k l.length j = codesAt l (k + 1) 0 j := by
  unfold codesAt
  by_cases h : l.getD j 0 = 0
  · rw [if_pos h, if_pos h]
  · rw [if_neg h, if_neg h]
    by_cases h2 : l.getD j 0 ≤ k + 1
    · rw [if_pos (by omega), if_pos (by omega)]
    · rw [if_neg (by omega), if_neg (by omega)]
theorem codesAt_none (l : List Nat) (k i j : Nat) (h : l.getD i 0 ≠ k + 1) : codesAt l k i j = codesAt l k (i + 1) j := by
  unfold codesAt
  by_cases h0 : l.getD j 0 = 0
  · rw [if_pos h0, if_pos h0]
  · rw [if_neg h0, if_neg h0]
    by_cases hji : j = i
    · subst hji
      by_cases h2 : l.getD j 0 ≤ k
      · rw [if_pos (.inl h2), if_pos (.inl h2)]
      · rw [if_neg (by omega), if_neg (by omega)]
    · by_cases h2 : l.getD j 0 ≤ k ∨ (l.getD j 0 = k + 1 ∧ j < i)
      · rw [if_pos h2, if_pos (by omega)]
      · rw [if_neg h2, if_neg (by omega)]
theorem codesAt_other (l : List Nat) (k i j : Nat) (h : j ≠ i) : codesAt l k i j = codesAt l k (i + 1) j := by
  unfold codesAt
  by_cases h0 : l.getD j 0 = 0
  · rw [if_pos h0, if_pos h0]
  · rw [if_neg h0, if_neg h0]
    by_cases h2 : l.getD j 0 ≤ k ∨ (l.getD j 0 = k + 1 ∧ j < i)
    · rw [if_pos h2, if_pos (by omega)]
    · rw [if_neg h2, if_neg (by omega)]
theorem codesAt_here (l : List Nat) (k i : Nat) (h : l.getD i 0 = k + 1) : codesAt l k (i + 1) i = high (2 * nxt l k + (idxTo l (k + 1) i).length) (k + 1) := by
  unfold codesAt codeB codeN
  rw [if_neg (by omega), if_pos (by omega), h, Nat.add_sub_cancel]
theorem codesAt_all (l : List Nat) (h15 : ∀ x ∈ l, x ≤ 15) (j : Nat) (hj : j < l.length) : codesAt l 15 0 j = codesF l j := by
  unfold codesAt codesF
  by_cases h0 : l.getD j 0 = 0
  · rw [if_pos h0, if_pos h0]
  · rw [if_neg h0, if_neg h0, if_pos]
    left
    rw [List.getD_eq_getElem?_getD, List.getElem?_eq_getElem hj]
    exact h15 _ (List.getElem_mem hj)
theorem nxt_bound (l : List Nat) : ∀ k, nxt l k + l.length ≤ l.length * 2 ^ k
  | 0 => by simp [nxt]
  | k + 1 => by
    have h1 := nxt_bound l k
    have h2 := cntN_le l (k + 1)
    rw [nxt, Nat.pow_succ, ← Nat.mul_assoc]
    omega
theorem nxt_small (l : List Nat) (hll : l.length ≤ 400) (k : Nat) (hk : k ≤ 15) : nxt l k ≤ 13107200 := by
  have h1 := nxt_bound l k
  have h2 : 2 ^ k ≤ 2 ^ 15 := Nat.pow_le_pow_right (by decide) hk
  have h3 : l.length * 2 ^ k ≤ 400 * 2 ^ 15 := Nat.mul_le_mul hll h2
  omega
theorem idxTo_small (l : List Nat) (n i : Nat) : (idxTo l n i).length ≤ i := by
  have := List.length_filter_le (fun j => l.getD j 0 == n) (List.range i)
  rwa [List.length_range] at this

set_option maxRecDepth 100000 in
set_option maxHeartbeats 8000000 in
theorem rcodes_any (g off cap : Nat) (l : List Nat) (w : World) (hI : IntsAt w g off l) (hg : g < w.heap.size) (hll : l.length ≤ 400) (h15 : ∀ x ∈ l, x ≤ 15) :
    Calls Tryd.prog 42 #[.slice (some ⟨g, off, none⟩) l.length cap] w fun e w' => e = .returned (.slice (some ⟨w.heap.size, 0, none⟩) l.length l.length) ∧ TextsAt w' w.heap.size l.length (codesF l) ∧ Below w.heap.size w w' := by
  obtain ⟨m, hm⟩ : ∃ m, m = l.length := ⟨_, rfl⟩
  rw [← hm]
  have hm400 : m ≤ 400 := by omega
  have hmk := run_make_row' (P := Tryd.prog) 80 9 (.string ⟨#[]⟩) 16 Tryd.underlying80 Tryd.info_str rfl .i64 .i64 m (by omega) (by omega)
  have hns := nxt_small l hll
  have Hm := Lib.hid hm
  have HI := Lib.hid hI
  have H15 := Lib.hid h15
  have Hns := Lib.hid hns
  clear hI h15 hll hm hns
  go_enter Tryd.func42, Tryd.ntmps42
  go_wp2_with fail
  have hT0 : TextsAt (w.alloc (Obj.cells (madeCells #[Value.string ⟨#[]⟩] m) 9)) w.heap.size m (codesAt l 0 0) := by
    refine ⟨_, World.alloc_heap_new w _, size_madeCells _ _, fun j hj => ?_⟩
    rw [codesAt_zero]
    exact madeCells_get _ hj
  have hb0 : Below w.heap.size w (w.alloc (Obj.cells (madeCells #[Value.string ⟨#[]⟩] m) 9)) := (Below.refl _ _).alloc (Nat.le_refl _) _
  have HT0 := Lib.hid hT0
  have Hb0 := Lib.hid hb0
  clear hT0 hb0 hmk
  generalize hB : w.heap.size = B at *
  generalize hw0 : (w.alloc (Obj.cells (madeCells #[Value.string ⟨#[]⟩] m) 9)) = w0 at *
  have HB := Lib.hid hB
  clear hB hw0
  go_loopw [4, 5] (fun cv nv wr => ∃ k c : Nat, nv = .int .i64 ((k : Int) + 1) ∧ k ≤ 15 ∧ cv = .int .i64 (c : Int) ∧ c = nxt l k ∧ TextsAt wr B m (codesAt l k 0) ∧ Below B w wr) (fun _ nv _ => 17 - (intOf nv).toNat)
  case atStart => exact ⟨0, 0, rfl, by omega, rfl, rfl, HT0.out, Hb0.out⟩
  case round =>
    obtain ⟨k, c, rfl, hk, rfl, hc, hT, hb⟩ := hrel
    have hcs := Hns.out k hk
    rw [← hc] at hcs
    have Hc := Lib.hid hc
    have HT := Lib.hid hT
    have Hb := Lib.hid hb
    clear hc hT hb
    by_cases hkl : (k : Int) + 1 ≤ 15
    · go_wp2_with fail
      go_loopw [4, 6] (fun cv iv wr => ∃ i d : Nat, iv = .int .i64 (i : Int) ∧ i ≤ m ∧ cv = .int .i64 (d : Int) ∧ d = 2 * c + (idxTo l (k + 1) i).length ∧ TextsAt wr B m (codesAt l k i) ∧ Below B w wr) (fun _ iv _ => m - (intOf iv).toNat)
      case atStart => exact ⟨0, 2 * c, rfl, by omega, by go_num, rfl, HT.out, Hb.out⟩
      case round =>
        obtain ⟨i, d, rfl, hi, rfl, hd, hT, hb⟩ := hrel
        have hds := idxTo_small l (k + 1) i
        have hds2 : d < 1099511627776 := by omega
        have Hd := Lib.hid hd
        have HT := Lib.hid hT
        have Hb := Lib.hid hb
        have hBw := hT.lt
        clear hd hT hb hds
        by_cases hlt : (i : Int) < (m : Int)
        · have hil : i < l.length := by rw [← Hm.out]; omega
          obtain ⟨x, hx⟩ : ∃ x, x = l.getD i 0 := ⟨_, rfl⟩
          have hx15 : x ≤ 15 := by
            rw [hx, List.getD_eq_getElem?_getD, List.getElem?_eq_getElem hil]
            exact H15.out _ (List.getElem_mem hil)
          have cx : wr.cell? ⟨g, off + i, none⟩ = some (.int .i64 (x : Int)) := by
            rw [Hb.out.cell (p := ⟨g, off + i, none⟩) (by show g < B; exact hg), hx]
            exact HI.out i hil
          have hstep := idxTo_succ l (k + 1) i
          rw [← hx] at hstep
          by_cases hxk : x = k + 1
          · rw [if_pos hxk] at hstep
            have hxb : ((x : Int) == (k : Int) + 1) = true := beq_iff_eq.2 (by omega)
            have hbits := rbits_any d (k + 1) wr (by omega) (by omega)
            rw [show (((k + 1 : Nat) : Int)) = (k : Int) + 1 from rfl] at hbits
            obtain ⟨t, ht⟩ : ∃ t, t = bs (bitsT (high d (k + 1))) := ⟨_, rfl⟩
            rw [← ht] at hbits
            have hix : l.getD i 0 = k + 1 := by rw [← hx]; exact hxk
            have Hix := Lib.hid hix
            have Ht := Lib.hid ht
            have Hbits := Lib.hid hbits
            have Hstep := Lib.hid hstep
            clear hx hix ht hbits hstep
            go_wp2_with (go_at_call 72; refine (Hbits.out).mono ?_; rintro e w1 ⟨rfl, hb1⟩
                         have hT1 := HT.out.below hb1 (by omega)
                         have hB1 := Hb.out.trans (hb1.mono (by omega))
                         obtain ⟨z1, z2⟩ := hT1.cell i (by omega)
                         have HT1 := Lib.hid hT1
                         have HB1 := Lib.hid hB1
                         clear hT1 hB1 hb1)
            go_roundw
            case rel =>
              refine ⟨i + 1, d + 1, by go_num, by omega, by go_num, ?_, ?_, HB1.out.setCell (p := ⟨B, i, none⟩) (Nat.le_refl _) _⟩
              · rw [Hstep.out, List.length_append, Hd.out]; rfl
              · refine HT1.out.put i (by omega) t ?_ (fun j hj => codesAt_other l k i j hj)
                rw [Ht.out, codesAt_here l k i Hix.out, Hd.out, Hc.out]
            case measure => simp [intOf]; omega
          · rw [if_neg hxk, List.append_nil] at hstep
            have hxb : ((x : Int) == (k : Int) + 1) = false := beq_eq_false_iff_ne.2 (by omega)
            have hix : l.getD i 0 ≠ k + 1 := by rw [← hx]; exact hxk
            have Hix := Lib.hid hix
            have Hstep := Lib.hid hstep
            clear hx hix hstep
            go_wp2_with fail
            go_roundw
            case rel => exact ⟨i + 1, d, by go_num, by omega, rfl, by rw [Hstep.out]; exact Hd.out, HT.out.congr (fun j _ => codesAt_none l k i j Hix.out), Hb.out⟩
            case measure => simp [intOf]; omega
        · obtain rfl : i = m := by omega
          go_wp2_with fail
          go_roundw
          case rel => exact ⟨k + 1, d, by go_num, by omega, rfl, by rw [Hd.out, Hc.out, nxt, cntN, if_neg (by omega), ← idxTo_all, Hm.out], HT.out.congr (fun j hj => by have := codesAt_next l k j (by rw [← Hm.out]; exact hj); rw [← Hm.out] at this; exact this), Hb.out⟩
          case measure => simp [intOf]; omega
    · obtain rfl : k = 15 := by omega
      go_wp2_with fail
      go_ret
      rw [HB.out]
      exact ⟨rfl, HT.out.congr (fun j hj => codesAt_all l H15.out j (by rw [← Hm.out]; exact hj)), Hb.out⟩
end
section
open Go.RowKit
theorem u8_or_nat (a b : Nat) (ha : a < 256) (hb : b < 256) : bits .or .u8 (a : Int) (b : Int) = ((a ||| b : Nat) : Int) := by
  have hx : a ||| b < 2 ^ 8 := Nat.or_lt_two_pow (by omega) (by omega)
  have e : ∀ x : Nat, x < 256 → (BitVec.ofInt 8 (x : Int)).toNat = x := fun x h => by rw [BitVec.ofInt_natCast, BitVec.toNat_ofNat]; exact Nat.mod_eq_of_lt (by omega)
  show IntKind.u8.wrap ((BitVec.ofInt 8 (a : Int) ||| BitVec.ofInt 8 (b : Int)).toNat : Int) = _
  rw [BitVec.toNat_or, e a ha, e b hb]
  exact IntWalk.u8_in _ (by omega)
theorem chB_eq (b : Bool) : (((chB b).toNat : Int) == 49) = b := by cases b <;> rfl
/-- bytes that are being laid -/
def PackAt (w : World) (g n : Nat) (l : List Bool) (i : Nat) : Prop := ∃ cur, w.heap[g]? = some (.cells cur 5 (0, 0)) ∧ cur.size = n ∧ ∀ j, j < n → cur[j]? = some (.int .u8 ((cellN l i j : Nat) : Int))
theorem PackAt.cell {w : World} {g n i : Nat} {l : List Bool} (h : PackAt w g n l i) (j : Nat) (hj : j < n) : w.cell? ⟨g, j, none⟩ = some (.int .u8 ((cellN l i j : Nat) : Int)) ∧ w.frozen? ⟨g, j, none⟩ = false := by
  obtain ⟨cur, ho, hz, hc⟩ := h
  exact ⟨by rw [cell_of_row _ _ _ _ _ _ ho]; exact hc j hj, frozen_of_row _ _ _ _ _ ho⟩
theorem PackAt.drew {w : World} {g n i : Nat} {l : List Bool} (h : PackAt w g n l i) : PackAt w.drew g n l i := h
theorem PackAt.put {w : World} {g n i : Nat} {l : List Bool} (h : PackAt w g n l i) (hi : i / 8 < n) (x : Int) (hx : x = ((cellN l (i + 1) (i / 8) : Nat) : Int)) : PackAt (w.setCell ⟨g, i / 8, none⟩ (.int .u8 x)) g n l (i + 1) := by
  obtain ⟨cur, ho, hz, hc⟩ := h
  refine ⟨_, heap_setCell_same w g (i / 8) cur _ _ ho, by rw [Array.size_setIfInBounds]; exact hz, fun j hj => ?_⟩
  by_cases hji : i / 8 = j
  · subst hji
    rw [Array.getElem?_setIfInBounds_self_of_lt (by omega), hx]
  · rw [Array.getElem?_setIfInBounds_ne hji, hc j hj, cellN_other (fun e => hji e.symm)]
theorem PackAt.skip {w : World} {g n i : Nat} {l : List Bool} (h : PackAt w g n l i) (hi : i < l.length) (hb : l.getD i false = false) : PackAt w g n l (i + 1) := by
  obtain ⟨cur, ho, hz, hc⟩ := h
  refine ⟨cur, ho, hz, fun j hj => ?_⟩
  rw [hc j hj]
  by_cases hji : j = i / 8
  · rw [hji, cellN_none hi hb]
  · rw [cellN_other hji]
theorem PackAt.all {w : World} {g n : Nat} {l : List Bool} (h : PackAt w g n l l.length) (hn : n = (l.length + 7) / 8) : ∀ j, j < (packed l).length → w.cell? ⟨g, j, none⟩ = some (encB ((packed l).getD j 0)) := by
  intro j hj
  rw [packed_length] at hj
  rw [(h.cell j (by omega)).1, packed_getD l j hj]
  unfold encB
  rw [UInt8.toNat_ofNat', Nat.mod_eq_of_lt (cellN_lt _ _ _)]

set_option maxRecDepth 100000 in
set_option maxHeartbeats 4000000 in
theorem rpacked_any (g cap : Nat) (l : List Bool) (w : World) (hI : ∀ j, j < l.length → w.cell? ⟨g, j, none⟩ = some (encB (chB (l.getD j false)))) (hg : g < w.heap.size) (hll : l.length < 2 ^ 40) :
    Calls Tryd.prog 46 #[.slice (some ⟨g, 0, none⟩) l.length cap] w fun e w' => e = .returned (.string (bs (packed l))) ∧ Below w.heap.size w w' := by
  obtain ⟨m, hm⟩ : ∃ m, m = l.length := ⟨_, rfl⟩
  obtain ⟨n, hn⟩ : ∃ n, n = (m + 7) / 8 := ⟨_, rfl⟩
  rw [← hm] at hll ⊢
  have hn1 : n < 2 ^ 38 := by omega
  have hnz : ((m : Int) + 7) / 8 = (n : Int) := by omega
  have hmk := run_make_row' (P := Tryd.prog) 39 5 (.int .u8 0) 1 Tryd.underlying39 Tryd.info_byte rfl .i64 .i64 n (by omega) (by omega)
  have Hm := Lib.hid hm
  have Hn := Lib.hid hn
  have HI := Lib.hid hI
  clear hI hm hn
  go_enter Tryd.func46, Tryd.ntmps46
  go_wp2_with fail
  have hT0 : PackAt (w.alloc (Obj.cells (madeCells #[Value.int .u8 0] n) 5)) w.heap.size n l 0 := by
    refine ⟨_, World.alloc_heap_new w _, size_madeCells _ _, fun j hj => ?_⟩
    rw [cellN_zero]
    exact madeCells_get _ hj
  have hb0 : Below w.heap.size w (w.alloc (Obj.cells (madeCells #[Value.int .u8 0] n) 5)) := (Below.refl _ _).alloc (Nat.le_refl _) _
  have HT0 := Lib.hid hT0
  have Hb0 := Lib.hid hb0
  clear hT0 hb0 hmk hnz
  generalize hB : w.heap.size = B at *
  generalize hw0 : (w.alloc (Obj.cells (madeCells #[Value.int .u8 0] n) 5)) = w0 at *
  have HB := Lib.hid hB
  clear hB hw0
  go_loopw [4] (fun iv wr => ∃ i : Nat, iv = .int .i64 (i : Int) ∧ i ≤ m ∧ PackAt wr B n l i ∧ Below B w wr) (fun iv _ => m - (intOf iv).toNat)
  case atStart => exact ⟨0, rfl, by omega, HT0.out, Hb0.out⟩
  case round =>
    obtain ⟨i, rfl, hi, hT, hb⟩ := hrel
    have HT := Lib.hid hT
    have Hb := Lib.hid hb
    by_cases hlt : (i : Int) < (m : Int)
    · have hil : i < l.length := by rw [← Hm.out]; omega
      obtain ⟨x, hx⟩ : ∃ x, x = l.getD i false := ⟨_, rfl⟩
      have cx : wr.cell? ⟨g, i, none⟩ = some (.int .u8 ((chB x).toNat : Int)) := by
        rw [hb.cell (p := ⟨g, i, none⟩) (by show g < B; exact hg), HI.out i hil, hx]
        rfl
      have hxb := chB_eq x
      clear hT hb
      have Hx := Lib.hid hx
      clear hx
      cases x with
      | true =>
        obtain ⟨q, hq⟩ : ∃ q, q = i / 8 := ⟨_, rfl⟩
        obtain ⟨r, hr⟩ : ∃ r, r = i % 8 := ⟨_, rfl⟩
        obtain ⟨P, hP⟩ : ∃ P, P = 2 ^ r := ⟨_, rfl⟩
        have hqn : q < n := by have := Hn.out; omega
        have eq1 : (i : Int) / 8 = (q : Int) := by omega
        have er1 : (i : Int) % 8 = (r : Int) := by omega
        have er2 : ((i : Int)).tmod 8 = (r : Int) := by rw [Int.tmod_eq_emod_of_nonneg (by omega)]; omega
        have eP : (2 : Int) ^ r = (P : Int) := by rw [hP]; simp
        have hP1 : P ≤ 128 := by rw [hP]; exact (Nat.pow_le_pow_right (by decide) (by omega) : 2 ^ r ≤ 2 ^ 7)
        have hP2 : 1 ≤ P := by rw [hP]; exact Nat.one_le_two_pow
        have hr8 : r < 8 := by omega
        obtain ⟨c, hc⟩ : ∃ c, c = cellN l i (i / 8) := ⟨_, rfl⟩
        have hc256 := cellN_lt l i (i / 8)
        rw [← hc] at hc256
        obtain ⟨z1, z2⟩ := HT.out.cell (i / 8) (by omega)
        rw [← hc, ← hq] at z1
        rw [← hq] at z2
        have hor : bits .or .u8 (c : Int) (P : Int) = ((cellN l (i + 1) (i / 8) : Nat) : Int) := by
          rw [u8_or_nat c P hc256 (by omega), hc, hP, hr, cellN_or hil Hx.out.symm]
        have xq : IntKind.i64.wrap (q : Int) = (q : Int) := IntWalk.i64_in _ (by omega)
        have xr : IntKind.i64.wrap (r : Int) = (r : Int) := IntWalk.i64_in _ (by omega)
        have xP : IntKind.u8.wrap (P : Int) = (P : Int) := IntWalk.u8_in _ (by omega)
        have hqi : (q : Int) < (n : Int) := by omega
        have Hq := Lib.hid hq
        have Hor := Lib.hid hor
        have Hr8 := Lib.hid hr8
        clear hq hr hP hc hor
        go_wp2_with fail
        go_still_tail 13, (by kernel_rfl)
        change wpList _ _ _ _ _ wr.drew
        have hT1 := HT.out.drew
        have hb1 := below_drew Hb.out
        obtain ⟨y1, y2⟩ := hT1.cell (i / 8) (by rw [← Hq.out]; exact hqn)
        rw [← Hq.out] at y1 y2
        generalize wr.drew = w1 at *
        have HT1 := Lib.hid hT1
        have Hb1 := Lib.hid hb1
        clear hT1 hb1 xq xr xP
        go_wp2_with fail
        go_roundw
        case rel => exact ⟨i + 1, by go_num, by omega, by rw [Hq.out]; exact HT1.out.put (by rw [← Hq.out]; exact hqn) _ Hor.out, Hb1.out.setCell (p := ⟨B, q, none⟩) (Nat.le_refl _) _⟩
        case measure => simp [intOf]; omega
      | false =>
        go_wp2_with fail
        go_roundw
        case rel => exact ⟨i + 1, by go_num, by omega, HT.out.skip hil Hx.out.symm, Hb.out⟩
        case measure => simp [intOf]; omega
    · obtain rfl : i = m := by omega
      have hcv := conv_bytes wr 0 B n n (packed l) (by rw [packed_length, ← Hm.out, Hn.out]) (by
        have := HT.out
        rw [Hm.out] at this
        exact this.all (by rw [← Hm.out]; exact Hn.out))
      clear hT hb
      go_wp2_with fail
      go_ret
      rw [HB.out]
      exact ⟨rfl, Hb.out⟩

set_option maxRecDepth 100000 in
set_option maxHeartbeats 4000000 in
theorem rlenbits_any (n g : Nat) (f : Nat → List Bool) (w : World) (h1 : 3 ≤ n) (h2 : n ≤ 258) (hT : TextsAt w g 288 f) (hf : ∀ j, j < 288 → f j = litBits j) :
    Calls Tryd.prog 44 #[.int .i64 (n : Int), .slice (some ⟨g, 0, none⟩) 288 288] w fun e w' => e = .returned (.string (bs (bitsT (lenBits n)))) ∧ Below w.heap.size w w' := by
  have HT := Lib.hid hT
  have Hf := Lib.hid hf
  clear hT hf
  go_enter Tryd.func44, Tryd.ntmps44
  go_wp2_with fail
  go_loop [5, 6] (fun yv sv => ∃ i y : Nat, sv = .int .i64 ((i : Int) + 257) ∧ i ≤ 29 ∧ yv = .int .i64 ((y : Int) + 257) ∧ y = lastN lensT n i) (fun _ sv => 600 - (intOf sv).toNat)
  case atStart => exact ⟨0, 0, rfl, by omega, rfl, rfl⟩
  case round =>
    obtain ⟨i, y, rfl, hi, rfl, hy⟩ := hrel
    have Hy := Lib.hid hy
    clear hy
    by_cases hlt : (i : Int) + 257 ≤ 285
    · have hl := fun W => rlength_any i ((i : Int) + 257) W (by omega) rfl
      obtain ⟨x, hx⟩ : ∃ x, x = (lensT.getD i (0, 0)).1 := ⟨_, rfl⟩
      have hst := lastN_step lensT n i
      rw [← hx] at hl hst
      have Hl := Lib.hid hl
      have Hst := Lib.hid hst
      clear hl hst hx
      by_cases hxn : (x : Int) ≤ (n : Int)
      · go_wp2_with (go_at_call 58; refine (Hl.out _).mono ?_; rintro e w' ⟨rfl, rfl⟩; clear Hl)
        go_round
        case rel => exact ⟨i + 1, i, by go_num, by omega, rfl, by rw [Hst.out, if_pos (by omega)]⟩
        case measure => simp [intOf]; omega
      · go_wp2_with (go_at_call 58; refine (Hl.out _).mono ?_; rintro e w' ⟨rfl, rfl⟩; clear Hl)
        go_round
        case rel => exact ⟨i + 1, y, by go_num, by omega, rfl, by rw [Hst.out, if_neg (by omega)]; exact Hy.out⟩
        case measure => simp [intOf]; omega
    · obtain rfl : i = 29 := by omega
      obtain ⟨hk1, hk2, hk3⟩ := lenAt_ok n h1 h2
      have hya : y = lenAt n := Hy.out
      rw [← hya] at hk1 hk2 hk3
      have hlb : lenBits n = litBits (257 + y) ++ low (n - (lensT.getD y (0, 0)).1) (lensT.getD y (0, 0)).2 := by rw [lenBits, ← hya]
      have hl := fun W => rlength_any y ((y : Int) + 257) W hk1 rfl
      have he := fun W => rextra_any y ((y : Int) + 257) W hk1 rfl
      have he5 := lens_extra y
      obtain ⟨kl, hkl⟩ : ∃ x, x = (lensT.getD y (0, 0)).1 := ⟨_, rfl⟩
      obtain ⟨ke, hke⟩ : ∃ x, x = (lensT.getD y (0, 0)).2 := ⟨_, rfl⟩
      rw [← hkl] at hl hk2 hk3 hlb
      rw [← hke] at he hk3 hlb he5
      have hlow := fun W => rlow_any (n - kl) ke W (by omega) (by omega)
      rw [show (((n - kl : Nat)) : Int) = (n : Int) - (kl : Int) from by omega] at hlow
      have hc := HT.out.cell (257 + y) (by omega)
      rw [Hf.out (257 + y) (by omega), show 257 + y = y + 257 by omega] at hc
      obtain ⟨t1, ht1⟩ : ∃ t, t = bs (bitsT (litBits (y + 257))) := ⟨_, rfl⟩
      obtain ⟨t2, ht2⟩ : ∃ t, t = bs (bitsT (low (n - kl) ke)) := ⟨_, rfl⟩
      rw [← ht1] at hc
      rw [← ht2] at hlow
      have hz1 : t1.size ≤ 9 := by
        rw [ht1]; show (bitsT (litBits (y + 257))).length ≤ 9
        rw [bitsT_length]
        have := litBits_length (y + 257); omega
      have hz2 : t2.size ≤ 13 := by
        rw [ht2]; show (bitsT (low (n - kl) ke)).length ≤ 13
        rw [bitsT_length, low_length]; omega
      obtain ⟨z1, z2⟩ := hc
      have Hl := Lib.hid hl
      have He := Lib.hid he
      have Hlow := Lib.hid hlow
      have Ht1 := Lib.hid ht1
      have Ht2 := Lib.hid ht2
      have Hlb := Lib.hid hlb
      have hgz := HT.out.lt
      have hyi : (y : Int) + 257 < 288 := by omega
      have hyi0 : 0 ≤ (y : Int) + 257 := by omega
      have hyn : y + 257 < 288 := by omega
      have hTN : ((y : Int) + 257).toNat = y + 257 := by omega
      have hwr : IntKind.i64.wrap ((n : Int) - (kl : Int)) = (n : Int) - (kl : Int) := IntWalk.i64_in _ (by omega)
      have hcat : ∀ W : World, (Op.stringOp .add t1 t2).run Tryd.prog W = .ok (.string (t1 ++ t2)) W := fun W => run_string_add_sum (w := W) t1 t2 (by omega)
      have hsum : t1.size + t2.size ≤ 9223372036854775807 := by omega
      clear hl he hlow ht1 ht2 hlb hkl hke hya hk1 hk3
      go_wp2_with fail
      go_region_held3 (fun W => W.cell? ⟨g, y + 257, none⟩ = some (.string t1))
        (first | exact z1 | exact z3) (first
        | (go_at_call 58; refine (Hl.out _).mono ?_; rintro e w' ⟨rfl, rfl⟩)
        | (go_at_call 59; refine (He.out _).mono ?_; rintro e w' ⟨rfl, rfl⟩)
        | (go_at_call 73; refine (Hlow.out _).mono ?_; rintro e w2 ⟨rfl, hb2⟩
           have z3 := (hb2.cell (p := ⟨g, y + 257, none⟩) hgz).trans z1))
      go_wp2_with fail
      go_ret
      exact ⟨ret_str (by rw [Hlb.out, Ht1.out, Ht2.out, append_bs, bitsT_append, Nat.add_comm 257 y]; rfl), (below_drew (Below.refl _ _)).trans hb2⟩
set_option maxRecDepth 100000 in
set_option maxHeartbeats 4000000 in
theorem rdistbits_any (n g : Nat) (f : Nat → List Bool) (w : World) (h1 : 1 ≤ n) (h2 : n ≤ 32768) (hT : TextsAt w g 32 f) (hf : ∀ j, j < 32 → f j = high j 5) :
    Calls Tryd.prog 45 #[.int .i64 (n : Int), .slice (some ⟨g, 0, none⟩) 32 32] w fun e w' => e = .returned (.string (bs (bitsT (distBits n)))) ∧ Below w.heap.size w w' := by
  have HT := Lib.hid hT
  have Hf := Lib.hid hf
  clear hT hf
  go_enter Tryd.func45, Tryd.ntmps45
  go_wp2_with fail
  go_loop [5, 6] (fun yv sv => ∃ i y : Nat, sv = .int .i64 (i : Int) ∧ i ≤ 30 ∧ yv = .int .i64 (y : Int) ∧ y = lastN distT n i) (fun _ sv => 600 - (intOf sv).toNat)
  case atStart => exact ⟨0, 0, rfl, by omega, rfl, rfl⟩
  case round =>
    obtain ⟨i, y, rfl, hi, rfl, hy⟩ := hrel
    have Hy := Lib.hid hy
    clear hy
    by_cases hlt : (i : Int) ≤ 29
    · have hl := fun W => rdistance_any i W (by omega)
      obtain ⟨x, hx⟩ : ∃ x, x = (distT.getD i (0, 0)).1 := ⟨_, rfl⟩
      have hst := lastN_step distT n i
      rw [← hx] at hl hst
      have Hl := Lib.hid hl
      have Hst := Lib.hid hst
      clear hl hst hx
      by_cases hxn : (x : Int) ≤ (n : Int)
      · go_wp2_with (go_at_call 60; refine (Hl.out _).mono ?_; rintro e w' ⟨rfl, rfl⟩; clear Hl)
        go_round
        case rel => exact ⟨i + 1, i, by go_num, by omega, rfl, by rw [Hst.out, if_pos (by omega)]⟩
        case measure => simp [intOf]; omega
      · go_wp2_with (go_at_call 60; refine (Hl.out _).mono ?_; rintro e w' ⟨rfl, rfl⟩; clear Hl)
        go_round
        case rel => exact ⟨i + 1, y, by go_num, by omega, rfl, by rw [Hst.out, if_neg (by omega)]; exact Hy.out⟩
        case measure => simp [intOf]; omega
    · obtain rfl : i = 30 := by omega
      obtain ⟨hk1, hk2, hk3⟩ := distAt_ok n h1 h2
      have hya : y = distAt n := Hy.out
      rw [← hya] at hk1 hk2 hk3
      have hlb : distBits n = high y 5 ++ low (n - (distT.getD y (0, 0)).1) (distT.getD y (0, 0)).2 := by rw [distBits, ← hya]
      have hl := fun W => rdistance_any y W hk1
      have he := fun W => rmore_any y W hk1
      have he5 := dist_extra y
      obtain ⟨kl, hkl⟩ : ∃ x, x = (distT.getD y (0, 0)).1 := ⟨_, rfl⟩
      obtain ⟨ke, hke⟩ : ∃ x, x = (distT.getD y (0, 0)).2 := ⟨_, rfl⟩
      rw [← hkl] at hl hk2 hk3 hlb
      rw [← hke] at he hk3 hlb he5
      have hlow := fun W => rlow_any (n - kl) ke W (by omega) (by omega)
      rw [show (((n - kl : Nat)) : Int) = (n : Int) - (kl : Int) from by omega] at hlow
      have hc := HT.out.cell y (by omega)
      rw [Hf.out y (by omega)] at hc
      obtain ⟨t1, ht1⟩ : ∃ t, t = bs (bitsT (high y 5)) := ⟨_, rfl⟩
      obtain ⟨t2, ht2⟩ : ∃ t, t = bs (bitsT (low (n - kl) ke)) := ⟨_, rfl⟩
      rw [← ht1] at hc
      rw [← ht2] at hlow
      have hz1 : t1.size ≤ 5 := by
        rw [ht1]; show (bitsT (high y 5)).length ≤ 5
        rw [bitsT_length, high_length]; exact Nat.le_refl _
      have hz2 : t2.size ≤ 13 := by
        rw [ht2]; show (bitsT (low (n - kl) ke)).length ≤ 13
        rw [bitsT_length, low_length]; omega
      obtain ⟨z1, z2⟩ := hc
      have Hl := Lib.hid hl
      have He := Lib.hid he
      have Hlow := Lib.hid hlow
      have Ht1 := Lib.hid ht1
      have Ht2 := Lib.hid ht2
      have Hlb := Lib.hid hlb
      have hgz := HT.out.lt
      have hyi : (y : Int) < 32 := by omega
      have hyi0 : 0 ≤ (y : Int) := by omega
      have hyn : y < 32 := by omega
      have hwr : IntKind.i64.wrap ((n : Int) - (kl : Int)) = (n : Int) - (kl : Int) := IntWalk.i64_in _ (by omega)
      have hcat : ∀ W : World, (Op.stringOp .add t1 t2).run Tryd.prog W = .ok (.string (t1 ++ t2)) W := fun W => run_string_add_sum (w := W) t1 t2 (by omega)
      have hsum : t1.size + t2.size ≤ 9223372036854775807 := by omega
      clear hl he hlow ht1 ht2 hlb hkl hke hya hk1 hk3
      go_wp2_with fail
      go_region_held3 (fun W => W.cell? ⟨g, y, none⟩ = some (.string t1))
        (first | exact z1 | exact z3) (first
        | (go_at_call 60; refine (Hl.out _).mono ?_; rintro e w' ⟨rfl, rfl⟩)
        | (go_at_call 61; refine (He.out _).mono ?_; rintro e w' ⟨rfl, rfl⟩)
        | (go_at_call 73; refine (Hlow.out _).mono ?_; rintro e w2 ⟨rfl, hb2⟩
           have z3 := (hb2.cell (p := ⟨g, y, none⟩) hgz).trans z1))
      go_wp2_with fail
      go_ret
      exact ⟨ret_str (by rw [Hlb.out, Ht1.out, Ht2.out, append_bs, bitsT_append]; rfl), (below_drew (Below.refl _ _)).trans hb2⟩
end
section
open Go.RowKit Go.Maps Go.ChangeShapes
theorem Tryd.keyed_str : Keyed Tryd.prog 9 := string_keyed Tryd.underlying9
theorem Tryd.zero_ints (w : World) : (zeroValue 52).run Tryd.prog w = .ok (.slice none 0 0) w := by kernel_rfl
/-- the earlier places of three bytes, the first one first -/
def chainI (s : List UInt8) (k i : Nat) : List Int := (chain s k i).reverse.map fun x : Nat => (x : Int)
def itemsOf : DataW Nat → List (DataW Nat)
  | .slice es _ => es
  | _ => []
theorem lits_inj {q : IntKind} : ∀ {a b : List Int}, lits (H := Nat) q a = lits q b → a = b
  | [], [], _ => rfl
  | [], _ :: _, h => by simp [lits] at h
  | _ :: _, [], h => by simp [lits] at h
  | x :: a, y :: b, h => by
    simp only [lits, List.map_cons, List.cons.injEq] at h
    obtain ⟨h1, h2⟩ := h
    injection h1 with h1
    injection h1 with _ h1
    rw [h1, lits_inj (a := a) (b := b) h2]
/-- the map of places, when the places below i are noted -/
def PlacesD (s : List UInt8) (D : DataW Nat) (i : Nat) : Prop := ∀ j, j + 3 ≤ s.length → itemsOf (D.atKey (.string (key3 s j)) .nil) = lits .i64 (chainI s (threeN s j) i)
theorem PlacesD.start (s : List UInt8) : PlacesD s (.map []) 0 := fun j _ => rfl
theorem chainI_next (s : List UInt8) (k i : Nat) : chainI s k (i + 1) = chainI s k i ++ (if threeN s i = k then [(i : Int)] else []) := by
  unfold chainI
  rw [chain]
  by_cases h : threeN s i = k
  · rw [if_pos h, if_pos h]; simp
  · rw [if_neg h, if_neg h]; simp
theorem PlacesD.next {s : List UInt8} {D : DataW Nat} {i : Nat} (h : PlacesD s D i) (hD : IsMap D) (hi : i + 3 ≤ s.length) {d : DataW Nat} (hd : itemsOf d = lits .i64 (chainI s (threeN s i) i ++ [(i : Int)])) : PlacesD s (D.put (.string (key3 s i)) d) (i + 1) := by
  intro j hj
  rw [chainI_next]
  by_cases hk : key3 s j = key3 s i
  · have ht := (key3_iff hj hi).1 hk
    rw [hk, atKey_put_same hD (by simp [WideAt.IsKeyLit]), if_pos ht.symm, hd, ht]
  · have ht : ¬ threeN s i = threeN s j := fun e => hk ((key3_iff hj hi).2 e.symm)
    rw [atKey_put_other (fun e => hk (by injection e)), h j hj, if_neg ht, List.append_nil]
theorem ints_items {w : World} {base : Nat} {v : Value} {zs : List Int} (h : w.ownsInts base 3 .i64 v zs) : itemsOf (rowDatum (H := Nat) .i64 v zs) = lits .i64 zs := by
  rcases h.datum (H := Nat) with ⟨h1, rfl⟩ | h1
  · rw [h1]; rfl
  · rw [h1]; rfl
theorem extract_key {s : ByteArray} {i : Nat} : (s.extract i (i + 3)).data.toList = key3 s.data.toList i := by
  rw [extract_bs]
  show (s.data.toList.drop i).take (i + 3 - i) = _
  rw [Nat.add_sub_cancel_left]; rfl
theorem groups_isMap {H : Type} {w : World} {P : Program} {k base : Nat} {e : TypeId} {q : IntKind} {b n : Nat} {D : DataW H} (h : w.ownsGroups P k base e q b n D) : IsMap D := by
  obtain ⟨es, clock, hb, F, hs, rfl, _⟩ := h
  exact ⟨_, rfl⟩
theorem groups_map {H : Type} {w : World} {P : Program} {k base : Nat} {e : TypeId} {q : IntKind} {b n : Nat} {D : DataW H} (h : w.ownsGroups P k base e q b n D) : ∃ es c, w.heap[b]? = some (.map es c) := by
  obtain ⟨es, clock, hb, _⟩ := h
  exact ⟨es, clock, hb⟩
/-- a row of bytes is no group's row -/
theorem groups_apart {H : Type} {w : World} {k base : Nat} {b n : Nat} {D : DataW H} (h : w.ownsGroups Tryd.prog k base 3 .i64 b n D) {row : Option Nat} (hr : ∀ g, row = some g → ∃ cs fr, w.heap[g]? = some (.cells cs 5 fr)) :
    ∀ es clock, w.heap[b]? = some (.map es clock) → ∀ x ∈ es.toList, x.val.ownBlock = none ∨ x.val.ownBlock ≠ row := by
  obtain ⟨es', clock', hb', F, _⟩ := h
  intro es clock hb x hx
  obtain ⟨rfl, rfl⟩ : es' = es ∧ clock' = clock := by rw [hb'] at hb; simpa using hb
  obtain ⟨y, hy⟩ := F.reads x hx
  obtain ⟨z, hz, _⟩ := WideElems.rd_val hy
  obtain ⟨zs, ho, _⟩ := rowElem_inv hz
  cases hxo : x.val.ownBlock with
  | none => exact .inl rfl
  | some g =>
    refine .inr fun e => ?_
    obtain ⟨cs, fr, hc⟩ := hr g e.symm
    exact notRow_row ho.1 hc (.inr (fun cs fz e2 => by cases e2)) hxo.symm
/-- a slice of bytes of the own; where there is no room the row may bear a mark (a constant's row) -/
def OwnB (w : World) (base : Nat) (v : Value) (xs : List Value) : Prop := w.ownsRow base 5 1 v xs.length xs ∨ ∃ g fr, v = .slice (some ⟨g, 0, none⟩) xs.length xs.length ∧ base ≤ g ∧ w.heap[g]? = some (.cells xs.toArray 5 fr)
theorem OwnB.lt {w : World} {base : Nat} {v : Value} {xs : List Value} (h : OwnB w base v xs) (g : Nat) (hg : v.ownBlock = some g) : base ≤ g ∧ g < w.heap.size := by
  rcases h with h | ⟨g', fr, rfl, hb, hc⟩
  · exact h.lt g hg
  · simp only [Value.ownBlock, Option.some.injEq] at hg
    subst hg
    exact ⟨hb, heap_lt hc⟩
theorem OwnB.bytes {w : World} {base : Nat} {v : Value} {xs : List Value} (h : OwnB w base v xs) (g : Nat) (hg : v.ownBlock = some g) : ∃ cs fr, w.heap[g]? = some (.cells cs 5 fr) := by
  rcases h with h | ⟨g', fr, rfl, hb, hc⟩
  · rcases h.2 with ⟨rfl, _⟩ | ⟨g', cap, cur, rfl, _, hc, _⟩
    · simp [Value.ownBlock] at hg
    · simp only [Value.ownBlock, Option.some.injEq] at hg
      subst hg
      exact ⟨cur, _, hc⟩
  · simp only [Value.ownBlock, Option.some.injEq] at hg
    subst hg
    exact ⟨_, fr, hc⟩
theorem OwnB.kept {w w' : World} {base : Nat} {v : Value} {xs : List Value} {row : Option Nat} (h : OwnB w base v xs) (hg : w.grownBy w' row) (hr : v.ownBlock = none ∨ v.ownBlock ≠ row) : OwnB w' base v xs := by
  rcases h with h | ⟨g', fr, rfl, hb, hc⟩
  · exact .inl (h.kept hg hr)
  · refine .inr ⟨g', fr, rfl, hb, (hg.block g' (heap_lt hc) ?_).trans hc⟩
    rcases hr with hr | hr
    · simp [Value.ownBlock] at hr
    · exact hr
theorem OwnB.ne_row {w : World} {base : Nat} {v : Value} {xs : List Value} (h : OwnB w base v xs) {k : Nat} {o : Obj} (hk : w.heap[k]? = some o) (ho : notRow 5 o) : some k ≠ v.ownBlock := by
  intro e
  obtain ⟨cs, fr, hc⟩ := h.bytes k e.symm
  rw [hk] at hc
  cases hc
  exact ho _ _ rfl
/-- append of a text's bytes -/
theorem run_append_ownB (w : World) (base : Nat) (ty : TypeId) (i : TypeInfo) (hi : Tryd.prog.info? 5 = some i) (hz : i.zero = some (.int .u8 0)) (hsize : i.size = 1) (hby : i.bytes = 1)
    (v : Value) (xs : List Value) (hown : OwnB w base v xs) (s : ByteArray) (h0 : 0 < s.size) (h63 : xs.length + s.size ≤ maxLen) (hbytes : xs.length + s.size ≤ 140737488355328) (hbase : base ≤ w.heap.size) :
    ∃ v' w', (Builtin.append_ #[39, 9] ty #[v, .string s]).run Tryd.prog w = .ok v' w' ∧ w'.ownsRow base 5 1 v' (xs.length + s.size) (xs ++ Lib.strCells s) ∧ w.grownBy w' v.ownBlock := by
  rcases hown with hown | ⟨g, fr, rfl, hb, hc⟩
  · obtain ⟨v', w', hr, h2, h3, _⟩ := Lib.run_append_own_string (P := Tryd.prog) w base 39 9 ty 5 i Tryd.underlying39 Tryd.underlying9 hi hz hsize hby v xs.length xs hown s h63 hbytes hbase
    exact ⟨v', w', hr, h2, h3⟩
  · have holds : ∀ j u, xs[j]? = some u → w.cell? ((⟨g, 0, none⟩ : Addr).add j) = some u := fun j u hu => World.news_of_block hc j u (by simpa using hu)
    have hr := Lib.run_append_grow_string (P := Tryd.prog) w 39 9 ty 5 i (.int .u8 0) Tryd.underlying39 Tryd.underlying9 hi hz ⟨g, 0, none⟩ xs.length xs.length xs (by rw [hsize]; simp) holds s (by omega) (by unfold maxLen at h63; omega) (by rw [hby]; exact growslice_fits (by omega) (by omega))
    refine ⟨_, _, hr, ⟨by rw [List.length_append, Lib.strCells_length, Nat.mul_one], .inr ⟨w.heap.size, _, _, rfl, hbase, World.alloc_heap_new w.drew _, grownCap_ge w _ _ _, grownCap_le_maxLen w _ _ _ h63, ?_, ?_⟩⟩, ⟨rfl, rfl, rfl, by simp, fun k hk _ => heap_alloc_old w.drew _ hk⟩⟩
    · have hge := grownCap_ge w (xs.length + s.size) xs.length 5
      have hz1 : (Value.int IntKind.u8 0).cells.size = 1 := rfl
      simp only [Array.size_append, List.size_toArray, size_zeroCells, hz1, Lib.strCells_length]
      omega
    · have hlen : (xs ++ Lib.strCells s).length = (xs.length + s.size) * 1 := by rw [List.length_append, Lib.strCells_length, Nat.mul_one]
      simp only [Array.toList_append, List.append_assoc]
      rw [← List.append_assoc, ← hlen]
      exact List.take_left
theorem wpList_append_ownB {w : World} {ops : Array Oper} {rest : List Oper} {o : Oper} {a : Act} {Q : Exit → Act → World → Prop} (hgd : o.guard = none) (sl x : Operand)
    (ho : o.op = .call { callee := .builtin .append, args := #[sl, x], argTypes := #[39, 9] })
    (base : Nat) (i : TypeInfo) (hi : Tryd.prog.info? 5 = some i) (hz : i.zero = some (.int .u8 0)) (hsize : i.size = 1) (hby : i.bytes = 1)
    (v : Value) (xs : List Value) (hs : a.eval sl = v) (hown : OwnB w base v xs) (s : ByteArray) (hx : a.eval x = .string s) (h0 : 0 < s.size)
    (h63 : xs.length + s.size ≤ maxLen) (hbytes : xs.length + s.size ≤ 140737488355328) (hbase : base ≤ w.heap.size)
    (h : ∀ v' w', w'.ownsRow base 5 1 v' (xs.length + s.size) (xs ++ Lib.strCells s) → w.grownBy w' v.ownBlock → wpList Tryd.prog ops Q rest (a.put o.dst v') w') : wpList Tryd.prog ops Q (o :: rest) a w := by
  refine wpList_plain hgd fun K hK => ?_
  obtain ⟨v', w', hr, h2, h3⟩ := run_append_ownB w base o.type i hi hz hsize hby v xs hown s h0 h63 hbytes hbase
  unfold Oper.wp execOp
  simp only [ho, resolve, invoke, builtin, Sem.run_bind, Sem.run_pure, Result.andThen_ok, List.map_toArray, List.map_cons, List.map_nil, hs, hx, hr]
  exact hK _ _ (h v' w' h2 h3)
theorem TextsAt.kept {w w' : World} {g n : Nat} {f : Nat → List Bool} {row : Option Nat} (h : TextsAt w g n f) (hg : w.grownBy w' row) (hr : some g ≠ row) : TextsAt w' g n f := by
  obtain ⟨cur, ho, hz, hc⟩ := h
  exact ⟨cur, (hg.block g (heap_lt ho) hr).trans ho, hz, hc⟩
theorem grown_same (w : World) (n : Nat) : w.grownBy (w.drewN n) none := ⟨rfl, rfl, rfl, Nat.le_refl _, fun _ _ _ => rfl⟩
/-- what the document's short holds when it stands at place i -/
structure RShort (w0 wr : World) (s : ByteArray) (B LB DB M : Nat) (bv : Value) (i : Nat) (bits : List Bool) : Prop where
  lit : TextsAt wr LB 288 (codesF fixL)
  dis : TextsAt wr DB 32 (codesF fixD)
  row : OwnB wr (M + 1) bv ((bitsT bits).map encB)
  map : ∃ (D : DataW Nat) (n : Nat), wr.ownsGroups Tryd.prog 9 (M + 1) 3 .i64 M n D ∧ n ≤ i ∧ PlacesD s.data.toList D (min i (s.size - 2))
  below : Below B w0 wr
  ord : B ≤ LB ∧ LB < M ∧ B ≤ DB ∧ DB < M ∧ M < wr.heap.size
theorem RShort.same {w0 wr w' : World} {s : ByteArray} {B LB DB M : Nat} {bv : Value} {i : Nat} {bits : List Bool} (h : RShort w0 wr s B LB DB M bv i bits) (hs : Same wr w') : RShort w0 w' s B LB DB M bv i bits := by
  obtain ⟨n, rfl⟩ := hs
  obtain ⟨D, k, h1, h2, h3⟩ := h.map
  exact ⟨h.lit, h.dis, h.row, ⟨D, k, h1.kept (grown_same wr n) (by simp) (fun _ _ _ x _ => by cases x.val.ownBlock <;> simp), h2, h3⟩, below_drewN h.below n, h.ord⟩
theorem RShort.wrote {w0 wr w' : World} {s : ByteArray} {B LB DB M : Nat} {bv v' : Value} {i : Nat} {bits : List Bool} (h : RShort w0 wr s B LB DB M bv i bits) (t : List Bool) {n : Nat} (hn : n = (bits ++ t).length)
    (hown : w'.ownsRow (M + 1) 5 1 v' n ((bitsT bits).map encB ++ (bitsT t).map encB)) (hg : wr.grownBy w' bv.ownBlock) : RShort w0 w' s B LB DB M v' i (bits ++ t) := by
  obtain ⟨D, k, h1, h2, h3⟩ := h.map
  obtain ⟨o1, o2, o3, o4, o5⟩ := h.ord
  have hne : ∀ g f n, TextsAt wr g n f → some g ≠ bv.ownBlock := fun g f n ht => by
    obtain ⟨cur, ho, _⟩ := ht
    exact h.row.ne_row ho (fun cs fz e2 => by cases e2)
  have hM : some M ≠ bv.ownBlock := fun e => by
    have := (h.row.lt M e.symm).1
    omega
  refine ⟨h.lit.kept hg (hne _ _ _ h.lit), h.dis.kept hg (hne _ _ _ h.dis), ?_, ⟨D, k, h1.kept hg hM (groups_apart h1 h.row.bytes), h2, h3⟩, h.below.grown hg (by omega) (fun j hj => by have := (h.row.lt j hj).1; omega), ⟨o1, o2, o3, o4, Nat.lt_of_lt_of_le o5 hg.size⟩⟩
  left
  rw [bitsT_append, List.map_append, show ((bitsT bits).map encB ++ (bitsT t).map encB).length = n from by rw [← List.map_append, ← bitsT_append, List.length_map, bitsT_length, hn]]
  exact hown
theorem RShort.noted {w0 wr w1 w2 : World} {s : ByteArray} {B LB DB M : Nat} {bv v v' : Value} {i n : Nat} {bits : List Bool} {D : DataW Nat} {zs : List Int} (h : RShort w0 wr s B LB DB M bv i bits) (hi : i + 3 ≤ s.size)
    (h1 : wr.ownsGroups Tryd.prog 9 (M + 1) 3 .i64 M n D) (hn : n ≤ i) (hP : PlacesD s.data.toList D (min i (s.size - 2)))
    (hat : D.atKey (.string (key3 s.data.toList i)) .nil = rowDatum .i64 v zs) (hoi : wr.ownsInts (M + 1) 3 .i64 v zs) (hg1 : wr.grownBy w1 v.ownBlock) (hoi' : w1.ownsInts (M + 1) 3 .i64 v' (zs ++ [(i : Int)]))
    (h2 : w2.ownsGroups Tryd.prog 9 (M + 1) 3 .i64 M (n + 1) (D.put (.string (key3 s.data.toList i)) (rowDatum .i64 v' (zs ++ [(i : Int)])))) (hg2 : w1.grownBy w2 (some M)) : RShort w0 w2 s B LB DB M bv (i + 1) bits := by
  obtain ⟨o1, o2, o3, o4, o5⟩ := h.ord
  have hlen : s.data.toList.length = s.size := rfl
  have hzs : zs = chainI s.data.toList (threeN s.data.toList i) i := by
    have e := hP i (by omega)
    rw [show min i (s.size - 2) = i by omega, hat, ints_items hoi] at e
    exact lits_inj e
  have hne : ∀ g (f : Nat → List Bool) n, TextsAt wr g n f → some g ≠ v.ownBlock := fun g f n ht => by
    obtain ⟨cur, ho, _⟩ := ht
    exact notRow_row hoi.1 ho (.inr (fun cs fz e2 => by cases e2))
  have hbv : bv.ownBlock = none ∨ bv.ownBlock ≠ v.ownBlock := by
    cases hb : bv.ownBlock with
    | none => exact .inl rfl
    | some g =>
      obtain ⟨cs, fr, hc⟩ := h.row.bytes g hb
      exact .inr (notRow_row hoi.1 hc (.inr (fun cs fz e2 => by cases e2)))
  have hbM : bv.ownBlock = none ∨ bv.ownBlock ≠ some M := by
    cases hb : bv.ownBlock with
    | none => exact .inl rfl
    | some g =>
      have := (h.row.lt g hb).1
      exact .inr (by simp; omega)
  refine ⟨(h.lit.kept hg1 (hne _ _ _ h.lit)).kept hg2 (by simp; omega), (h.dis.kept hg1 (hne _ _ _ h.dis)).kept hg2 (by simp; omega), (h.row.kept hg1 hbv).kept hg2 hbM, ⟨_, n + 1, h2, by omega, ?_⟩, (h.below.grown hg1 (by omega) (fun j hj => by have := (hoi.1.lt j hj).1; omega)).grown hg2 (by have := hg1.size; omega) (fun j hj => by cases hj; omega), ⟨o1, o2, o3, o4, Nat.lt_of_lt_of_le o5 (Nat.le_trans hg1.size hg2.size)⟩⟩
  rw [show min i (s.size - 2) = i by omega] at hP
  rw [show min (i + 1) (s.size - 2) = i + 1 by omega]
  refine hP.next (groups_isMap h1) (by omega) ?_
  rw [ints_items hoi', hzs]
theorem RShort.past {w0 wr : World} {s : ByteArray} {B LB DB M : Nat} {bv : Value} {i : Nat} {bits : List Bool} (h : RShort w0 wr s B LB DB M bv i bits) (hi : ¬ i + 3 ≤ s.size) : RShort w0 wr s B LB DB M bv (i + 1) bits := by
  obtain ⟨D, k, h1, h2, h3⟩ := h.map
  exact ⟨h.lit, h.dis, h.row, ⟨D, k, h1, by omega, by rw [show min (i + 1) (s.size - 2) = min i (s.size - 2) by omega]; exact h3⟩, h.below, h.ord⟩
theorem RShort.later {w0 wr w' : World} {s : ByteArray} {B LB DB M : Nat} {bv : Value} {i : Nat} {bits : List Bool} (h : RShort w0 wr s B LB DB M bv i bits) (hb : Below wr.heap.size wr w') : RShort w0 w' s B LB DB M bv i bits := by
  obtain ⟨D, k, h1, h2, h3⟩ := h.map
  obtain ⟨o1, o2, o3, o4, o5⟩ := h.ord
  have hg : wr.grownBy w' none := ⟨hb.os, hb.tape, hb.output, hb.size, fun k hk _ => hb.block k hk⟩
  exact ⟨h.lit.below hb h.lit.lt, h.dis.below hb h.dis.lt, h.row.kept hg (by cases bv.ownBlock <;> simp), ⟨D, k, h1.kept hg (by simp) (fun _ _ _ x _ => by cases x.val.ownBlock <;> simp), h2, h3⟩, h.below.trans (hb.mono (by omega)), ⟨o1, o2, o3, o4, Nat.lt_of_lt_of_le o5 hb.size⟩⟩
theorem ints_of_row {w : World} {base n : Nat} {v : Value} {l : List Nat} (h : w.ownsRow base 3 1 v n (l.map encI)) (hl : l.length = n) (hn : 0 < n) : ∃ g cap, v = .slice (some ⟨g, 0, none⟩) n cap ∧ g < w.heap.size ∧ IntsAt w g 0 l := by
  obtain ⟨g, cap, rfl, _, hlt⟩ := h.form hn
  refine ⟨g, cap, rfl, hlt, fun j hj => ?_⟩
  have hc := h.cells (g := g) rfl j (encI (l.getD j 0)) (by rw [List.getElem?_map, List.getElem?_eq_getElem hj, List.getD_eq_getElem?_getD, List.getElem?_eq_getElem hj]; rfl)
  have e : (⟨g, 0, none⟩ : Addr).add j = ⟨g, 0 + j, none⟩ := by unfold Addr.add; split <;> simp_all
  rw [e] at hc
  exact hc
theorem bits_of_row {w : World} {base n : Nat} {v : Value} {l : List Bool} (h : w.ownsRow base 5 1 v n ((bitsT l).map encB)) (hl : l.length = n) (hn : 0 < n) : ∃ g cap, v = .slice (some ⟨g, 0, none⟩) n cap ∧ g < w.heap.size ∧ ∀ j, j < l.length → w.cell? ⟨g, j, none⟩ = some (encB (chB (l.getD j false))) := by
  obtain ⟨g, cap, rfl, _, hlt⟩ := h.form hn
  refine ⟨g, cap, rfl, hlt, fun j hj => ?_⟩
  have hc := h.cells (g := g) rfl j (encB (chB (l.getD j false))) (by unfold bitsT; rw [List.getElem?_map, List.getElem?_map, List.getElem?_eq_getElem hj, List.getD_eq_getElem?_getD, List.getElem?_eq_getElem hj]; rfl)
  have e : (⟨g, 0, none⟩ : Addr).add j = ⟨g, j, none⟩ := by unfold Addr.add; split <;> simp_all
  rw [e] at hc
  exact hc
theorem codesF_fixL (j : Nat) (h : j < 288) : codesF fixL j = litBits j := by
  have := litLen_pos j
  unfold codesF
  rw [fixL_get j h, if_neg (by omega), codeB_fixL j h]
theorem codesF_fixD (j : Nat) (h : j < 32) : codesF fixD j = high j 5 := by
  unfold codesF codeB
  rw [fixD_get j h, if_neg (by decide), codeN_fixD j h]
theorem fixL_15 : ∀ x ∈ fixL, x ≤ 15 := by
  intro x hx
  unfold fixL at hx
  rw [List.mem_map] at hx
  obtain ⟨a, _, rfl⟩ := hx
  have := litLen_pos a
  omega
theorem fixD_15 : ∀ x ∈ fixD, x ≤ 15 := by
  intro x hx
  unfold fixD at hx
  rw [List.mem_replicate] at hx
  omega
theorem rcodesL (g cap : Nat) (W : World) (hI : IntsAt W g 0 fixL) (hg : g < W.heap.size) : Calls Tryd.prog 42 #[.slice (some ⟨g, 0, none⟩) 288 cap] W fun e w' => e = .returned (.slice (some ⟨W.heap.size, 0, none⟩) 288 288) ∧ TextsAt w' W.heap.size 288 (codesF fixL) ∧ Below W.heap.size W w' := by
  have h := rcodes_any g 0 cap fixL W hI hg (by rw [fixL_len']; decide) fixL_15
  rw [fixL_len'] at h
  exact h
theorem rcodesD (g cap : Nat) (W : World) (hI : IntsAt W g 0 fixD) (hg : g < W.heap.size) : Calls Tryd.prog 42 #[.slice (some ⟨g, 0, none⟩) 32 cap] W fun e w' => e = .returned (.slice (some ⟨W.heap.size, 0, none⟩) 32 32) ∧ TextsAt w' W.heap.size 32 (codesF fixD) ∧ Below W.heap.size W w' := by
  have h := rcodes_any g 0 cap fixD W hI hg (by rw [fixD_len']; decide) fixD_15
  rw [fixD_len'] at h
  exact h
theorem ints_form0 {w : World} {base : Nat} {v : Value} (h : w.ownsInts base 3 .i64 v []) : ∃ p c, v = .slice p 0 c := by
  rcases h.1.2 with ⟨rfl, _⟩ | ⟨g, cap, cur, rfl, _⟩
  · exact ⟨_, _, rfl⟩
  · exact ⟨_, _, rfl⟩
theorem ints_form1 {w : World} {base : Nat} {v : Value} {zs : List Int} (h : w.ownsInts base 3 .i64 v zs) (h0 : 0 < zs.length) : ∃ g c, v = .slice (some ⟨g, 0, none⟩) zs.length c ∧ ∀ j, j < zs.length → w.cell? ⟨g, j, none⟩ = some (.int .i64 (zs.getD j 0)) := by
  obtain ⟨g, cap, rfl, _, hlt⟩ := h.1.form h0
  refine ⟨g, cap, rfl, fun j hj => ?_⟩
  have hc := h.1.cells (g := g) rfl j (.int .i64 (zs.getD j 0)) (by rw [List.getElem?_map, List.getElem?_eq_getElem hj, List.getD_eq_getElem?_getD, List.getElem?_eq_getElem hj]; rfl)
  have e : (⟨g, 0, none⟩ : Addr).add j = ⟨g, j, none⟩ := by unfold Addr.add; split <;> simp_all
  rw [e] at hc
  exact hc
theorem chainI_length (s : List UInt8) (k i : Nat) : (chainI s k i).length = (chain s k i).length := by unfold chainI; rw [List.length_map, List.length_reverse]
/-- the place c steps back -/
theorem chainI_back (s : List UInt8) (k i c : Nat) (h : c < (chain s k i).length) : (chainI s k i).getD ((chain s k i).length - 1 - c) 0 = (((chain s k i).getD c 0 : Nat) : Int) := by
  unfold chainI
  rw [List.getD_eq_getElem?_getD, List.getElem?_map, List.getElem?_reverse (by omega), show (chain s k i).length - 1 - ((chain s k i).length - 1 - c) = c by omega, List.getElem?_eq_getElem h, List.getD_eq_getElem?_getD, List.getElem?_eq_getElem h]
  rfl
theorem drop_getD {l : List Nat} {c : Nat} (h : c < l.length) : l.drop c = l.getD c 0 :: l.drop (c + 1) := by
  rw [List.drop_eq_getElem_cons h, List.getD_eq_getElem?_getD, List.getElem?_eq_getElem h]; rfl
theorem getD_mem {l : List Nat} {c : Nat} (h : c < l.length) : l.getD c 0 ∈ l := by
  rw [List.getD_eq_getElem?_getD, List.getElem?_eq_getElem h]
  exact List.getElem_mem h
/-- 'm[k]' on a map of rows, as a step of a region that draws -/
theorem step_lookup_groups {H : Type} {P : Program} {w : World} {ops : Array Oper} {o : Oper} {a : Act} {K : Act → World → Prop} {Q : Exit → Act → World → Prop} {X : Prop}
    (hg : o.guard = none) (m x : Operand) (t : TypeId) (hop : o.op = Op.lookup t m x false)
    (k E e : TypeId) (q : IntKind) (Kk : Keyed P k) (ht : P.underlying t = some (.map k E)) (hz : (zeroValue E).run P w = .ok (.slice none 0 0) w) (base b n : Nat) (D : DataW H)
    (hm : a.eval m = .map (some b)) (hown : w.ownsGroups P k base e q b n D) (hn : n < maxLen) (key : Value) (kl : Lit) (hx : a.eval x = key) (hkey : keyOf P k key = some kl)
    (hK : ∀ v zs, D.atKey kl .nil = rowDatum q v zs → w.ownsInts base e q v zs → zs.length ≤ n → w.groupBack P t k base e q b n D key kl v → K (a.put o.dst v) w) :
    if Region.wanted o (yielded ops a.tmps) = true then Oper.wp P o a w K Q else X := by
  have hw : Region.wanted o (yielded ops a.tmps) = true := by simp [Region.wanted, hg]
  rw [if_pos hw]
  obtain ⟨v, zs, hrun, hat, hoi, hzl, hback⟩ := hown.at Kk ht hz hn hkey
  unfold Oper.wp
  simp [execOp, hop, hm, hx, hrun, Result.andThen]
  exact hK v zs hat hoi hzl hback
/-- 'm[k] = v' by the way back, as a step of a region that draws -/
theorem step_mapUpdate_back {H : Type} {P : Program} {w : World} {ops : Array Oper} {o : Oper} {a : Act} {K : Act → World → Prop} {Q : Exit → Act → World → Prop} {X : Prop}
    (hg : o.guard = none) (m x v : Operand) (t : TypeId) (hop : o.op = Op.mapUpdate t m x v)
    {w0 : World} {k : TypeId} {base : Nat} {e : TypeId} {q : IntKind} {b n : Nat} {D : DataW H} {key : Value} {kl : Lit} {u v' : Value} {zs' : List Int}
    (hback : w0.groupBack P t k base e q b n D key kl u) (hm : a.eval m = .map (some b)) (hx : a.eval x = key) (hv : a.eval v = v')
    (hgr : w0.grownBy w u.ownBlock) (hown' : w.ownsInts base e q v' zs') (hl' : zs'.length ≤ n + 1) (hloc : v'.ownBlock = u.ownBlock ∨ ∃ g, v'.ownBlock = some g ∧ w0.heap.size ≤ g)
    (hK : ∀ w2, w2.ownsGroups P k base e q b (n + 1) (D.put kl (rowDatum q v' zs')) → w.grownBy w2 (some b) → K (a.put o.dst undef) w2) :
    if Region.wanted o (yielded ops a.tmps) = true then Oper.wp P o a w K Q else X := by
  have hw : Region.wanted o (yielded ops a.tmps) = true := by simp [Region.wanted, hg]
  rw [if_pos hw]
  obtain ⟨w2, hrun, r1, r2⟩ := hback w v' zs' hgr hown' hl' hloc
  unfold Oper.wp
  simp [execOp, hop, hm, hx, hv, hrun, Result.andThen]
  exact hK w2 r1 r2
end
section
open Go.RowKit Go.Maps
/-- append, as a step of a region that draws -/
theorem step_append_at {P : Program} {w : World} {ops : Array Oper} {o : Oper} {a : Act} {K : Act → World → Prop} {Q : Exit → Act → World → Prop} {X : Prop} (hgd : o.guard = none) (s x : Operand) (t : TypeId)
    (ho : o.op = .call { callee := .builtin .append, args := #[s, x], argTypes := #[t, t] })
    (base : Nat) (e : TypeId) (i : TypeInfo) (z : Value) (size bytes : Nat) (ht : P.underlying t = some (.slice e)) (hi : P.info? e = some i) (hz : i.zero = some z)
    (hsize : i.size = size) (hby : i.bytes = bytes) (hzs : z.cells.size = size) (hsz : 0 < size)
    (v : Value) (n : Nat) (xs : List Value) (hs : a.eval s = v) (hown : w.ownsRow base e size v n xs)
    (ad : Addr) (m c : Nat) (news : List Value) (hx : a.eval x = .slice (some ad) m c) (hl : news.length = m * size) (hnews : ∀ j u, news[j]? = some u → w.cell? (ad.add j) = some u) (h1 : ∀ u ∈ news, u.oneCell' = true)
    (h63 : n + m ≤ maxLen) (hbytes : (n + m) * bytes ≤ 140737488355328) (hbase : base ≤ w.heap.size)
    (h : ∀ v' w', w'.ownsRow base e size v' (n + m) (xs ++ news) → w.grownBy w' v.ownBlock → (v'.ownBlock = v.ownBlock ∨ v'.ownBlock = some w.heap.size) → K (a.put o.dst v') w') :
    if Region.wanted o (yielded ops a.tmps) = true then Oper.wp P o a w K Q else X := by
  have hw : Region.wanted o (yielded ops a.tmps) = true := by simp [Region.wanted, hgd]
  rw [if_pos hw]
  obtain ⟨v', w', hr, h2, h3, _, h5⟩ := run_append_own_at (P := P) w base t o.type e i z size bytes ht hi hz hsize hby hzs hsz v n xs hown ad m c news hl hnews h1 h63 hbytes hbase
  unfold Oper.wp execOp
  simp only [ho, resolve, invoke, builtin, Sem.run_bind, Sem.run_pure, Result.andThen_ok, List.map_toArray, List.map_cons, List.map_nil, hs, hx, hr]
  exact h v' w' h2 h3 h5

set_option maxRecDepth 100000 in
set_option maxHeartbeats 8000000 in
theorem rshort_any (s : ByteArray) (w : World) (hs : s.size < 2 ^ 30) :
    Calls Tryd.prog 21 #[.string s] w fun e w' => e = .returned (.string (bs (shortP s.data.toList))) ∧ Below w.heap.size w w' := by
  have hmm := @run_makeMap Tryd.prog
  obtain ⟨i0, hi, hz0, hz1, hz2⟩ := info_parts Tryd.info_int
  obtain ⟨i1, hj, hy0, hy1, hy2⟩ := info_parts Tryd.info_byte
  obtain ⟨tot, htot0⟩ : ∃ t, t = shortBits s.data.toList := ⟨_, rfl⟩
  have hlen : s.data.toList.length = s.size := rfl
  have htotl : tot.length < 2 ^ 36 := by
    have h := shortBits_length s.data.toList
    rw [htot0]
    omega
  have Htot0 := Lib.hid htot0
  have Hlen := Lib.hid hlen
  have Hi := Lib.hid hi
  have Hz0 := Lib.hid hz0
  have Hz1 := Lib.hid hz1
  have Hz2 := Lib.hid hz2
  have Hj := Lib.hid hj
  have Hy0 := Lib.hid hy0
  have Hy1 := Lib.hid hy1
  have Hy2 := Lib.hid hy2
  clear htot0 hlen hi hz0 hz1 hz2 hj hy0 hy1 hy2
  go_enter Tryd.func21, Tryd.ntmps21
  go_wp2_with (go_at_call 29; refine (rfixl_any _).mono ?_; rintro e w1 ⟨v, rfl, hrow, hb1⟩
               obtain ⟨g1, cap1, rfl, hg1, hI1⟩ := ints_of_row hrow fixL_len' (by decide)
               have hz1 := hb1.size
               have HI1 := Lib.hid hI1
               have Hb1 := Lib.hid hb1
               clear hrow hI1 hb1)
  go_wp2_with (go_at_call 42; refine (rcodesL g1 cap1 _ HI1.out hg1).mono ?_; rintro e w2 ⟨rfl, hT2, hb2⟩
               have hz2 := hb2.size
               have HT2 := Lib.hid hT2
               have Hb2 := Lib.hid hb2
               clear hT2 hb2)
  go_wp2_with (go_at_call 30; refine (rfixd_any _).mono ?_; rintro e w3 ⟨v, rfl, hrow, hb3⟩
               obtain ⟨g3, cap3, rfl, hg3, hI3⟩ := ints_of_row hrow fixD_len' (by decide)
               have hz3 := hb3.size
               have HI3 := Lib.hid hI3
               have Hb3 := Lib.hid hb3
               clear hrow hI3 hb3)
  go_wp2_with (go_at_call 42; refine (rcodesD g3 cap3 _ HI3.out hg3).mono ?_; rintro e w4 ⟨rfl, hT4, hb4⟩
               have hz4 := hb4.size
               have HT4 := Lib.hid hT4
               have kc := Lib.run_convert_bytes_const (P := Tryd.prog) (w4.alloc (Obj.map #[] 0)) 39 5 #[Value.int .u8 49, Value.int .u8 49, Value.int .u8 48] 3 3 Tryd.underlying39 Tryd.underlying5
               simp only [World.size_alloc] at kc
               have Hb4 := Lib.hid hb4
               clear hT4 hb4)
  have hst0 : RShort w ((w4.alloc (Obj.map #[] 0)).alloc (Obj.cells #[Value.int .u8 49, Value.int .u8 49, Value.int .u8 48] 5 (3, 4))) s w.heap.size w1.heap.size w3.heap.size w4.heap.size (.slice (some ⟨w4.heap.size + 1, 0, none⟩) 3 3) 0 [true, true, false] := by
    have hT := HT2.out
    have g2 := hT.lt
    have g4 := HT4.out.lt
    have e1 : TextsAt w4 w1.heap.size 288 (codesF fixL) := (hT.below Hb3.out g2).below Hb4.out (by omega)
    have hm := World.ownsGroups_made (H := Nat) w4 Tryd.prog 9 3 .i64
    have hb : ∀ (W : World) (o : Obj), Below W.heap.size W (W.alloc o) := fun W o => (Below.refl _ _).alloc (Nat.le_refl _) o
    have hg : ∀ (W : World) (o : Obj), W.grownBy (W.alloc o) none := fun W o => World.grownBy_alloc W o none
    refine ⟨(e1.below (hb _ _) (by omega)).below (hb _ _) (by simp; omega), (HT4.out.below (hb _ _) g4).below (hb _ _) (by simp; omega), ?_, ⟨.map [], 0, hm.kept (hg _ _) (by simp) (fun _ _ _ x _ => by cases x.val.ownBlock <;> simp), Nat.le_refl _, PlacesD.start _⟩, ?_, ⟨by omega, by omega, by omega, g4, by simp only [World.size_alloc]; omega⟩⟩
    · have hn := World.alloc_heap_new (w4.alloc (Obj.map #[] 0)) (Obj.cells #[Value.int .u8 49, Value.int .u8 49, Value.int .u8 48] 5 (3, 4))
      simp only [World.size_alloc] at hn
      exact .inr ⟨w4.heap.size + 1, _, rfl, Nat.le_refl _, hn⟩
    · exact ((((Hb1.out.trans (Hb2.out.mono (by omega))).trans (Hb3.out.mono (by omega))).trans (Hb4.out.mono (by omega))).alloc (by omega) _).alloc (by simp; omega) _
  have Hst0 := Lib.hid hst0
  clear hst0 Hb1 Hb2 Hb3 Hb4 HT2 HT4 HI1 HI3
  go_wp2_with fail
  generalize hM : w4.heap.size = M at *
  generalize hD : w3.heap.size = DB at *
  generalize hL : w1.heap.size = LB at *
  generalize hB : w.heap.size = B at *
  generalize hw5 : ((w4.alloc (Obj.map #[] 0)).alloc (Obj.cells #[Value.int .u8 49, Value.int .u8 49, Value.int .u8 48] 5 (3, 4))) = w5 at *
  have HB := Lib.hid hB
  clear hM hD hL hB hw5 hmm kc hz1 hz2 hz3 hz4 hg1 hg3
  go_loopw [6, 7] (fun bv iv wr => ∃ (i f : Nat) (bits : List Bool), iv = .int .i64 (i : Int) ∧ i ≤ s.size ∧ s.size - i < f ∧ RShort w wr s B LB DB M bv i bits ∧ bits ++ rest s.data.toList f i = tot) (fun _ iv _ => s.size - (intOf iv).toNat)
  case atStart => exact ⟨0, s.size + 1, _, rfl, by omega, by omega, Hst0.out, Htot0.out.symm⟩
  case round =>
    obtain ⟨i, f, bits, rfl, hi, hf, hst, htt⟩ := hrel
    obtain ⟨f, rfl⟩ : ∃ g, f = g + 1 := ⟨f - 1, by omega⟩
    have hbl : bits.length < 2 ^ 37 := by
      have := congrArg List.length htt
      rw [List.length_append] at this
      omega
    rw [rest] at htt
    obtain ⟨bv, rfl⟩ : ∃ b : Value, b = u6 := ⟨_, rfl⟩
    have hMw := hst.ord.2.2.2.2
    have Hst := Lib.hid hst
    have Htt := Lib.hid htt
    clear hst htt
    by_cases hlt : (i : Int) < (s.size : Int)
    · go_upto_if 30 with fail
      go_cut [8, 9] (fun nv fv wx => ∃ (N F : Nat), nv = .int .i64 (N : Int) ∧ fv = .int .i64 (F : Int) ∧ best s.data.toList i = (N, F) ∧ RShort w wx s B LB DB M bv i bits)
      case first =>
        by_cases h3 : (i : Int) + 3 ≤ (s.size : Int)
        · obtain ⟨D, nD, hgr, hnD, hP⟩ := Hst.out.map
          have hkey : keyOf Tryd.prog 9 (.string (s.extract i (i + 3))) = some (.string (key3 s.data.toList i)) := by
            rw [WideMaps.keyOf_string_mk Tryd.underlying9 (by unfold maxLen; rw [ByteArray.size_extract]; omega), extract_key]
          have Hgr := Lib.hid hgr
          have HP := Lib.hid hP
          have Hkey := Lib.hid hkey
          clear hgr hP hkey
          obtain ⟨L, hL⟩ : ∃ L, L = chain s.data.toList (threeN s.data.toList i) i := ⟨_, rfl⟩
          have hbest : best s.data.toList i = scan s.data.toList i 64 L (0, 0) := by unfold best; rw [if_pos (by have := Hlen.out; omega), hL]
          have HL := Lib.hid hL
          have Hbest := Lib.hid hbest
          clear hL hbest
          by_cases hL0 : L = []
          · have HL0 := Lib.hid hL0
            clear hL0
            go_wp2_with (at_lookup; refine wpList_lookup_groups _ rfl _ _ 82 rfl 9 52 3 .i64 Tryd.keyed_str Tryd.underlying82 (Tryd.zero_ints _) (M + 1) M nD D rfl Hgr.out (by unfold maxLen; omega) _ _ rfl Hkey.out ?_; intro v zs hat hoi hzl hback
                         have hzs : zs = [] := (by
                           have e := HP.out i (by have := Hlen.out; omega)
                           rw [show min i (s.size - 2) = i by omega, hat, ints_items hoi] at e
                           have e2 := lits_inj e
                           unfold chainI at e2
                           rw [← HL.out, HL0.out] at e2
                           exact e2)
                         subst hzs
                         obtain ⟨p0, c0, rfl⟩ := ints_form0 hoi
                         clear hat hoi hback hzl)
            obtain ⟨wo, hwo⟩ : ∃ x : World, x = wr := ⟨_, rfl⟩
            subst hwo
            go_loopw [8, 9, 11] (fun nv fv kv wb => nv = .int .i64 0 ∧ fv = .int .i64 0 ∧ kv = .int .i64 (-1) ∧ wb = wo) (fun _ _ _ _ => 0)
            case atStart => exact ⟨rfl, rfl, rfl, rfl⟩
            case round =>
              obtain ⟨rfl, rfl, rfl, rfl⟩ := hrel
              go_wp2_with fail
              go_meet
              exact ⟨0, 0, rfl, rfl, by rw [Hbest.out, HL0.out]; rfl, Hst.out⟩
          · obtain ⟨n, hn⟩ : ∃ n, n = L.length := ⟨_, rfl⟩
            have hn0 : 0 < n := by rw [hn]; exact List.length_pos_iff.2 hL0
            have hni : n ≤ i := by rw [hn, HL.out]; exact chain_len _ _ _
            have Hn := Lib.hid hn
            clear hn hL0
            go_wp2_with (at_lookup; refine wpList_lookup_groups _ rfl _ _ 82 rfl 9 52 3 .i64 Tryd.keyed_str Tryd.underlying82 (Tryd.zero_ints _) (M + 1) M nD D rfl Hgr.out (by unfold maxLen; omega) _ _ rfl Hkey.out ?_; intro v zs hat hoi hzl hback
                         have hzs : zs = chainI s.data.toList (threeN s.data.toList i) i := (by
                           have e := HP.out i (by have := Hlen.out; omega)
                           rw [show min i (s.size - 2) = i by omega, hat, ints_items hoi] at e
                           exact lits_inj e)
                         have hzn : zs.length = n := (by rw [hzs, chainI_length, ← HL.out, Hn.out])
                         obtain ⟨g, c0, rfl, hcl⟩ := ints_form1 hoi (by omega)
                         rw [hzn] at *
                         have hcl2 : ∀ c, c < n → wr.cell? ⟨g, n - 1 - c, none⟩ = some (.int .i64 ((L.getD c 0 : Nat) : Int)) := (by
                           intro c hc
                           rw [hcl _ (by omega), hzs, Hn.out, HL.out, chainI_back _ _ _ _ (by rw [← HL.out, ← Hn.out]; exact hc)])
                         have Hcl := Lib.hid hcl2
                         clear hat hoi hback hzl hcl hcl2 hzs hzn)
            obtain ⟨wo, hwo⟩ : ∃ x : World, x = wr := ⟨_, rfl⟩
            subst hwo
            go_loopw [8, 9, 11] (fun nv fv kv wb => ∃ (N F c : Nat) (kz : Int), nv = .int .i64 (N : Int) ∧ fv = .int .i64 (F : Int) ∧ kv = .int .i64 kz ∧ kz = (n : Int) - 1 - (c : Int) ∧ c ≤ n ∧ c ≤ 64 ∧ scan s.data.toList i (64 - c) (L.drop c) (N, F) = best s.data.toList i ∧ Same wo wb) (fun _ _ kv _ => (intOf kv + 1).toNat)
            case atStart => exact ⟨0, 0, 0, (n : Int) - 1, rfl, rfl, rfl, by omega, by omega, by omega, Hbest.out.symm, Same.refl _⟩
            case round =>
              obtain ⟨N, F, c, kz, rfl, rfl, rfl, hkz, hcn, hc64, hscan, hsm⟩ := hrel
              have Hscan := Lib.hid hscan
              have Hsm := Lib.hid hsm
              clear hscan hsm
              by_cases hc : c < n
              · obtain ⟨kn, rfl⟩ : ∃ kn : Nat, kz = (kn : Int) := ⟨n - 1 - c, by omega⟩
                have hkn : kn = n - 1 - c := by omega
                by_cases hc6 : c < 64
                · obtain ⟨a, ha⟩ : ∃ a, a = L.getD c 0 := ⟨_, rfl⟩
                  have hai : a < i := by
                    rw [ha]
                    refine chain_lt s.data.toList (threeN s.data.toList i) i _ ?_
                    rw [← HL.out]
                    exact getD_mem (by rw [← Hn.out]; exact hc)
                  have hsc := Hscan.out
                  obtain ⟨k, hk⟩ : ∃ k, 64 - c = k + 1 := ⟨63 - c, by omega⟩
                  rw [hk, drop_getD (by rw [← Hn.out]; exact hc), scan, ← ha] at hsc
                  have hca : wr.cell? ⟨g, kn, none⟩ = some (.int .i64 (a : Int)) := by
                    have h := Hcl.out c hc
                    rw [← hkn, ← ha] at h
                    obtain ⟨n1, h1⟩ := Hsm.out
                    rw [h1]
                    exact h
                  have hk1 : (kn : Int) < (n : Int) := by omega
                  have hk2 : (n : Int) - 64 ≤ (kn : Int) := by omega
                  have hk3 : (0 : Int) ≤ (kn : Int) := by omega
                  have hk4 : kn < n := by omega
                  have Hk := Lib.hid hk
                  have Hkz := Lib.hid hkz
                  clear ha hk hkz hkn
                  by_cases hw : (i : Int) - (a : Int) ≤ 32768
                  · rw [if_pos (by omega)] at hsc
                    have hsame := fun W => rsame_any s a i W hai hi (by omega)
                    have Hsame := Lib.hid hsame
                    clear hsame
                    by_cases hgt : N < alikeN s.data.toList a i
                    · rw [if_pos hgt] at hsc
                      have Hsc := Lib.hid hsc
                      clear hsc
                      go_wp2_with (go_at_call 43; refine (Hsame.out _).mono ?_; rintro e w3 ⟨rfl, hs3⟩
                                   have hca3 : w3.cell? ⟨g, kn, none⟩ = some (.int .i64 (a : Int)) := (by obtain ⟨n1, h1⟩ := hs3; rw [h1]; exact hca)
                                   have hsm3 : Same wo w3 := (by obtain ⟨n1, h1⟩ := Hsm.out; obtain ⟨n2, h2⟩ := hs3; exact ⟨n1 + n2, by rw [h2, h1, World.drewN_drewN]⟩)
                                   have Hsm3 := Lib.hid hsm3
                                   clear hsm3 hs3)
                      go_roundw
                      case rel => exact ⟨alikeN s.data.toList a i, a, c + 1, (kn : Int) - 1, rfl, rfl, rfl, by have := Hkz.out; omega, by omega, by omega, by rw [show 64 - (c + 1) = k by have := Hk.out; omega]; exact Hsc.out, Hsm3.out⟩
                      case measure => simp [intOf] <;> omega
                    · rw [if_neg hgt] at hsc
                      have Hsc := Lib.hid hsc
                      clear hsc
                      go_wp2_with (go_at_call 43; refine (Hsame.out _).mono ?_; rintro e w3 ⟨rfl, hs3⟩
                                   have hsm3 : Same wo w3 := (by obtain ⟨n1, h1⟩ := Hsm.out; obtain ⟨n2, h2⟩ := hs3; exact ⟨n1 + n2, by rw [h2, h1, World.drewN_drewN]⟩)
                                   have Hsm3 := Lib.hid hsm3
                                   clear hsm3 hs3)
                      go_roundw
                      case rel => exact ⟨N, F, c + 1, (kn : Int) - 1, rfl, rfl, rfl, by have := Hkz.out; omega, by omega, by omega, by rw [show 64 - (c + 1) = k by have := Hk.out; omega]; exact Hsc.out, Hsm3.out⟩
                      case measure => simp [intOf] <;> omega
                  · rw [if_neg (by omega)] at hsc
                    have Hsc := Lib.hid hsc
                    clear hsc
                    have hd : decide ((i : Int) - (a : Int) ≤ 32768) = false := by simpa using hw
                    go_wp2_with fail
                    go_meet
                    exact ⟨N, F, rfl, rfl, Hsc.out.symm, Hst.out.same Hsm.out⟩
                · obtain rfl : c = 64 := by omega
                  have hd : decide ((n : Int) - 64 ≤ (kn : Int)) = false := decide_eq_false (by omega)
                  have hk3 : (0 : Int) ≤ (kn : Int) := by omega
                  clear hkz hkn
                  go_wp2_with fail
                  go_meet
                  refine ⟨N, F, rfl, rfl, ?_, Hst.out.same Hsm.out⟩
                  rw [← Hscan.out]
                  simp [scan]
              · obtain rfl : c = n := by omega
                obtain rfl : kz = -1 := by omega
                clear hkz
                go_wp2_with fail
                go_meet
                refine ⟨N, F, rfl, rfl, ?_, Hst.out.same Hsm.out⟩
                rw [← Hscan.out, Hn.out, List.drop_length]
                cases 64 - L.length <;> rfl
        · have hb : best s.data.toList i = (0, 0) := by unfold best; rw [if_neg (by have := Hlen.out; omega)]
          have Hb := Lib.hid hb
          clear hb
          go_wp2_with fail
          go_meet
          exact ⟨0, 0, rfl, rfl, Hb.out, Hst.out⟩
      case rest =>
        obtain ⟨N, F, rfl, rfl, hbest, hstc⟩ := hcut
        have hgood := best_good s.data.toList i
        rw [hbest] at hgood
        have htt := Htt.out
        rw [if_pos (by have := Hlen.out; omega), hbest] at htt
        have hMc := hstc.ord.2.2.2.2
        have Hstc := Lib.hid hstc
        have Hgood := Lib.hid hgood
        clear hstc hgood hbest
        go_upto_if 77 with fail
        go_cut [6, 13] (fun bv2 sv wx => ∃ (st : Nat) (bits2 : List Bool), sv = .int .i64 (st : Int) ∧ 1 ≤ st ∧ i + st ≤ s.size ∧ RShort w wx s B LB DB M bv2 i bits2 ∧ bits2 ++ rest s.data.toList f (i + st) = tot)
        case first =>
          by_cases hN0 : N = 0
          · subst hN0
            rw [if_pos rfl] at htt
            have Htt2 := Lib.hid htt
            clear htt
            have hli : i < s.size := by omega
            have hs8 := (s[i]'hli).toNat_lt
            obtain ⟨T, hT⟩ : ∃ T, T = litBits (s[i]'hli).toNat := ⟨_, rfl⟩
            obtain ⟨t, ht⟩ : ∃ t, t = bs (bitsT T) := ⟨_, rfl⟩
            have hTl := litBits_length (s[i]'hli).toNat
            rw [← hT] at hTl
            have hts : t.size = T.length := by rw [ht]; exact bitsT_length T
            have hc := (Hstc.out.lit.cell (s[i]'hli).toNat (by omega)).1
            rw [codesF_fixL _ (by omega), ← hT, ← ht] at hc
            have hb1 : ((s[i]'hli).toNat : Int) < 288 := by omega
            have hb2 : (s[i]'hli).toNat < 288 := by omega
            have htl : 0 < t.size ∧ t.size ≤ 9 := by omega
            have hxl : ((bitsT bits).map encB).length = bits.length := by rw [List.length_map, bitsT_length]
            obtain ⟨htl1, htl2⟩ := htl
            have HT := Lib.hid hT
            have Ht := Lib.hid ht
            have Hts := Lib.hid hts
            have Hxl := Lib.hid hxl
            clear hT ht hTl hts hxl
            go_wp2_with (at_builtin; refine wpList_append_ownB rfl _ _ rfl (M + 1) i1 Hj.out Hy0.out Hy1.out Hy2.out _ _ rfl Hstc.out.row t rfl htl1 (by rw [Hxl.out]; unfold maxLen; omega) (by rw [Hxl.out]; omega) (by omega) ?_; intro v4 w4 hown4 hgr4
                         have hst4 : RShort w w4 s B LB DB M v4 i (bits ++ T) := Hstc.out.wrote T (n := ((bitsT bits).map encB).length + t.size) (by rw [Hxl.out, Hts.out, List.length_append]) (by rw [Ht.out] at hown4 ⊢; exact hown4) hgr4
                         have Hst4 := Lib.hid hst4
                         clear hst4 hown4 hgr4)
            go_meet
            exact ⟨1, bits ++ T, rfl, Nat.le_refl _, by omega, Hst4.out, by rw [← Htt2.out, at8_eq hli, HT.out, List.append_assoc]⟩
          · rw [if_neg hN0] at htt
            have Htt2 := Lib.hid htt
            clear htt
            have hNn : (0 : Int) < (N : Int) := by omega
            obtain ⟨hN3, hN258, hNs, hFi, hFw⟩ : 3 ≤ N ∧ N ≤ 258 ∧ i + N ≤ s.data.toList.length ∧ F < i ∧ i - F ≤ 32768 := by
              rcases Hgood.out with h | ⟨h1, h2, h3, h4, h5, _⟩
              · exact absurd (congrArg Prod.fst h) hN0
              · exact ⟨h1, h2, h3, h4, h5⟩
            rw [Hlen.out] at hNs
            have hlb := fun W hW => rlenbits_any N LB (codesF fixL) W hN3 hN258 hW codesF_fixL
            have hdb := fun W hW => rdistbits_any (i - F) DB (codesF fixD) W (by omega) hFw hW codesF_fixD
            rw [show (((i - F : Nat)) : Int) = (i : Int) - (F : Int) from by omega] at hdb
            obtain ⟨T1, hT1⟩ : ∃ T, T = lenBits N := ⟨_, rfl⟩
            obtain ⟨T2, hT2⟩ : ∃ T, T = distBits (i - F) := ⟨_, rfl⟩
            rw [← hT1] at hlb
            rw [← hT2] at hdb
            obtain ⟨t1, ht1⟩ : ∃ t, t = bs (bitsT T1) := ⟨_, rfl⟩
            obtain ⟨t2, ht2⟩ : ∃ t, t = bs (bitsT T2) := ⟨_, rfl⟩
            rw [← ht1] at hlb
            rw [← ht2] at hdb
            have hts1 : t1.size = T1.length := by rw [ht1]; exact bitsT_length T1
            have hts2 : t2.size = T2.length := by rw [ht2]; exact bitsT_length T2
            have hl1 : 0 < t1.size ∧ t1.size ≤ 20 := by
              have h1 := litBits_length (257 + lenAt N)
              have h2 := lens_extra (lenAt N)
              rw [hts1, hT1, lenBits, List.length_append, low_length]; omega
            have hl2 : 0 < t2.size ∧ t2.size ≤ 20 := by
              have h2 := dist_extra (distAt (i - F))
              rw [hts2, hT2, distBits, List.length_append, low_length, high_length]; omega
            obtain ⟨l11, l12⟩ := hl1
            obtain ⟨l21, l22⟩ := hl2
            have hxl : ((bitsT bits).map encB).length = bits.length := by rw [List.length_map, bitsT_length]
            have hxl2 : ((bitsT (bits ++ T1)).map encB).length = bits.length + t1.size := by rw [List.length_map, bitsT_length, List.length_append, hts1]
            have Hlb := Lib.hid hlb
            have Hdb := Lib.hid hdb
            have HT1 := Lib.hid hT1
            have HT2 := Lib.hid hT2
            have Ht1 := Lib.hid ht1
            have Ht2 := Lib.hid ht2
            have Hts1 := Lib.hid hts1
            have Hts2 := Lib.hid hts2
            have Hxl := Lib.hid hxl
            have Hxl2 := Lib.hid hxl2
            clear hlb hdb hT1 hT2 ht1 ht2 hts1 hts2 hxl hxl2
            go_wp2_with (first
              | (go_at_call 44; refine (Hlb.out _ Hstc.out.lit).mono ?_; rintro e w3 ⟨rfl, hb3⟩
                 have hst3 := Hstc.out.later hb3
                 have hz3 := hst3.ord.2.2.2.2
                 have Hst3 := Lib.hid hst3
                 clear hst3 hb3)
              | (go_at_call 45; refine (Hdb.out _ Hst4.out.dis).mono ?_; rintro e w5 ⟨rfl, hb5⟩
                 have hst5 := Hst4.out.later hb5
                 have hz5 := hst5.ord.2.2.2.2
                 have Hst5 := Lib.hid hst5
                 clear hst5 hb5)
              | (at_builtin; refine wpList_append_ownB rfl _ _ rfl (M + 1) i1 Hj.out Hy0.out Hy1.out Hy2.out _ _ rfl Hst5.out.row t2 rfl l21 (by rw [Hxl2.out]; unfold maxLen; omega) (by rw [Hxl2.out]; omega) (by omega) ?_; intro v6 w6 hown6 hgr6
                 have hst6 : RShort w w6 s B LB DB M v6 i (bits ++ T1 ++ T2) := Hst5.out.wrote T2 (n := ((bitsT (bits ++ T1)).map encB).length + t2.size) (by rw [Hxl2.out, Hts2.out, Hts1.out, List.length_append, List.length_append]) (by rw [Ht2.out] at hown6 ⊢; exact hown6) hgr6
                 have Hst6 := Lib.hid hst6
                 clear hst6 hown6 hgr6)
              | (at_builtin; refine wpList_append_ownB rfl _ _ rfl (M + 1) i1 Hj.out Hy0.out Hy1.out Hy2.out _ _ rfl Hst3.out.row t1 rfl l11 (by rw [Hxl.out]; unfold maxLen; omega) (by rw [Hxl.out]; omega) (by omega) ?_; intro v4 w4 hown4 hgr4
                 have hst4 : RShort w w4 s B LB DB M v4 i (bits ++ T1) := Hst3.out.wrote T1 (n := ((bitsT bits).map encB).length + t1.size) (by rw [Hxl.out, Hts1.out, List.length_append]) (by rw [Ht1.out] at hown4 ⊢; exact hown4) hgr4
                 have Hst4 := Lib.hid hst4
                 clear hst4 hown4 hgr4))
            go_meet
            exact ⟨N, bits ++ T1 ++ T2, rfl, by omega, hNs, Hst6.out, by rw [← Htt2.out, HT1.out, HT2.out]; simp only [List.append_assoc]⟩
        case rest =>
          obtain ⟨st, bits2, rfl, hst1, hsts, hst2, htt2⟩ := hcut
          obtain ⟨bv2, rfl⟩ : ∃ b : Value, b = u6 := ⟨_, rfl⟩
          have Hst2 := Lib.hid hst2
          have Htt2 := Lib.hid htt2
          clear hst2 htt2 htt
          go_wp2_with fail
          go_loopw [7, 14] (fun iv cv wn => ∃ c p : Nat, iv = .int .i64 (p : Int) ∧ p = i + c ∧ cv = .int .i64 (c : Int) ∧ c ≤ st ∧ RShort w wn s B LB DB M bv2 p bits2) (fun _ cv _ => st - (intOf cv).toNat)
          case atStart => exact ⟨0, i, rfl, rfl, rfl, by omega, Hst2.out⟩
          case round =>
            obtain ⟨c, p, rfl, hp, rfl, hc, hstn⟩ := hrel
            by_cases hcs : (c : Int) < (st : Int)
            · have hps : p < s.size := by omega
              by_cases hp3 : (p : Int) + 3 ≤ (s.size : Int)
              · have hstd : RShort w wr.drew s B LB DB M bv2 p bits2 := hstn.same ⟨1, rfl⟩
                have hkey : keyOf Tryd.prog 9 (.string (s.extract p (p + 3))) = some (.string (key3 s.data.toList p)) := by
                  rw [WideMaps.keyOf_string_mk Tryd.underlying9 (by unfold maxLen; rw [ByteArray.size_extract]; omega), extract_key]
                have hMw2 := hstn.ord.2.2.2.2
                have Hstn := Lib.hid hstn
                have hstB := hstd.later ((Below.refl wr.drew.heap.size wr.drew).alloc (Nat.le_refl _) (.cells #[.int .i64 (p : Int)] 3))
                obtain ⟨DA, nDA, hgrA, hnA, hPA⟩ := hstd.map
                obtain ⟨DB', nDB, hgrB, hnB, hPB⟩ := hstB.map
                obtain ⟨vA, zsA, hrunA, hatA, hoiA, hzlA, hbackA⟩ := hgrA.at Tryd.keyed_str Tryd.underlying82 (Tryd.zero_ints _) (by unfold maxLen; omega) hkey
                obtain ⟨vB, zsB, hrunB, hatB, hoiB, hzlB, hbackB⟩ := hgrB.at Tryd.keyed_str Tryd.underlying82 (Tryd.zero_ints _) (by unfold maxLen; omega) hkey
                have hrunB2 : (Instr.lookup 82 (.map (some M)) (.string (s.extract p (p + 3))) false).run Tryd.prog (wr.alloc (.cells #[.int .i64 (p : Int)] 3)).drew = .ok vB (wr.alloc (.cells #[.int .i64 (p : Int)] 3)).drew := hrunB
                have hMw2 := hstn.ord.2.2.2.2
                have Hoi2A := Lib.hid (hoiA.alloc (.cells #[.int .i64 (p : Int)] 3))
                have Hoi2B := Lib.hid hoiB
                have HstA := Lib.hid hstd
                have HstB := Lib.hid hstB
                have HgrA := Lib.hid hgrA
                have HgrB := Lib.hid hgrB
                have HPA := Lib.hid hPA
                have HPB := Lib.hid hPB
                have HatA := Lib.hid hatA
                have HatB := Lib.hid hatB
                have HoiA := Lib.hid hoiA
                have HoiB := Lib.hid hoiB
                have HbackA := Lib.hid hbackA
                have HbackB := Lib.hid hbackB
                have Hp := Lib.hid hp
                clear hgrA hgrB hPA hPB hstB hatA hatB hoiA hoiB hbackA hbackB hstn hstd hkey hp
                have hw3 : IntKind.i64.wrap ((p : Int) + 3) = (p : Int) + 3 := IntWalk.i64_in _ (by omega)
                have hq1 : (0 : Int) ≤ (p : Int) + 3 := by omega
                have hq2 : (p : Int) ≤ (p : Int) + 3 := by omega
                have hq3 : ((p : Int) + 3).toNat = p + 3 := by omega
                go_wp2_with fail
                refine wp_region_any (by kernel_rfl) ?_
                change wpAny _ _ _ _ _ _ _ (World.drew _)
                refine wpAny_take (i := 0) (v := .map (some M)) rfl (by kernel_rfl) (by kernel_rfl) (by kernel_rfl) (fun _ _ _ h => h) (Or.inl ⟨by rfl, fun w => by go_simp⟩) ?_
                refine wpAny_take (i := 1) (v := .string s) rfl (by kernel_rfl) (by kernel_rfl) (by kernel_rfl) (fun _ _ _ h => h) (Or.inl ⟨by rfl, fun w => by go_simp⟩) ?_
                refine wpAny_take (i := 2) (v := .int .i64 (p : Int)) rfl (by kernel_rfl) (by kernel_rfl) (by kernel_rfl) (fun _ _ _ h => h) (Or.inl ⟨by rfl, fun w => by go_simp⟩) ?_
                refine wpAny_take (i := 3) (v := .int .i64 (p : Int)) rfl (by kernel_rfl) (by kernel_rfl) (by kernel_rfl) (fun _ _ _ h => h) (Or.inl ⟨by rfl, fun w => by go_simp⟩) ?_
                refine wpAny_take (i := 4) (v := .int .i64 ((p : Int) + 3)) rfl (by kernel_rfl) (by kernel_rfl) (by kernel_rfl) (fun _ _ _ h => h) (Or.inl ⟨by rfl, fun w => by go_simp⟩) ?_
                refine wpAny_take (i := 5) (v := .string (s.extract p (p + 3))) rfl (by kernel_rfl) (by kernel_rfl) (by kernel_rfl) (fun _ _ _ h => h) (Or.inl ⟨by rfl, fun w => by go_simp⟩) ?_
                refine wpAny_take (i := 6) (v := .map (some M)) rfl (by kernel_rfl) (by kernel_rfl) (by kernel_rfl) (fun _ _ _ h => h) (Or.inl ⟨by rfl, fun w => by go_simp⟩) ?_
                refine wpAny_take (i := 7) (v := .string s) rfl (by kernel_rfl) (by kernel_rfl) (by kernel_rfl) (fun _ _ _ h => h) (Or.inl ⟨by rfl, fun w => by go_simp⟩) ?_
                refine wpAny_take (i := 8) (v := .int .i64 (p : Int)) rfl (by kernel_rfl) (by kernel_rfl) (by kernel_rfl) (fun _ _ _ h => h) (Or.inl ⟨by rfl, fun w => by go_simp⟩) ?_
                refine wpAny_take (i := 9) (v := .int .i64 (p : Int)) rfl (by kernel_rfl) (by kernel_rfl) (by kernel_rfl) (fun _ _ _ h => h) (Or.inl ⟨by rfl, fun w => by go_simp⟩) ?_
                refine wpAny_take (i := 10) (v := .int .i64 ((p : Int) + 3)) rfl (by kernel_rfl) (by kernel_rfl) (by kernel_rfl) (fun _ _ _ h => h) (Or.inl ⟨by rfl, fun w => by go_simp⟩) ?_
                refine wpAny_take (i := 11) (v := .string (s.extract p (p + 3))) rfl (by kernel_rfl) (by kernel_rfl) (by kernel_rfl) (fun _ _ _ h => h) (Or.inl ⟨by rfl, fun w => by go_simp⟩) ?_
                refine wpAny_take (i := 13) (v := .int .i64 (p : Int)) rfl (by kernel_rfl) (by kernel_rfl) (by kernel_rfl) (fun _ _ _ h => h) (Or.inl ⟨by rfl, fun w => by go_simp⟩) ?_
                refine wpAny_ready (rs := [12, 14]) (by kernel_rfl) (by simp) ?_
                refine AllReady.cons rfl (fun J hJ => ?_) (AllReady.cons rfl (fun J hJ => ?_) AllReady.nil)
                · go_simp
                  refine hJ _ _ ?_
                  clear hJ J
                  refine wpAny_ready (rs := [14]) (by kernel_rfl) (by simp) ?_
                  refine AllReady.cons rfl (fun J hJ => ?_) AllReady.nil
                  go_simp
                  refine hJ _ _ ?_
                  clear hJ J
                  change wpAny _ _ _ _ _ _ _ (World.alloc (World.drew wr) (.cells #[.int .i64 (p : Int)] 3))
                  refine wpAny_ready (rs := [15]) (by kernel_rfl) (by simp) ?_
                  refine AllReady.cons (o := { dst := some 124, op := .call { callee := .builtin .append, args := #[.tmp 121, .tmp 123], argTypes := #[52, 52] }, type := 52, pos := _, after := _, guard := none }) rfl (fun J hJ => ?_) AllReady.nil
                  refine step_append_at rfl _ _ 52 rfl (M + 1) 3 i0 (.int .i64 0) 1 8 Tryd.underlying52 Hi.out Hz0.out Hz1.out Hz2.out rfl (by decide) vA zsA.length _ rfl Hoi2A.out.1 ⟨wr.heap.size, 0, none⟩ 1 1 [.int .i64 (p : Int)] rfl rfl (cell_one_new wr.drew _ _) (by simp [Value.oneCell']) (by unfold maxLen; omega) (by omega) (by simp only [World.size_alloc]; show M + 1 ≤ wr.heap.size + 1; omega) ?_
                  intro v' w1 hown' hgrow hloc
                  have hg1 := (World.grownBy_alloc wr.drew (.cells #[.int .i64 (p : Int)] 3) vA.ownBlock).trans hgrow
                  have hoi' := Hoi2A.out.appended hown' (WalkArith.wf_i64 (by omega))
                  go_simp
                  refine hJ _ _ ?_
                  clear hJ J
                  refine wpAny_ready (rs := [16]) (by kernel_rfl) (by simp) ?_
                  refine AllReady.cons (o := { dst := none, op := .mapUpdate 82 (.tmp 109) (.tmp 114) (.tmp 124), type := _, pos := _, after := _, guard := none }) rfl (fun J hJ => ?_) AllReady.nil
                  refine step_mapUpdate_back rfl _ _ _ 82 rfl HbackA.out rfl rfl rfl hg1 hoi' (by simp; omega) (hloc.imp id (fun h => ⟨_, h, by simp⟩)) ?_
                  intro w2 hown2 hgrow2
                  have hst2 := HstA.out.noted (by omega) HgrA.out hnA HPA.out HatA.out HoiA.out hg1 hoi' hown2 hgrow2
                  have Hst3 := Lib.hid hst2
                  clear hst2 hown2 hgrow2 hoi' hg1 hown' hgrow hloc
                  go_simp
                  refine hJ _ _ ?_
                  clear hJ J
                  refine wpAny_done (by kernel_rfl) ?_ _
                  go_wp2_with fail
                  go_roundw
                  case rel => exact ⟨c + 1, p + 1, by go_num, by have := Hp.out; omega, by go_num, by omega, Hst3.out⟩
                  case measure => simp [intOf]; omega
                · go_simp
                  refine hJ _ _ ?_
                  clear hJ J
                  refine wpAny_ready (rs := [12]) (by kernel_rfl) (by simp) ?_
                  refine AllReady.cons rfl (fun J hJ => ?_) AllReady.nil
                  go_simp
                  refine hJ _ _ ?_
                  clear hJ J
                  change wpAny _ _ _ _ _ _ _ (World.alloc (World.drew wr) (.cells #[.int .i64 (p : Int)] 3))
                  refine wpAny_ready (rs := [15]) (by kernel_rfl) (by simp) ?_
                  refine AllReady.cons (o := { dst := some 124, op := .call { callee := .builtin .append, args := #[.tmp 121, .tmp 123], argTypes := #[52, 52] }, type := 52, pos := _, after := _, guard := none }) rfl (fun J hJ => ?_) AllReady.nil
                  refine step_append_at rfl _ _ 52 rfl (M + 1) 3 i0 (.int .i64 0) 1 8 Tryd.underlying52 Hi.out Hz0.out Hz1.out Hz2.out rfl (by decide) vB zsB.length _ rfl Hoi2B.out.1 ⟨wr.heap.size, 0, none⟩ 1 1 [.int .i64 (p : Int)] rfl rfl (cell_one_new wr.drew _ _) (by simp [Value.oneCell']) (by unfold maxLen; omega) (by omega) (by simp only [World.size_alloc]; show M + 1 ≤ wr.heap.size + 1; omega) ?_
                  intro v' w1 hown' hgrow hloc
                  have hg1 := hgrow
                  have hoi' := Hoi2B.out.appended hown' (WalkArith.wf_i64 (by omega))
                  go_simp
                  refine hJ _ _ ?_
                  clear hJ J
                  refine wpAny_ready (rs := [16]) (by kernel_rfl) (by simp) ?_
                  refine AllReady.cons (o := { dst := none, op := .mapUpdate 82 (.tmp 109) (.tmp 114) (.tmp 124), type := _, pos := _, after := _, guard := none }) rfl (fun J hJ => ?_) AllReady.nil
                  refine step_mapUpdate_back rfl _ _ _ 82 rfl HbackB.out rfl rfl rfl hg1 hoi' (by simp; omega) (hloc.imp id (fun h => ⟨_, h, by simp⟩)) ?_
                  intro w2 hown2 hgrow2
                  have hst2 := HstB.out.noted (by omega) HgrB.out hnB HPB.out HatB.out HoiB.out hg1 hoi' hown2 hgrow2
                  have Hst3 := Lib.hid hst2
                  clear hst2 hown2 hgrow2 hoi' hg1 hown' hgrow hloc
                  go_simp
                  refine hJ _ _ ?_
                  clear hJ J
                  refine wpAny_done (by kernel_rfl) ?_ _
                  go_wp2_with fail
                  go_roundw
                  case rel => exact ⟨c + 1, p + 1, by go_num, by have := Hp.out; omega, by go_num, by omega, Hst3.out⟩
                  case measure => simp [intOf]; omega
              · have hstx := hstn.past (by omega)
                have Hstx := Lib.hid hstx
                have Hp := Lib.hid hp
                clear hstx hstn hp
                go_wp2_with fail
                go_roundw
                case rel => exact ⟨c + 1, p + 1, by go_num, by have := Hp.out; omega, by go_num, by omega, Hstx.out⟩
                case measure => simp [intOf]; omega
            · obtain rfl : c = st := by omega
              have Hstn := Lib.hid hstn
              have Hp := Lib.hid hp
              clear hstn hp
              go_wp2_with fail
              go_roundw
              case rel => exact ⟨p, f, bits2, rfl, by have := Hp.out; omega, by have := Hp.out; omega, Hstn.out, by rw [Hp.out]; exact Htt2.out⟩
              case measure => simp [intOf]; have := Hp.out; omega
    · have htt := Htt.out
      rw [if_neg (by have := Hlen.out; omega)] at htt
      obtain ⟨T, hT⟩ : ∃ T, T = litBits 256 := ⟨_, rfl⟩
      obtain ⟨t, ht⟩ : ∃ t, t = bs (bitsT T) := ⟨_, rfl⟩
      have hTl := litBits_length 256
      rw [← hT] at hTl htt
      have hts : t.size = T.length := by rw [ht]; exact bitsT_length T
      have hc := (Hst.out.lit.cell 256 (by omega)).1
      rw [codesF_fixL _ (by omega), ← hT, ← ht] at hc
      have htl : 0 < t.size ∧ t.size ≤ 9 := by omega
      have hxl : ((bitsT bits).map encB).length = bits.length := by rw [List.length_map, bitsT_length]
      have hpos : 0 < tot.length := by rw [← htt, List.length_append]; omega
      obtain ⟨htl1, htl2⟩ := htl
      have HT := Lib.hid hT
      have Ht := Lib.hid ht
      have Hts := Lib.hid hts
      have Hxl := Lib.hid hxl
      have Htt2 := Lib.hid htt
      clear hT ht hTl hts hxl htt
      go_wp2_with (first
        | (at_builtin; refine wpList_append_ownB rfl _ _ rfl (M + 1) i1 Hj.out Hy0.out Hy1.out Hy2.out _ _ rfl Hst.out.row t rfl htl1 (by rw [Hxl.out]; unfold maxLen; omega) (by rw [Hxl.out]; omega) (by omega) ?_; intro v4 w4 hown4 hgr4
           have hst4 : RShort w w4 s B LB DB M v4 i (bits ++ T) := Hst.out.wrote T (n := ((bitsT bits).map encB).length + t.size) (by rw [Hxl.out, Hts.out, List.length_append]) (by rw [Ht.out] at hown4 ⊢; exact hown4) hgr4
           have hrow : w4.ownsRow (M + 1) 5 1 v4 tot.length ((bitsT tot).map encB) := (by
             rw [← Htt2.out, bitsT_append, List.map_append, List.length_append, ← Hts.out]
             rw [Hxl.out] at hown4
             rw [Ht.out] at hown4 ⊢
             exact hown4)
           obtain ⟨g, cap, rfl, hg, hcells⟩ := bits_of_row hrow rfl hpos
           have hpk := rpacked_any g cap tot w4 hcells hg (by omega)
           have hb4 := hst4.below
           have Hpk := Lib.hid hpk
           have Hb4 := Lib.hid hb4
           clear hst4 hown4 hgr4 hrow hcells hpk hb4)
        | (go_at_call 46; refine (Hpk.out).mono ?_; rintro e w5 ⟨rfl, hb5⟩
           have hq := Hb4.out.trans (hb5.mono (by have := Hb4.out.size; have := HB.out; omega))
           have Hq := Lib.hid hq
           clear hq hb5))
      go_ret
      rw [HB.out]
      exact ⟨ret_str (by rw [shortP, ← Htot0.out]), Hq.out⟩
end
end Go.Proofs.YtjielagabnkimaaDoor
