/- flate.Crc: the sum of every text. -/
import Derived.Test.YtjielagabnkimaaDoorFSmall
import Derived.Test.YtjielagabnkimaaDoorFKeep
import Derived.Test.YtjielagabnkimaaDoorCrcPlain
set_option linter.unusedSimpArgs false
set_option linter.unusedVariables false
namespace Go.Proofs.YtjielagabnkimaaDoor
open Go.RowKit
def cstep (x : Nat) : Nat := (x / 2) ^^^ (if x % 2 = 1 then 3988292384 else 0)
def csteps : Nat → Nat → Nat
  | 0, x => x
  | n + 1, x => csteps n (cstep x)
theorem csteps_succ (n x : Nat) : csteps (n + 1) x = cstep (csteps n x) := by
  induction n generalizing x with
  | zero => rfl
  | succ n ih => rw [csteps, ih]; rfl
theorem crcStep_nat (x : BitVec 32) : (crcStep x).toNat = cstep x.toNat := by
  unfold crcStep cstep
  rw [BitVec.toNat_xor, BitVec.toNat_ushiftRight, Nat.shiftRight_eq_div_pow]
  have h : x.getLsbD 0 = decide (x.toNat % 2 = 1) := by
    rw [BitVec.getLsbD, Nat.testBit_zero]
  rw [h]
  by_cases h1 : x.toNat % 2 = 1
  · simp [h1]
  · simp [h1]
theorem crcSteps_nat : ∀ (n : Nat) (x : BitVec 32), (crcSteps n x).toNat = csteps n x.toNat
  | 0, _ => rfl
  | n + 1, x => by rw [crcSteps, crcSteps_nat n, crcStep_nat]; rfl
theorem cstep_lt {x : Nat} (h : x < 4294967296) : cstep x < 4294967296 := by
  have := crcStep_nat (BitVec.ofNat 32 x)
  rw [BitVec.toNat_ofNat, Nat.mod_eq_of_lt h] at this
  rw [← this]
  exact (crcStep (BitVec.ofNat 32 x)).isLt
theorem csteps_lt {x : Nat} (h : x < 4294967296) : ∀ n, csteps n x < 4294967296
  | 0 => h
  | n + 1 => by rw [csteps_succ]; exact cstep_lt (csteps_lt h n)
/-- a byte more -/
def crcNext (r b : Nat) : Nat := csteps 8 (r ^^^ b)
theorem crcNext_tab (r b : Nat) (hr : r < 4294967296) (hb : b < 256) : crcNext r b = (r / 256) ^^^ csteps 8 ((r % 256) ^^^ b) := by
  have hx : r ^^^ b < 2 ^ 32 := Nat.xor_lt_two_pow (by omega) (by omega)
  have h := congrArg BitVec.toNat (crc_byte (BitVec.ofNat 32 (r ^^^ b)))
  rw [crcSteps_nat, BitVec.toNat_ofNat, Nat.mod_eq_of_lt hx, BitVec.toNat_xor, crcSteps_nat, BitVec.toNat_ushiftRight, BitVec.toNat_and, BitVec.toNat_ofNat, Nat.mod_eq_of_lt hx, Nat.shiftRight_eq_div_pow] at h
  unfold crcNext
  rw [h]
  have e1 : (r ^^^ b) / 2 ^ 8 = r / 256 := by
    apply Nat.eq_of_testBit_eq
    intro i
    rw [Nat.testBit_div_two_pow, Nat.testBit_xor, show (256 : Nat) = 2 ^ 8 from rfl, Nat.testBit_div_two_pow, Nat.testBit_lt_two_pow (show b < 2 ^ (i + 8) from Nat.lt_of_lt_of_le (show b < 2 ^ 8 from hb) (Nat.pow_le_pow_right (by decide) (by omega)))]
    simp
  have e2 : (r ^^^ b) &&& (0xff#32).toNat = (r % 256) ^^^ b := by
    rw [show (0xff#32).toNat = 2 ^ 8 - 1 from rfl, Nat.and_two_pow_sub_one_eq_mod, show (256 : Nat) = 2 ^ 8 from rfl, Nat.xor_mod_two_pow, Nat.mod_eq_of_lt (show b < 2 ^ 8 from hb)]
  rw [e1, e2]
theorem crcNext_lt {r b : Nat} (hr : r < 4294967296) (hb : b < 256) : crcNext r b < 4294967296 :=
  csteps_lt (Nat.xor_lt_two_pow (n := 32) (by omega) (by omega)) 8
def crcFrom (r : Nat) (l : List UInt8) : Nat := l.foldl (fun r b => crcNext r b.toNat) r
def crcP (l : List UInt8) : Nat := 4294967295 - crcFrom 4294967295 l
theorem crcFrom_lt {r : Nat} (h : r < 4294967296) : ∀ l : List UInt8, crcFrom r l < 4294967296 := by
  intro l
  induction l generalizing r with
  | nil => exact h
  | cons b l ih => exact ih (crcNext_lt h b.toNat_lt)
/-- one bit, as the code has it -/
theorem cstep_bits (x : Nat) (hx : x < 4294967296) : bits .xor .u32 ((x : Int) / 2) (bits .and .u32 (-(bits .and .u32 (x : Int) 1) % 4294967296) 3988292384) = ((cstep x : Nat) : Int) := by
  rw [show (1 : Int) = ((1 : Nat) : Int) from rfl, u32_and_nat x 1 hx (by decide), and_one]
  unfold cstep
  rw [show (x : Int) / 2 = ((x / 2 : Nat) : Int) from by omega]
  by_cases h : x % 2 = 1
  · rw [if_pos h, h]
    rw [show bits .and .u32 (-((1 : Nat) : Int) % 4294967296) 3988292384 = ((3988292384 : Nat) : Int) from by decide]
    exact u32_xor_nat _ _ (by omega) (by decide)
  · rw [if_neg h, show x % 2 = 0 by omega]
    rw [show bits .and .u32 (-((0 : Nat) : Int) % 4294967296) 3988292384 = ((0 : Nat) : Int) from by decide]
    exact u32_xor_nat _ _ (by omega) (by decide)

theorem Tryd.zeros_sums : Tryd.zeroCells42.size = 256 := by kernel_rfl
/-- the table, up to place i -/
def Sums (w : World) (A i : Nat) : Prop := ∃ cur, w.heap[A]? = some (.cells cur 42 (0, 0)) ∧ cur.size = 256 ∧ ∀ j, j < i → cur[j]? = some (.int .u32 ((csteps 8 j : Nat) : Int))

set_option maxRecDepth 100000 in
set_option maxHeartbeats 8000000 in
theorem crc_any (s : ByteArray) (w : World) (hs : s.size < 2 ^ 40) :
    Calls Tryd.prog 11 #[.string s] w fun e w' => e = .returned (.int .u32 ((crcP s.data.toList : Nat) : Int)) ∧ Below w.heap.size w w' := by
  go_enter Tryd.func11, Tryd.ntmps11
  go_wp2_with fail
  have hS0 : Sums (w.alloc (Obj.cells Tryd.zeroCells42 42)) w.heap.size 0 := ⟨_, World.alloc_heap_new w _, Tryd.zeros_sums, fun j hj => by omega⟩
  have hB0 : Below w.heap.size w (w.alloc (Obj.cells Tryd.zeroCells42 42)) := (Below.refl _ _).alloc (Nat.le_refl _) _
  obtain ⟨A, hA⟩ : ∃ A, A = w.heap.size := ⟨_, rfl⟩
  rw [← hA] at hS0 hB0 ⊢
  have HS0 := Lib.hid hS0
  have HB0 := Lib.hid hB0
  have HA := Lib.hid hA
  clear hS0 hB0 hA
  generalize w.alloc (Obj.cells Tryd.zeroCells42 42) = w0 at *
  go_loopw [8] (fun iv wr => ∃ i : Nat, iv = .int .i64 (i : Int) ∧ i ≤ 256 ∧ Sums wr A i ∧ Below A w wr) (fun iv _ => 256 - (intOf iv).toNat)
  case atStart => exact ⟨0, rfl, by omega, HS0.out, HB0.out⟩
  case round =>
    obtain ⟨i, rfl, hi, hS, hB⟩ := hrel
    obtain ⟨cur, hc, hsz, hcur⟩ := hS
    have HB := Lib.hid hB
    clear hB
    by_cases hlt : (i : Int) < 256
    · have c1 : wr.cell? ⟨A, i, none⟩ = some (cur[i]'(by omega)) := by rw [cell_of_row wr A i cur _ _ hc]; exact Array.getElem?_eq_getElem (by omega)
      have c2 := frozen_of_row wr A i cur _ hc
      generalize hold : cur[i]'(by omega) = old at c1
      have Hc := Lib.hid hc
      have Hsz := Lib.hid hsz
      have Hcur := Lib.hid hcur
      clear hc hsz hcur hold
      go_wp2_with fail
      go_loop [5, 13] (fun xv kv => ∃ k : Nat, kv = .int .i64 (k : Int) ∧ k ≤ 8 ∧ xv = .int .u32 ((csteps k i : Nat) : Int)) (fun _ kv => 8 - (intOf kv).toNat)
      case atStart => exact ⟨0, rfl, by omega, by go_num⟩
      case round =>
        obtain ⟨k, rfl, hk, rfl⟩ := hrel
        have hx := csteps_lt (show i < 4294967296 by omega) k
        generalize hX : csteps k i = x at *
        have HX := Lib.hid hX
        clear hX
        by_cases hk8 : (k : Int) < 8
        · go_wp2_with fail
          go_round
          case rel => exact ⟨k + 1, by go_num, by omega, by rw [cstep_bits x hx, csteps_succ, HX.out]⟩
          case measure => simp [intOf]; omega
        · obtain rfl : k = 8 := by omega
          go_wp2_with fail
          go_roundw
          case rel =>
            refine ⟨i + 1, by go_num, by omega, ⟨_, heap_setCell_same wr A i cur _ _ Hc.out, by rw [Array.size_setIfInBounds]; exact Hsz.out, fun j hj => ?_⟩, HB.out.setCell (p := ⟨A, i, none⟩) (Nat.le_refl _) _⟩
            by_cases hji : j = i
            · subst hji
              rw [Array.getElem?_setIfInBounds_self_of_lt (by rw [Hsz.out]; omega), HX.out]
            · rw [Array.getElem?_setIfInBounds_ne (fun e => hji e.symm)]
              exact Hcur.out j (by omega)
          case measure => simp [intOf]; omega
    · obtain rfl : i = 256 := by omega
      have htab : ∀ x : Nat, x < 256 → wr.cell? ⟨A, x, none⟩ = some (.int .u32 ((csteps 8 x : Nat) : Int)) := fun x hx => by rw [cell_of_row wr A x cur _ _ hc]; exact hcur x hx
      have Htab := Lib.hid htab
      clear htab hc hsz hcur
      go_wp2_with fail
      go_loop [6, 29] (fun rv kv => ∃ (k r : Nat), kv = .int .i64 (k : Int) ∧ k ≤ s.size ∧ rv = .int .u32 (r : Int) ∧ r < 4294967296 ∧ crcFrom r (s.data.toList.drop k) = crcFrom 4294967295 s.data.toList) (fun _ kv => s.size - (intOf kv).toNat)
      case atStart => exact ⟨0, 4294967295, rfl, by omega, rfl, by decide, rfl⟩
      case round =>
        obtain ⟨k, r, rfl, hk, rfl, hr, he⟩ := hrel
        have He := Lib.hid he
        clear he
        by_cases hkl : (k : Int) < (s.size : Int)
        · have hkn : k < s.size := by omega
          have hb8 := (s[k]'hkn).toNat_lt
          obtain ⟨x, hx⟩ : ∃ x, x = (r % 256) ^^^ (s[k]'hkn).toNat := ⟨_, rfl⟩
          have hx8 : x < 256 := by rw [hx]; exact Nat.xor_lt_two_pow (n := 8) (by omega) (by omega)
          have hbx : bits .xor .u8 ((r : Int) % 256) ((s[k]'hkn).toNat : Int) = (x : Int) := by rw [show (r : Int) % 256 = ((r % 256 : Nat) : Int) from by omega, u8_xor_nat _ _ (by omega) (by omega), hx]
          have cx := Htab.out x hx8
          have hxz : (x : Int) < 256 := by omega
          have Hx := Lib.hid hx
          clear hx
          go_wp2_with fail
          go_round
          case rel =>
            refine ⟨k + 1, crcNext r (s[k]'hkn).toNat, by go_num, by omega, ?_, crcNext_lt hr hb8, ?_⟩
            · congr 1
              rw [crcNext_tab r _ hr hb8, ← Hx.out, show (r : Int) / 256 = ((r / 256 : Nat) : Int) from by omega]
              exact u32_xor_nat _ _ (by omega) (csteps_lt (by omega) 8)
            · rw [← He.out, drop_cons (show k < s.data.toList.length from hkn)]
              rfl
          case measure => simp [intOf]; omega
        · obtain rfl : k = s.size := by omega
          have he := He.out
          rw [show s.data.toList.drop s.size = [] from List.drop_of_length_le (Nat.le_refl _)] at he
          have He2 := Lib.hid he
          clear he
          go_wp2_with fail
          go_ret
          refine ⟨ret_num ?_, by rw [← HA.out]; exact HB.out⟩
          have h1 : r = crcFrom 4294967295 s.data.toList := He2.out
          unfold crcP
          rw [← h1, show IntKind.u32.max = ((4294967295 : Nat) : Int) from rfl, u32_xor_nat _ _ (by decide) hr]
          congr 1
          have h2 := BitVec.toNat_not (x := BitVec.ofNat 32 r)
          rw [← BitVec.allOnes_xor, BitVec.toNat_xor, BitVec.toNat_ofNat, Nat.mod_eq_of_lt hr] at h2
          exact h2
end Go.Proofs.YtjielagabnkimaaDoor
