/- Plain facts: the sum of a text, byte by byte out of a table and bit by bit. -/
namespace Go.Proofs.YtjielagabnkimaaDoor

/-- one bit of the sum -/
def crcStep (x : BitVec 32) : BitVec 32 := (x >>> 1) ^^^ (if x.getLsbD 0 then 0xedb88320#32 else 0#32)
def crcSteps : Nat → BitVec 32 → BitVec 32
  | 0, x => x
  | n + 1, x => crcSteps n (crcStep x)
theorem crcStep_xor (a b : BitVec 32) : crcStep (a ^^^ b) = crcStep a ^^^ crcStep b := by
  unfold crcStep
  rw [BitVec.getLsbD_xor, BitVec.ushiftRight_xor_distrib]
  apply BitVec.eq_of_getLsbD_eq
  intro i _
  cases a.getLsbD 0 <;> cases b.getLsbD 0 <;> simp only [BitVec.getLsbD_xor, Bool.xor_false, Bool.false_xor, Bool.true_xor, Bool.not_true, if_true, if_false, Bool.false_eq_true, BitVec.getLsbD_zero] <;>
    cases (a >>> 1).getLsbD i <;> cases (b >>> 1).getLsbD i <;> cases (0xedb88320#32).getLsbD i <;> rfl
theorem crcSteps_xor : ∀ (n : Nat) (a b : BitVec 32), crcSteps n (a ^^^ b) = crcSteps n a ^^^ crcSteps n b
  | 0, _, _ => rfl
  | n + 1, a, b => by rw [crcSteps, crcStep_xor, crcSteps_xor n]; rfl
theorem crcSteps_high : ∀ (n : Nat) (x : BitVec 32), (∀ i, i < n → x.getLsbD i = false) → crcSteps n x = x >>> n
  | 0, x, _ => by simp [crcSteps]
  | n + 1, x, h => by
    have h0 : crcStep x = x >>> 1 := by unfold crcStep; rw [h 0 (by omega)]; simp
    rw [crcSteps, h0, crcSteps_high n (x >>> 1) (fun i hi => by rw [BitVec.getLsbD_ushiftRight]; exact h (1 + i) (by omega)), ← BitVec.shiftRight_add, Nat.add_comm]
theorem crc_parts (x : BitVec 32) : x = ((x >>> 8) <<< 8) ^^^ (x &&& 0xff#32) := by
  apply BitVec.eq_of_getLsbD_eq
  intro i hi
  rw [BitVec.getLsbD_xor, BitVec.getLsbD_shiftLeft, BitVec.getLsbD_ushiftRight, BitVec.getLsbD_and]
  by_cases h : i < 8
  · have hm : (0xff#32).getLsbD i = true := by
      have : i = 0 ∨ i = 1 ∨ i = 2 ∨ i = 3 ∨ i = 4 ∨ i = 5 ∨ i = 6 ∨ i = 7 := by omega
      rcases this with rfl | rfl | rfl | rfl | rfl | rfl | rfl | rfl <;> decide
    simp [h, hm]
  · have hm : (0xff#32).getLsbD i = false := by
      rw [BitVec.getLsbD_ofNat]
      have : Nat.testBit 255 i = false := Nat.testBit_lt_two_pow (Nat.lt_of_lt_of_le (by decide : 255 < 2 ^ 8) (Nat.pow_le_pow_right (by decide) (by omega)))
      simp [this]
    rw [hm, show 8 + (i - 8) = i by omega]
    simp [h, hi]
/-- what the table is for -/
theorem crc_byte (x : BitVec 32) : crcSteps 8 x = (x >>> 8) ^^^ crcSteps 8 (x &&& 0xff#32) := by
  have h := crcSteps_xor 8 ((x >>> 8) <<< 8) (x &&& 0xff#32)
  rw [← crc_parts x] at h
  rw [h, crcSteps_high 8 ((x >>> 8) <<< 8) (fun i hi => by simp [BitVec.getLsbD_shiftLeft, hi])]
  congr 1
  apply BitVec.eq_of_getLsbD_eq
  intro i hi
  simp only [BitVec.getLsbD_ushiftRight, BitVec.getLsbD_shiftLeft]
  by_cases h8 : 8 + i < 32
  · simp [h8]
  · simp [h8]
    exact BitVec.getLsbD_of_ge x (8 + i) (by omega)
end Go.Proofs.YtjielagabnkimaaDoor
