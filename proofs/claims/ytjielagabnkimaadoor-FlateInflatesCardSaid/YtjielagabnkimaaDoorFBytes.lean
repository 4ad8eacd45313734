/- Plain facts: rows of bits as bytes. -/
import Derived.Test.YtjielagabnkimaaDoorFBits
namespace Go.Proofs.YtjielagabnkimaaDoor
def byteBits (b : UInt8) : List Bool := low b.toNat 8
def bitsOf (l : List UInt8) : List Bool := l.flatMap byteBits
def pack : Nat → List Bool → List UInt8
  | 0, _ => []
  | n + 1, l => UInt8.ofNat (num (l.take 8)) :: pack n (l.drop 8)
/-- bits as bytes -/
def packed (l : List Bool) : List UInt8 := pack ((l.length + 7) / 8) l
theorem byteBits_length (b : UInt8) : (byteBits b).length = 8 := low_length _ _
theorem bitsOf_length (l : List UInt8) : (bitsOf l).length = 8 * l.length := by
  induction l with
  | nil => rfl
  | cons a l ih => rw [bitsOf, List.flatMap_cons, List.length_append, byteBits_length, List.length_cons]; unfold bitsOf at ih; omega
theorem bitsOf_append (a b : List UInt8) : bitsOf (a ++ b) = bitsOf a ++ bitsOf b := by simp [bitsOf]
theorem bitsOf_cons (a : UInt8) (b : List UInt8) : bitsOf (a :: b) = byteBits a ++ bitsOf b := by simp [bitsOf]
theorem ofNat_num_byteBits (b : UInt8) : UInt8.ofNat (num (byteBits b)) = b := by
  rw [byteBits, num_low, Nat.mod_eq_of_lt (by have := b.toNat_lt; omega)]
  simp
theorem byteBits_ofNat (l : List Bool) (h : l.length = 8) : byteBits (UInt8.ofNat (num l)) = l := by
  have h2 := num_lt l
  rw [h] at h2
  have : (UInt8.ofNat (num l)).toNat = num l := by rw [UInt8.toNat_ofNat']; exact Nat.mod_eq_of_lt h2
  rw [byteBits, this]
  have := low_num l
  rwa [h] at this
theorem pack_length (n : Nat) (l : List Bool) : (pack n l).length = n := by
  induction n generalizing l with
  | zero => rfl
  | succ n ih => simp [pack, ih]
theorem packed_length (l : List Bool) : (packed l).length = (l.length + 7) / 8 := pack_length _ _
theorem num_zeros (n : Nat) : num (List.replicate n false) = 0 := by
  induction n with
  | zero => rfl
  | succ n ih => simp [List.replicate_succ, num, ih]
theorem num_pad (l : List Bool) (n : Nat) : num (l ++ List.replicate n false) = num l := by rw [num_append, num_zeros]; simp
/-- what the bytes of a row of bits are: told by the bytes alone -/
theorem pack_bitsOf : ∀ (o : List UInt8) (r : List Bool), pack o.length (bitsOf o ++ r) = o
  | [], _ => rfl
  | b :: o, r => by
    rw [List.length_cons, pack, bitsOf_cons, List.append_assoc, List.take_left' (byteBits_length b), List.drop_left' (byteBits_length b), ofNat_num_byteBits, pack_bitsOf o r]
theorem pack_pad : ∀ (n : Nat) (l : List Bool) (k : Nat), pack n (l ++ List.replicate k false) = pack n l
  | 0, _, _ => rfl
  | n + 1, l, k => by
    rw [pack, pack, List.take_append, List.drop_append, List.take_replicate, List.drop_replicate, num_pad, pack_pad n]
/-- bits with noughts behind them, up to whole bytes -/
theorem packed_of (l r : List Bool) (o : List UInt8) (k : Nat) (h : l ++ List.replicate k false = bitsOf o ++ r) (ho : o.length = (l.length + 7) / 8) : o = packed l := by
  rw [packed, ← ho, ← pack_pad _ l k, h, pack_bitsOf]
theorem bitsOf_pack : ∀ (n : Nat) (l : List Bool), l.length ≤ 8 * n → bitsOf (pack n l) = l ++ List.replicate (8 * n - l.length) false
  | 0, l, h => by
    have : l = [] := List.length_eq_zero_iff.1 (by omega)
    subst this; rfl
  | n + 1, l, h => by
    rw [pack, bitsOf_cons]
    by_cases h8 : 8 ≤ l.length
    · rw [byteBits_ofNat _ (by rw [List.length_take]; omega), bitsOf_pack n (l.drop 8) (by rw [List.length_drop]; omega), ← List.append_assoc, List.take_append_drop, List.length_drop]
      congr 2
      omega
    · have hd : l.drop 8 = [] := List.drop_eq_nil_of_le (by omega)
      have ht : l.take 8 = l := List.take_of_length_le (by omega)
      have hz := bitsOf_pack n [] (by simp)
      rw [hd, ht, hz, ← num_pad l (8 - l.length), byteBits_ofNat _ (by simp; omega), List.append_assoc, List.nil_append, List.replicate_append_replicate]
      congr 2
      simp; omega
theorem bitsOf_packed (l : List Bool) : bitsOf (packed l) = l ++ List.replicate (8 * ((l.length + 7) / 8) - l.length) false := bitsOf_pack _ _ (by omega)
end Go.Proofs.YtjielagabnkimaaDoor
