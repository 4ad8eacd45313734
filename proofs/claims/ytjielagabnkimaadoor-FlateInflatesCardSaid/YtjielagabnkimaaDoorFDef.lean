/- What is compressed, as a function of the text. -/
import Derived.Test.YtjielagabnkimaaDoorFBytes
namespace Go.Proofs.YtjielagabnkimaaDoor
/-- least and extra bits of the lengths and of the distances -/
def lensT : List (Nat × Nat) := [(3, 0), (4, 0), (5, 0), (6, 0), (7, 0), (8, 0), (9, 0), (10, 0), (11, 1), (13, 1), (15, 1), (17, 1), (19, 2), (23, 2), (27, 2),
  (31, 2), (35, 3), (43, 3), (51, 3), (59, 3), (67, 4), (83, 4), (99, 4), (115, 4), (131, 5), (163, 5), (195, 5), (227, 5), (258, 0)]
def distT : List (Nat × Nat) := [(1, 0), (2, 0), (3, 0), (4, 0), (5, 1), (7, 1), (9, 2), (13, 2), (17, 3), (25, 3), (33, 4), (49, 4), (65, 5), (97, 5), (129, 6),
  (193, 6), (257, 7), (385, 7), (513, 8), (769, 8), (1025, 9), (1537, 9), (2049, 10), (3073, 10), (4097, 11), (6145, 11), (8193, 12), (12289, 12), (16385, 13), (24577, 13)]
/-- the place of the last span that is not above n, of the first k -/
def lastN (t : List (Nat × Nat)) (n : Nat) : Nat → Nat
  | 0 => 0
  | k + 1 => if (t.getD k (0, 0)).1 ≤ n then k else lastN t n k
def lenAt (n : Nat) : Nat := lastN lensT n 29
def distAt (d : Nat) : Nat := lastN distT d 30
/-- the bits of a symbol of the fixed code -/
def litBits (x : Nat) : List Bool :=
  if x < 144 then high (48 + x) 8 else if x < 256 then high (400 + (x - 144)) 9 else if x < 280 then high (x - 256) 7 else high (192 + (x - 280)) 8
def lenBits (n : Nat) : List Bool := litBits (257 + lenAt n) ++ low (n - (lensT.getD (lenAt n) (0, 0)).1) (lensT.getD (lenAt n) (0, 0)).2
def distBits (d : Nat) : List Bool := high (distAt d) 5 ++ low (d - (distT.getD (distAt d) (0, 0)).1) (distT.getD (distAt d) (0, 0)).2
def at8 (s : List UInt8) (i : Nat) : Nat := (s.getD i 0).toNat
/-- three bytes -/
def threeN (s : List UInt8) (i : Nat) : Nat := at8 s i * 65536 + at8 s (i + 1) * 256 + at8 s (i + 2)
/-- how many bytes are the same, at most c -/
def common : List UInt8 → List UInt8 → Nat → Nat
  | a :: as, b :: bs, c + 1 => if a = b then 1 + common as bs c else 0
  | _, _, _ => 0
def alikeN (s : List UInt8) (j i : Nat) : Nat := common (s.drop j) (s.drop i) 258
/-- the earlier places of the same three bytes, the nearest first -/
def chain (s : List UInt8) (k : Nat) : Nat → List Nat
  | 0 => []
  | i + 1 => if threeN s i = k then i :: chain s k i else chain s k i
def scan (s : List UInt8) (i : Nat) : Nat → List Nat → Nat × Nat → Nat × Nat
  | k + 1, j :: l, b => if i - j ≤ 32768 then scan s i k l (if b.1 < alikeN s j i then (alikeN s j i, j) else b) else b
  | _, _, b => b
def best (s : List UInt8) (i : Nat) : Nat × Nat := if i + 3 ≤ s.length then scan s i 64 (chain s (threeN s i) i) (0, 0) else (0, 0)
/-- the bits from a place on -/
def rest (s : List UInt8) : Nat → Nat → List Bool
  | 0, _ => []
  | f + 1, i => if i < s.length then (if (best s i).1 = 0 then litBits (at8 s i) ++ rest s f (i + 1) else lenBits (best s i).1 ++ (distBits (i - (best s i).2) ++ rest s f (i + (best s i).1))) else litBits 256
def shortBits (s : List UInt8) : List Bool := [true, true, false] ++ rest s (s.length + 1) 0
def shortP (s : List UInt8) : List UInt8 := packed (shortBits s)
def storedP : Nat → List UInt8 → List UInt8
  | 0, _ => []
  | f + 1, s => [(if s.length ≤ 65535 then 1 else 0), UInt8.ofNat ((min s.length 65535) % 256), UInt8.ofNat ((min s.length 65535) / 256), UInt8.ofNat (255 - (min s.length 65535) % 256), UInt8.ofNat (255 - (min s.length 65535) / 256)] ++
      s.take 65535 ++ (if s.length ≤ 65535 then [] else storedP f (s.drop 65535))
def blocksN (n : Nat) : Nat := max 1 ((n + 65534) / 65535)
def deflateP (s : List UInt8) : List UInt8 := if (shortP s).length < s.length + 5 * blocksN s.length then shortP s else storedP (blocksN s.length) s
theorem drop_cons {s : List UInt8} {i : Nat} (h : i < s.length) : s.drop i = s[i] :: s.drop (i + 1) := List.drop_eq_getElem_cons h
theorem common_end (a : List UInt8) (c : Nat) : common a [] c = 0 := by cases a <;> rfl
theorem common_zero (a b : List UInt8) : common a b 0 = 0 := by cases a <;> cases b <;> rfl
theorem common_le : ∀ (c : Nat) (a b : List UInt8), common a b c ≤ c ∧ common a b c ≤ b.length
  | 0, a, b => by simp [common_zero]
  | c + 1, a, [] => by simp [common_end]
  | c + 1, [], b :: bs => by simp [common]
  | c + 1, a :: as, b :: bs => by
    have := common_le c as bs
    rw [common, List.length_cons]
    split <;> omega
theorem at8_lt (s : List UInt8) (i : Nat) : at8 s i < 256 := UInt8.toNat_lt _
theorem at8_eq {s : ByteArray} {i : Nat} (h : i < s.size) : at8 s.data.toList i = s[i].toNat := by
  have h' : i < s.data.toList.length := h
  unfold at8
  rw [List.getD_eq_getElem?_getD, List.getElem?_eq_getElem h']
  rfl


end Go.Proofs.YtjielagabnkimaaDoor
