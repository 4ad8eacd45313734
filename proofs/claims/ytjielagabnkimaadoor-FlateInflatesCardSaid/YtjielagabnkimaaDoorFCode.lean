/- A code by its lengths: counts, symbols in the order of their bits; the next symbol of a row of bits. -/
import Derived.Test.YtjielagabnkimaaDoorFDef
namespace Go.Proofs.YtjielagabnkimaaDoor
/-- the symbols of n bits -/
def idxN (l : List Nat) (n : Nat) : List Nat := (List.range l.length).filter (fun i => l.getD i 0 == n)
/-- how many symbols have n bits -/
def cntN (l : List Nat) (n : Nat) : Nat := if n = 0 then 0 else (idxN l n).length
/-- the symbols of at most n bits -/
def symsTo (l : List Nat) : Nat → List Nat
  | 0 => []
  | n + 1 => symsTo l n ++ idxN l (n + 1)
def symsN (l : List Nat) : List Nat := symsTo l 15
/-- what the codes take of 2^15 -/
def kraft (l : List Nat) : Nat := (l.map (fun n => if n = 0 then 0 else 2 ^ (15 - n))).sum
def symGo (l : List Nat) : Nat → Nat → Nat → Nat → List Bool → Except Nat (Nat × List Bool)
  | 0, _, _, _, _ => .error 4
  | _ + 1, _, _, _, [] => .error 2
  | f + 1, k, x, first, b :: r =>
    if 2 * x + (if b then 1 else 0) < 2 * first + cntN l (k + 1) then .ok ((symsN l).getD ((symsTo l k).length + (2 * x + (if b then 1 else 0) - 2 * first)) 0, r)
    else if (symsN l).length = 1 then .error 4 else symGo l f (k + 1) (2 * x + (if b then 1 else 0)) (2 * first + cntN l (k + 1)) r
/-- the next symbol, or the error -/
def symP (l : List Nat) (r : List Bool) : Except Nat (Nat × List Bool) := if (symsN l).length = 0 then .error 4 else symGo l 15 0 0 0 r
theorem symsTo_le (l : List Nat) : ∀ n m, n ≤ m → (symsTo l n).length ≤ (symsTo l m).length
  | n, 0, h => by
    obtain rfl : n = 0 := by omega
    exact Nat.le_refl _
  | n, m + 1, h => by
    by_cases hn : n = m + 1
    · rw [hn]; exact Nat.le_refl _
    · have := symsTo_le l n m (by omega)
      rw [symsTo, List.length_append]; omega
theorem symsTo_cnt (l : List Nat) (k : Nat) : (symsTo l (k + 1)).length = (symsTo l k).length + cntN l (k + 1) := by
  rw [symsTo, List.length_append, cntN, if_neg (by omega)]
theorem idxN_length_le (l : List Nat) (n : Nat) : (idxN l n).length ≤ l.length := by
  have := List.length_filter_le (fun i => l.getD i 0 == n) (List.range l.length)
  rwa [List.length_range] at this
theorem cntN_le (l : List Nat) (n : Nat) : cntN l n ≤ l.length := by
  unfold cntN
  split
  · omega
  · exact idxN_length_le l n
theorem idxN_snoc (l : List Nat) (x n : Nat) : idxN (l ++ [x]) n = idxN l n ++ (if x = n then [l.length] else []) := by
  unfold idxN
  rw [List.length_append, List.length_singleton, List.range_succ, List.filter_append]
  congr 1
  · apply List.filter_congr
    intro i hi
    rw [List.mem_range] at hi
    rw [List.getD_eq_getElem?_getD, List.getD_eq_getElem?_getD, List.getElem?_append_left hi]
  · by_cases h : x = n
    · rw [if_pos h]
      have : ((l ++ [x]).getD l.length 0 == n) = true := by
        rw [List.getD_eq_getElem?_getD, List.getElem?_append_right (Nat.le_refl _)]; simp [h]
      rw [List.filter_cons, this]; rfl
    · rw [if_neg h]
      have : ((l ++ [x]).getD l.length 0 == n) = false := by
        rw [List.getD_eq_getElem?_getD, List.getElem?_append_right (Nat.le_refl _)]; simp [h]
      rw [List.filter_cons, this]; rfl
theorem cntN_snoc (l : List Nat) (x n : Nat) : cntN (l ++ [x]) n = cntN l n + (if x = n ∧ n ≠ 0 then 1 else 0) := by
  unfold cntN
  by_cases h : n = 0
  · simp [h]
  · rw [if_neg h, if_neg h, idxN_snoc, List.length_append]
    by_cases hx : x = n
    · simp [hx, h]
    · simp [hx]
theorem kraft_snoc (l : List Nat) (x : Nat) : kraft (l ++ [x]) = kraft l + (if x = 0 then 0 else 2 ^ (15 - x)) := by
  unfold kraft
  rw [List.map_append, List.sum_append]
  simp
/-- the symbols of n bits among the first i -/
def idxTo (l : List Nat) (n i : Nat) : List Nat := (List.range i).filter (fun i => l.getD i 0 == n)
theorem idxTo_succ (l : List Nat) (n i : Nat) : idxTo l n (i + 1) = idxTo l n i ++ (if l.getD i 0 = n then [i] else []) := by
  unfold idxTo
  rw [List.range_succ, List.filter_append]
  congr 1
  by_cases h : l.getD i 0 = n
  · rw [if_pos h, List.filter_cons, beq_iff_eq.2 h]; rfl
  · rw [if_neg h, List.filter_cons, beq_eq_false_iff_ne.2 h]; rfl
theorem idxTo_all (l : List Nat) (n : Nat) : idxTo l n l.length = idxN l n := rfl
theorem take_snoc {l : List Nat} {i : Nat} (h : i < l.length) : l.take (i + 1) = l.take i ++ [l.getD i 0] := by
  rw [List.take_add_one, List.getD_eq_getElem?_getD, List.getElem?_eq_getElem h]; rfl
end Go.Proofs.YtjielagabnkimaaDoor
