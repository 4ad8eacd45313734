/- The reference's reader: bit, number, put, plain, coded, symbol, symbols, and the plain form of lengths. -/
import Derived.Test.YtjielagabnkimaaDoorFRefS
import Derived.Test.YtjielagabnkimaaDoorFOut
import Derived.Test.YtjielagabnkimaaDoorFLess
import Derived.Maps.Views
import Derived.Maps.Own
import Derived.Maps.OwnOps
import Derived.Maps.OwnSet
set_option linter.unusedSimpArgs false
set_option linter.unusedVariables false
namespace Go.Proofs.YtjielagabnkimaaDoor
section
open Go.RowKit Go.Maps
/-- what is left to read, or the error -/
abbrev RS := Except Nat (List Bool)
def bitV : RS → Nat
  | .ok (b :: _) => if b then 1 else 0
  | _ => 0
def bitN : RS → RS
  | .ok (_ :: r) => .ok r
  | .ok [] => .error 2
  | .error e => .error e
def numI (st : RS) : Nat → Nat × RS
  | 0 => (0, st)
  | n + 1 => ((numI st n).1 + bitV (numI st n).2 * 2 ^ n, bitN (numI st n).2)
def numS (n : Nat) : RS → RS
  | .error e => .error e
  | .ok r => if n ≤ r.length then .ok (r.drop n) else .error 2
theorem bitV_le (st : RS) : bitV st ≤ 1 := by
  unfold bitV
  split
  · split <;> omega
  · omega
theorem numI_lt (st : RS) : ∀ n, (numI st n).1 < 2 ^ n
  | 0 => by simp [numI]
  | n + 1 => by
    have h := numI_lt st n
    have hb := bitV_le (numI st n).2
    have h2 : bitV (numI st n).2 * 2 ^ n ≤ 1 * 2 ^ n := Nat.mul_le_mul_right _ hb
    rw [numI, Nat.pow_succ]
    show _ + _ < _
    omega
theorem numI_error (e : Nat) : ∀ n, numI (.error e) n = (0, .error e)
  | 0 => rfl
  | n + 1 => by rw [numI, numI_error e n]; simp [bitV, bitN]
theorem numI_ok (r : List Bool) : ∀ n, n ≤ r.length → numI (.ok r) n = (num (r.take n), .ok (r.drop n))
  | 0, _ => by simp [numI, num]
  | n + 1, h => by
    have hd : r.drop n = r[n] :: r.drop (n + 1) := List.drop_eq_getElem_cons (by omega)
    rw [numI, numI_ok r n (by omega)]
    simp only
    rw [hd, List.take_add_one, List.getElem?_eq_getElem (by omega), num_append, List.length_take, Nat.min_eq_left (by omega)]
    cases r[n] <;> simp [bitV, bitN, num]
theorem numI_short (r : List Bool) : ∀ n, r.length < n → (numI (.ok r) n).2 = .error 2
  | 0, h => by omega
  | n + 1, h => by
    rw [numI]
    by_cases hn : r.length = n
    · rw [numI_ok r n (by omega), ← hn, List.drop_length]; rfl
    · rw [numI_short r n (by omega)]; rfl
theorem numI_S (st : RS) (n : Nat) : (numI st n).2 = numS n st := by
  cases st with
  | error e => rw [numI_error]; rfl
  | ok r =>
    unfold numS
    by_cases h : n ≤ r.length
    · simp only [if_pos h]; rw [numI_ok r n h]
    · simp only [if_neg h]; exact numI_short r n (by omega)
theorem numI_take {r r' : List Bool} {n x : Nat} (h : takeB n r = .ok (x, r')) : numI (.ok r) n = (x, .ok r') := by
  unfold takeB at h
  split at h
  · rename_i hn
    rw [numI_ok r n hn]
    injection h with h
    injection h with h1 h2
    rw [h1, h2]
  · cases h
theorem numS_error {r : List Bool} {n e : Nat} (h : takeB n r = .error e) : numS n (.ok r) = .error e := by
  unfold takeB at h
  unfold numS
  split at h
  · cases h
  · rename_i hn
    simp only [if_neg hn]
    injection h with h
    rw [h]
def wrongS (no : Nat) : RS → RS
  | .ok _ => .error no
  | .error e => .error e
/-- how many symbols have bits -/
def someN (l : List Nat) : Nat := (l.filter (fun n => n != 0)).length
theorem symsTo_snoc (l : List Nat) (x : Nat) : ∀ k, (symsTo (l ++ [x]) k).length = (symsTo l k).length + (if 0 < x ∧ x ≤ k then 1 else 0)
  | 0 => by rw [if_neg (by omega)]; rfl
  | k + 1 => by
    rw [symsTo_cnt, symsTo_cnt, symsTo_snoc l x k, cntN_snoc]
    by_cases h : x = k + 1
    · subst h
      rw [if_neg (by omega), if_pos ⟨rfl, by omega⟩, if_pos (by omega)]; omega
    · rw [if_neg (c := x = k + 1 ∧ k + 1 ≠ 0) (fun hh => h hh.1)]
      by_cases h2 : 0 < x ∧ x ≤ k
      · rw [if_pos h2, if_pos (by omega)]; omega
      · rw [if_neg h2, if_neg (by omega)]; omega
theorem syms_some : ∀ (m : Nat) (l : List Nat), l.length = m → (∀ x ∈ l, x ≤ 15) → (symsN l).length = someN l
  | 0, l, hl, _ => by
    obtain rfl := List.length_eq_zero_iff.1 hl
    have : ∀ k, (symsTo [] k).length = 0 := by
      intro k
      induction k with
      | zero => rfl
      | succ k ih => rw [symsTo_cnt, ih]; simp [cntN, idxN]
    exact this 15
  | m + 1, l, hl, h15 => by
    obtain ⟨l', x, rfl⟩ : ∃ l' x, l = l' ++ [x] := ⟨l.dropLast, l.getLast (by intro h; rw [h] at hl; simp at hl), (List.dropLast_concat_getLast _).symm⟩
    have ih := syms_some m l' (by simp at hl; exact hl) (fun y hy => h15 y (by simp [hy]))
    have hx := h15 x (by simp)
    unfold symsN at *
    rw [symsTo_snoc, ih]
    unfold someN
    rw [List.filter_append, List.length_append]
    by_cases h0 : x = 0
    · subst h0; simp
    · rw [if_pos (by omega)]; simp [h0]
/-- a code as a map of texts, of the first i symbols -/
structure CodeD (l : List Nat) (D : DataW Nat) (i : Nat) : Prop where
  has : ∀ t : List Bool, Maps.has D (.string (bitsT t)) = true ↔ ∃ j, j < i ∧ l.getD j 0 ≠ 0 ∧ codeB l j = t
  val : ∀ j, j < i → l.getD j 0 ≠ 0 → D.atKey (.string (bitsT (codeB l j))) (.lit (.int .i64 0)) = .lit (.int .i64 (j : Int))
  size : Maps.size D = someN (l.take i)
theorem CodeD.start (l : List Nat) : CodeD l (.map []) 0 := ⟨fun t => by simp [Maps.has], fun j h => by omega, rfl⟩
theorem CodeD.skip {l : List Nat} {D : DataW Nat} {i : Nat} (h : CodeD l D i) (hi : i < l.length) (h0 : l.getD i 0 = 0) : CodeD l D (i + 1) := by
  refine ⟨fun t => ?_, fun j hj hj0 => ?_, ?_⟩
  · rw [h.has t]
    constructor
    · rintro ⟨j, h1, h2, h3⟩; exact ⟨j, by omega, h2, h3⟩
    · rintro ⟨j, h1, h2, h3⟩
      have : j ≠ i := fun e => h2 (by rw [e]; exact h0)
      exact ⟨j, by omega, h2, h3⟩
  · have : j ≠ i := fun e => hj0 (by rw [e]; exact h0)
    exact h.val j (by omega) hj0
  · rw [h.size, take_snoc hi, h0]
    unfold someN
    rw [List.filter_append, List.length_append]
    rfl
theorem CodeD.next {l : List Nat} {D : DataW Nat} {i : Nat} (h : CodeD l D i) (hT : Tidy D) (hk : kraft l ≤ 32768) (h15 : ∀ x ∈ l, x ≤ 15) (hi : i < l.length) (h0 : l.getD i 0 ≠ 0) : CodeD l (D.put (.string (bitsT (codeB l i))) (.lit (.int .i64 (i : Int)))) (i + 1) := by
  have hne : ∀ j, j < i → l.getD j 0 ≠ 0 → codeB l j ≠ codeB l i := fun j hj hj0 e => by
    have := codeB_inj hk h15 (by omega) hi (by omega) e
    omega
  have hkey : ∀ t, t ≠ codeB l i → (Lit.string (bitsT t)) ≠ .string (bitsT (codeB l i)) := fun t ht e => ht (bitsT_inj (by injection e))
  refine ⟨fun t => ?_, fun j hj hj0 => ?_, ?_⟩
  · by_cases ht : t = codeB l i
    · subst ht
      rw [has_put_same hT.isMap (by simp [WideAt.IsKeyLit])]
      exact ⟨fun _ => ⟨i, by omega, h0, rfl⟩, fun _ => rfl⟩
    · rw [has_put_other (hkey t ht), h.has t]
      constructor
      · rintro ⟨j, h1, h2, h3⟩; exact ⟨j, by omega, h2, h3⟩
      · rintro ⟨j, h1, h2, h3⟩
        have : j ≠ i := fun e => ht (by rw [← h3, e])
        exact ⟨j, by omega, h2, h3⟩
  · by_cases hji : j = i
    · subst hji
      exact atKey_put_same hT.isMap (by simp [WideAt.IsKeyLit]) _ _
    · rw [atKey_put_other (hkey _ (hne j (by omega) hj0))]
      exact h.val j (by omega) hj0
  · rw [size_put hT]
    have hno : Maps.has D (.string (bitsT (codeB l i))) = false := by
      cases hh : Maps.has D (.string (bitsT (codeB l i))) with
      | false => rfl
      | true =>
        obtain ⟨j, h1, h2, h3⟩ := (h.has _).1 hh
        exact absurd h3 (hne j h1 h2)
    rw [hno, take_snoc hi, h.size]
    clear hno hkey hne h
    generalize l.getD i 0 = v at h0
    unfold someN
    rw [List.filter_append, List.length_append]
    simp [h0]
theorem high_length' {l : List Nat} {i n x : Nat} (h : codeB l i = high x n) : l.getD i 0 = n := by
  have := congrArg List.length h
  unfold codeB at this
  rwa [high_length, high_length] at this
/-- one step of reading a symbol -/
theorem sym_has {l : List Nat} {D : DataW Nat} (hD : CodeD l D l.length) (hk : kraft l ≤ 32768) {k x : Nat} (hk15 : k < 15) (hx : x < 2 ^ (k + 1)) (hn : 2 * nxt l k ≤ x) :
    (Maps.has D (.string (bitsT (high x (k + 1)))) = true ↔ x < nxt l (k + 1)) ∧
    (x < nxt l (k + 1) → D.atKey (.string (bitsT (high x (k + 1)))) (.lit (.int .i64 0)) = .lit (.int .i64 (((symsN l).getD ((symsTo l k).length + (x - 2 * nxt l k)) 0 : Nat) : Int))) := by
  refine ⟨?_, fun hlt => ?_⟩
  · rw [hD.has]
    constructor
    · rintro ⟨j, h1, h2, h3⟩
      have hj := high_length' h3
      have hc := codeN_lt hj h1
      have hp := codeN_lt_pow hk h1 (by omega) (by omega)
      unfold codeB at h3
      rw [hj] at h3 hp
      have := high_inj hp hx h3
      omega
    · intro hlt
      obtain ⟨j, h1, h2, h3, _⟩ := code_of hn hlt
      exact ⟨j, h1, by omega, by unfold codeB; rw [h2, h3]⟩
  · obtain ⟨j, h1, h2, h3, h4⟩ := code_of hn hlt
    have hc : codeB l j = high x (k + 1) := by unfold codeB; rw [h2, h3]
    rw [← hc, hD.val j h1 (by omega), ← h4, getD_at (syms_at h2 h1 (by omega))]
def symO (l : List Nat) : RS → Except Nat (Nat × List Bool)
  | .error e => .error e
  | .ok r => symP l r
def symV : Except Nat (Nat × List Bool) → Int
  | .ok (x, _) => (x : Int)
  | .error _ => -1
def symT : Except Nat (Nat × List Bool) → RS
  | .ok (_, r) => .ok r
  | .error e => .error e
end
section
open Go.RowKit
def rsOf (s : ByteArray) (a n : Nat) : RS := if n = 0 then .ok ((bitsOf s.data.toList).drop a) else .error n
/-- the reader lies in block R: a bits are read, n is the error -/
structure RdIn (w : World) (R base : Nat) (s : ByteArray) (most : Nat) (out : List UInt8) (a n : Nat) (ov : Value) : Prop where
  o : w.heap[R]? = some (.cells #[.string s, .int .i64 (a : Int), .int .i64 (n : Int), ov, .int .i64 (most : Int)] 46 (0, 0))
  row : w.ownsRow base 5 1 ov out.length (out.map encB)
  le : a ≤ 8 * s.size
  no : n < 100
  lt : R < base
def RdAt (w : World) (R base : Nat) (s : ByteArray) (most : Nat) (out : List UInt8) (st : RS) : Prop := ∃ a n ov, RdIn w R base s most out a n ov ∧ st = rsOf s a n
theorem RdIn.drewN {w : World} {R base most a n : Nat} {s : ByteArray} {out : List UInt8} {ov : Value} (h : RdIn w R base s most out a n ov) (k : Nat) : RdIn (w.drewN k) R base s most out a n ov := ⟨h.o, h.row, h.le, h.no, h.lt⟩
theorem RdIn.drew {w : World} {R base most a n : Nat} {s : ByteArray} {out : List UInt8} {ov : Value} (h : RdIn w R base s most out a n ov) : RdIn w.drew R base s most out a n ov := ⟨h.o, h.row, h.le, h.no, h.lt⟩
theorem row_form {w : World} {base n : Nat} {e : TypeId} {v : Value} {xs : List Value} (h : w.ownsRow base e 1 v n xs) : ∃ p c, v = .slice p n c := by
  rcases h.2 with ⟨rfl, rfl⟩ | ⟨g, cap, cur, rfl, _⟩
  · exact ⟨_, _, rfl⟩
  · exact ⟨_, _, rfl⟩
theorem RdIn.cells {w : World} {R base most a n : Nat} {s : ByteArray} {out : List UInt8} {ov : Value} (h : RdIn w R base s most out a n ov) :
    w.cell? ⟨R, 0, none⟩ = some (.string s) ∧ w.cell? ⟨R, 1, none⟩ = some (.int .i64 (a : Int)) ∧ w.cell? ⟨R, 2, none⟩ = some (.int .i64 (n : Int)) ∧ w.cell? ⟨R, 3, none⟩ = some ov ∧ w.cell? ⟨R, 4, none⟩ = some (.int .i64 (most : Int)) ∧
    w.frozen? ⟨R, 1, none⟩ = false ∧ w.frozen? ⟨R, 2, none⟩ = false ∧ w.frozen? ⟨R, 3, none⟩ = false := by
  have c := fun j => cell_of_row w R j _ _ _ h.o
  exact ⟨c 0, c 1, c 2, c 3, c 4, frozen_of_row _ _ _ _ _ h.o, frozen_of_row _ _ _ _ _ h.o, frozen_of_row _ _ _ _ _ h.o⟩
theorem RdIn.row_ne {w : World} {R base most a n : Nat} {s : ByteArray} {out : List UInt8} {ov : Value} (h : RdIn w R base s most out a n ov) : ov.ownBlock = none ∨ ov.ownBlock ≠ some R := by
  cases hb : ov.ownBlock with
  | none => exact .inl rfl
  | some g =>
    have := (h.row.lt g hb).1
    have := h.lt
    exact .inr (by simp; omega)
theorem RdIn.setAt {w : World} {R base most a n : Nat} {s : ByteArray} {out : List UInt8} {ov : Value} (h : RdIn w R base s most out a n ov) (a' : Nat) (ha : a' ≤ 8 * s.size) (v : Int) (hv : v = (a' : Int)) : RdIn (w.setCell ⟨R, 1, none⟩ (.int .i64 v)) R base s most out a' n ov := by
  subst hv
  refine ⟨?_, h.row.kept (grown_setCell w R 1 _) h.row_ne, ha, h.no, h.lt⟩
  rw [heap_setCell_same w R 1 _ _ _ h.o]; rfl
theorem RdIn.setNo {w : World} {R base most a n : Nat} {s : ByteArray} {out : List UInt8} {ov : Value} (h : RdIn w R base s most out a n ov) (n' : Nat) (ha : n' < 100) (v : Int) (hv : v = (n' : Int)) : RdIn (w.setCell ⟨R, 2, none⟩ (.int .i64 v)) R base s most out a n' ov := by
  subst hv
  refine ⟨?_, h.row.kept (grown_setCell w R 2 _) h.row_ne, h.le, ha, h.lt⟩
  rw [heap_setCell_same w R 2 _ _ _ h.o]; rfl
theorem RdIn.pushed {w w1 : World} {R base most a n : Nat} {s : ByteArray} {out : List UInt8} {ov v' : Value} {tmp : Obj} {b : UInt8} (h : RdIn w R base s most out a n ov)
    (hown : w1.ownsRow base 5 1 v' (out.length + 1) (out.map encB ++ [encB b])) (hg : (w.alloc tmp).grownBy w1 ov.ownBlock) :
    w1.heap[R]? = some (.cells #[.string s, .int .i64 (a : Int), .int .i64 (n : Int), ov, .int .i64 (most : Int)] 46 (0, 0)) ∧ RdIn (w1.setCell ⟨R, 3, none⟩ v') R base s most (out ++ [b]) a n v' ∧ Keeps (okOut R base) w (w1.setCell ⟨R, 3, none⟩ v') := by
  have hR : some R ≠ ov.ownBlock := by
    intro e
    have := (h.row.lt R e.symm).1
    have := h.lt
    omega
  have h3 : w1.heap[R]? = some (.cells #[.string s, .int .i64 (a : Int), .int .i64 (n : Int), ov, .int .i64 (most : Int)] 46 (0, 0)) :=
    (hg.block R (by have := heap_lt h.o; simp only [World.size_alloc]; omega) hR).trans ((heap_alloc_old w tmp (heap_lt h.o)).trans h.o)
  have hne : v'.ownBlock = none ∨ v'.ownBlock ≠ some R := by
    cases hb : v'.ownBlock with
    | none => exact .inl rfl
    | some g =>
      have := (hown.lt g hb).1
      have := h.lt
      exact .inr (by simp; omega)
  refine ⟨h3, ⟨?_, ?_, h.le, h.no, h.lt⟩, ?_⟩
  · rw [heap_setCell_same w1 R 3 _ _ _ h3]; rfl
  · rw [List.length_append, List.map_append]
    exact hown.kept (grown_setCell w1 R 3 _) hne
  · refine (((Keeps.refl _ w).alloc tmp).grown hg (fun k o _ hb hok => notRow_row (h.row.alloc tmp) hb hok.2)).grown (grown_setCell w1 R 3 v') (fun k o _ _ hok e => ?_)
    cases e
    exact hok.1 rfl
theorem RdAt.keeps {w w' : World} {ok : Nat → Obj → Prop} {R base most : Nat} {s : ByteArray} {out : List UInt8} {st : RS} (h : RdAt w R base s most out st) (hk : Keeps ok w w') (h1 : ∀ cs, ok R (.cells cs 46 (0, 0))) (h2 : ∀ k cs, base ≤ k → ok k (.cells cs 5 (0, 0))) : RdAt w' R base s most out st := by
  obtain ⟨a, n, ov, h, rfl⟩ := h
  exact ⟨a, n, ov, ⟨hk.block _ _ h.o (h1 _), ownsRow_keeps h.row hk (fun k cs hb => h2 k cs (h.row.lt k hb).1), h.le, h.no, h.lt⟩, rfl⟩
theorem RdAt.same {w w' : World} {R base most : Nat} {s : ByteArray} {out : List UInt8} {st : RS} (h : RdAt w R base s most out st) (hs : Same w w') : RdAt w' R base s most out st := by
  obtain ⟨k, rfl⟩ := hs
  obtain ⟨a, n, ov, h, rfl⟩ := h
  exact ⟨a, n, ov, h.drewN k, rfl⟩
theorem Keeps.setR {a b : World} {R base : Nat} (h : Keeps (okOut R base) a b) (i : Nat) (v : Value) : Keeps (okOut R base) a (b.setCell ⟨R, i, none⟩ v) :=
  h.grown (grown_setCell b R i v) (fun k o _ _ hok e => by cases e; exact hok.1 rfl)
theorem low_get (x : Nat) : ∀ (n a : Nat), a < n → (low x n)[a]? = some (x / 2 ^ a % 2 == 1)
  | 0, a, h => by omega
  | n + 1, a, h => by
    rw [low_snoc]
    by_cases ha : a = n
    · subst ha
      rw [List.getElem?_append_right (by rw [low_length]; exact Nat.le_refl _), low_length, Nat.sub_self]; rfl
    · rw [List.getElem?_append_left (by rw [low_length]; omega)]
      exact low_get x n a (by omega)
theorem bitsOf_get : ∀ (l : List UInt8) (a : Nat), a < 8 * l.length → (bitsOf l)[a]? = some ((l.getD (a / 8) 0).toNat / 2 ^ (a % 8) % 2 == 1)
  | [], a, h => by simp at h
  | b :: l, a, h => by
    rw [bitsOf_cons]
    by_cases ha : a < 8
    · rw [List.getElem?_append_left (by rw [byteBits_length]; exact ha), byteBits, low_get _ 8 a ha, show a / 8 = 0 by omega, show a % 8 = a by omega]; rfl
    · rw [List.getElem?_append_right (by rw [byteBits_length]; omega), byteBits_length, bitsOf_get l (a - 8) (by rw [List.length_cons] at h; omega), show a / 8 = (a - 8) / 8 + 1 by omega, show (a - 8) % 8 = a % 8 by omega, List.getD_cons_succ]
theorem bits_drop {l : List UInt8} {a : Nat} (h : a < 8 * l.length) : (bitsOf l).drop a = ((l.getD (a / 8) 0).toNat / 2 ^ (a % 8) % 2 == 1) :: (bitsOf l).drop (a + 1) := by
  have hl := bitsOf_length l
  rw [List.drop_eq_getElem_cons (by omega)]
  congr 1
  have := bitsOf_get l a h
  rw [List.getElem?_eq_getElem (by omega)] at this
  exact Option.some.inj this

set_option maxRecDepth 100000 in
set_option maxHeartbeats 4000000 in
theorem rbit_any (R base most : Nat) (s : ByteArray) (out : List UInt8) (st : RS) (w : World) (hR : RdAt w R base s most out st) (hs : s.size < 2 ^ 40) :
    Calls Tryd.prog 25 #[.pointer (some ⟨R, 0, none⟩)] w fun e w' => e = .returned (.int .i64 ((bitV st : Nat) : Int)) ∧ RdAt w' R base s most out (bitN st) ∧ Keeps (okOut R base) w w' := by
  obtain ⟨a, n, ov, hin, rfl⟩ := hR
  obtain ⟨c0, c1, c2, c3, c4, z1, z2, z3⟩ := hin.cells
  have hle := hin.le
  have hn100 := hin.no
  have Hin := Lib.hid hin
  clear hin
  by_cases hn : n = 0
  · subst hn
    by_cases ha : a < 8 * s.size
    · have h1 : ¬ (8 * (s.size : Int) ≤ (a : Int)) := by omega
      have hd1 : decide (8 * (s.size : Int) ≤ (a : Int)) = false := decide_eq_false h1
      obtain ⟨q, hq⟩ : ∃ q, q = a / 8 := ⟨_, rfl⟩
      obtain ⟨r, hr⟩ : ∃ r, r = a % 8 := ⟨_, rfl⟩
      have hqs : q < s.size := by omega
      have hqi : (q : Int) < (s.size : Int) := by omega
      have eq1 : (a : Int) / 8 = (q : Int) := by omega
      have eq2 : (a : Int).tdiv 8 = (q : Int) := by rw [Int.tdiv_eq_ediv_of_nonneg (by omega)]; omega
      have er1 : (a : Int) % 8 = (r : Int) := by omega
      have er2 : (a : Int).tmod 8 = (r : Int) := by rw [Int.tmod_eq_emod_of_nonneg (by omega)]; omega
      have xq : IntKind.i64.wrap (q : Int) = (q : Int) := IntWalk.i64_in _ (by omega)
      have xr : IntKind.i64.wrap (r : Int) = (r : Int) := IntWalk.i64_in _ (by omega)
      have xs8 : IntKind.i64.wrap (8 * (s.size : Int)) = 8 * (s.size : Int) := IntWalk.i64_in _ (by omega)
      have hr8 : r < 8 := by omega
      have hb8 := (s[q]'hqs).toNat_lt
      have hdrop := bits_drop (l := s.data.toList) (a := a) (by show a < 8 * s.size; exact ha)
      rw [← hq, ← hr, show s.data.toList.getD q 0 = s[q]'hqs from by rw [List.getD_eq_getElem?_getD, List.getElem?_eq_getElem (show q < s.data.toList.length from hqs)]; rfl] at hdrop
      obtain ⟨y, hy⟩ : ∃ y, y = (s[q]'hqs).toNat := ⟨_, rfl⟩
      rw [← hy] at hdrop hb8
      have Hdrop := Lib.hid hdrop
      have Hy := Lib.hid hy
      clear hdrop hq hr hy
      go_enter Tryd.func25, Tryd.ntmps25
      go_wp2_with fail
      go_quiet (fail)
      have hin1 := Hin.out.drewN nq
      have hk1 : Keeps (okOut R base) w (w.drewN nq) := (Keeps.refl _ _).drewN nq
      generalize w.drewN nq = w1 at *
      clear c0 c1 c2 c3 c4 z1 z2 z3
      obtain ⟨c0, c1, c2, c3, c4, z1, z2, z3⟩ := hin1.cells
      have Hin1 := Lib.hid hin1
      have Hk1 := Lib.hid hk1
      clear hin1 hk1
      go_wp2_with fail
      go_quiet (fail)
      have hin2 := Hin1.out.drewN nq
      have hk2 := Hk1.out.drewN nq
      generalize w1.drewN nq = w2 at *
      clear c0 c1 c2 c3 c4 z1 z2 z3
      obtain ⟨c0, c1, c2, c3, c4, z1, z2, z3⟩ := hin2.cells
      have Hin2 := Lib.hid hin2
      have Hk2 := Lib.hid hk2
      clear hin2 hk2
      go_wp2_with fail
      go_ret
      have he : rsOf s a 0 = .ok ((y / 2 ^ r % 2 == 1) :: (bitsOf s.data.toList).drop (a + 1)) := by unfold rsOf; rw [if_pos rfl, Hdrop.out]
      rw [he]
      refine ⟨ret_num ?_, ⟨a + 1, 0, ov, Hin2.out.setAt (a + 1) (by omega) _ (by omega), rfl⟩, Hk2.out.setR 1 _⟩
      rw [← Hy.out]
      have hz : y / 2 ^ r ≤ y := Nat.div_le_self _ _
      have ez : (y : Int) / 2 ^ r = ((y / 2 ^ r : Nat) : Int) := by simp
      generalize hzz : y / 2 ^ r = z at *
      rw [ez, show wrap64 (z : Int) = (z : Int) from by unfold wrap64; omega, Int.tmod_eq_emod_of_nonneg (by omega)]
      show _ = (((if (z % 2 == 1) = true then 1 else 0 : Nat)) : Int)
      by_cases ho : z % 2 = 1
      · rw [if_pos (by simp [ho])]; omega
      · rw [if_neg (by simp [ho])]; omega
    · have ha1 : (8 * (s.size : Int) ≤ (a : Int)) := by omega
      have xs8 : IntKind.i64.wrap (8 * (s.size : Int)) = 8 * (s.size : Int) := IntWalk.i64_in _ (by omega)
      have hd1 : decide (8 * (s.size : Int) ≤ (a : Int)) = true := decide_eq_true ha1
      go_enter Tryd.func25, Tryd.ntmps25
      go_wp2_with fail
      go_quiet (fail)
      have hin1 := Hin.out.drewN nq
      have hk1 : Keeps (okOut R base) w (w.drewN nq) := (Keeps.refl _ _).drewN nq
      generalize w.drewN nq = w1 at *
      clear c0 c1 c2 c3 c4 z1 z2 z3
      obtain ⟨c0, c1, c2, c3, c4, z1, z2, z3⟩ := hin1.cells
      have Hin1 := Lib.hid hin1
      have Hk1 := Lib.hid hk1
      clear hin1 hk1
      go_wp2_with fail
      go_ret
      have hl := bitsOf_length s.data.toList
      have hl2 : s.data.toList.length = s.size := rfl
      have he : rsOf s a 0 = .ok [] := by unfold rsOf; rw [if_pos rfl, List.drop_of_length_le (by omega)]
      rw [he]
      exact ⟨rfl, ⟨a, 2, ov, Hin1.out.setNo 2 (by decide) _ rfl, rfl⟩, Hk1.out.setR 2 _⟩
  · have hnb : ((n : Int) != 0) = true := by simp; omega
    go_enter Tryd.func25, Tryd.ntmps25
    go_wp2_with fail
    go_ret
    have he : rsOf s a n = .error n := by unfold rsOf; rw [if_neg hn]
    rw [he]
    exact ⟨rfl, ⟨a, n, ov, Hin.out, he.symm⟩, Keeps.refl _ _⟩
set_option maxRecDepth 100000 in
set_option maxHeartbeats 4000000 in
theorem rnumber_any (R base most : Nat) (s : ByteArray) (out : List UInt8) (st : RS) (n : Nat) (w : World) (hR : RdAt w R base s most out st) (hs : s.size < 2 ^ 40) (hn : n ≤ 16) :
    Calls Tryd.prog 26 #[.pointer (some ⟨R, 0, none⟩), .int .i64 (n : Int)] w fun e w' => e = .returned (.int .i64 (((numI st n).1 : Nat) : Int)) ∧ RdAt w' R base s most out (numS n st) ∧ Keeps (okOut R base) w w' := by
  have HR := Lib.hid hR
  clear hR
  rw [← numI_S st n]
  go_enter Tryd.func26, Tryd.ntmps26
  go_wp2_with fail
  go_loopw [5, 6] (fun xv iv wr => ∃ (i x : Nat) (st1 : RS), iv = .int .i64 (i : Int) ∧ i ≤ n ∧ xv = .int .i64 (x : Int) ∧ (x, st1) = numI st i ∧ RdAt wr R base s most out st1 ∧ Keeps (okOut R base) w wr) (fun _ iv _ => n - (intOf iv).toNat)
  case atStart => exact ⟨0, 0, st, rfl, by omega, rfl, rfl, HR.out, Keeps.refl _ _⟩
  case round =>
    obtain ⟨i, x, st1, rfl, hi, rfl, hst, hr1, hk⟩ := hrel
    have hxb := numI_lt st i
    rw [← hst] at hxb
    simp only at hxb
    have hp16 : 2 ^ i ≤ 2 ^ 16 := Nat.pow_le_pow_right (by decide) (by omega)
    have hx16 : x < 65536 := by omega
    by_cases hlt : (i : Int) < (n : Int)
    · have hb := fun W hW => rbit_any R base most s out st1 W hW hs
      have hv := bitV_le st1
      have hnx : numI st (i + 1) = (x + bitV st1 * 2 ^ i, bitN st1) := by rw [numI, ← hst]
      obtain ⟨v, hvv⟩ : ∃ v, v = bitV st1 := ⟨_, rfl⟩
      rw [← hvv] at hb hv hnx
      obtain ⟨P, hP⟩ : ∃ P, P = 2 ^ i := ⟨_, rfl⟩
      have eP : (2 : Int) ^ i = (P : Int) := by rw [hP]; simp
      rw [← hP] at hp16 hnx
      obtain ⟨m, hm⟩ : ∃ m, m = v * P := ⟨_, rfl⟩
      have em : (v : Int) * (P : Int) = (m : Int) := by rw [hm]; simp
      have hm16 : m ≤ 65536 := by
        rw [hm]
        have : v * P ≤ 1 * P := Nat.mul_le_mul_right _ hv
        omega
      rw [← hm] at hnx
      have Hb := Lib.hid hb
      have Hnx := Lib.hid hnx
      have Hr1 := Lib.hid hr1
      have Hk := Lib.hid hk
      clear hb hnx hr1 hk hst hxb hP hm hvv
      go_wp2_with (go_at_call 25; refine (Hb.out _ Hr1.out).mono ?_; rintro e w1 ⟨rfl, hr2, hk2⟩
                   have hk3 := Hk.out.trans hk2
                   have Hr2 := Lib.hid hr2
                   have Hk3 := Lib.hid hk3
                   clear hr2 hk2 hk3)
      go_roundw
      case rel => exact ⟨i + 1, x + m, bitN st1, by go_num, by omega, by go_num, Hnx.out.symm, Hr2.out, Hk3.out⟩
      case measure => simp [intOf]; omega
    · obtain rfl : i = n := by omega
      have Hst := Lib.hid hst
      have Hr1 := Lib.hid hr1
      have Hk := Lib.hid hk
      clear hr1 hk hst hxb
      go_wp2_with fail
      go_ret
      rw [← Hst.out]
      exact ⟨rfl, Hr1.out, Hk.out⟩

set_option maxRecDepth 100000 in
set_option maxHeartbeats 4000000 in
theorem rwrong_any (R base most : Nat) (s : ByteArray) (out : List UInt8) (st : RS) (no : Nat) (w : World) (hR : RdAt w R base s most out st) (h1 : 0 < no) (h2 : no < 100) :
    Calls Tryd.prog 55 #[.pointer (some ⟨R, 0, none⟩), .int .i64 (no : Int)] w fun e w' => e = .returned (.tuple #[]) ∧ RdAt w' R base s most out (wrongS no st) ∧ Keeps (okOut R base) w w' := by
  obtain ⟨a, n, ov, hin, rfl⟩ := hR
  obtain ⟨c0, c1, c2, c3, c4, z1, z2, z3⟩ := hin.cells
  have Hin := Lib.hid hin
  clear hin
  by_cases hn : n = 0
  · subst hn
    go_enter Tryd.func55, Tryd.ntmps55
    go_wp2_with fail
    go_end0
    refine ⟨rfl, ⟨a, no, ov, Hin.out.setNo no h2 _ rfl, ?_⟩, (Keeps.refl _ _).setR 2 _⟩
    unfold rsOf
    rw [if_pos rfl, if_neg (by omega)]; rfl
  · have hnb : ((n : Int) == 0) = false := by simp; omega
    go_enter Tryd.func55, Tryd.ntmps55
    go_wp2_with fail
    go_end0
    refine ⟨rfl, ⟨a, n, ov, Hin.out, ?_⟩, Keeps.refl _ _⟩
    unfold rsOf
    rw [if_neg hn]; rfl
/-- a byte more, or too many -/
def putO (most : Nat) (b : UInt8) (out : List UInt8) : RS → List UInt8
  | .ok _ => if most ≤ out.length then out else out ++ [b]
  | .error _ => out
def putS (most : Nat) (out : List UInt8) : RS → RS
  | .ok r => if most ≤ out.length then .error 5 else .ok r
  | .error e => .error e
theorem putS_ok (most : Nat) (out : List UInt8) (r : List Bool) : putS most out (.ok r) = if most ≤ out.length then .error 5 else .ok r := rfl
theorem putO_ok (most : Nat) (b : UInt8) (out : List UInt8) (r : List Bool) : putO most b out (.ok r) = if most ≤ out.length then out else out ++ [b] := rfl

set_option maxRecDepth 100000 in
set_option maxHeartbeats 4000000 in
theorem rput_any (R base most : Nat) (s : ByteArray) (out : List UInt8) (st : RS) (b : UInt8) (w : World) (hR : RdAt w R base s most out st) (hbz : base ≤ w.heap.size) (hm : most < 2 ^ 40) (hl : out.length < 2 ^ 40) :
    Calls Tryd.prog 56 #[.pointer (some ⟨R, 0, none⟩), .int .u8 (b.toNat : Int)] w fun e w' => e = .returned (.tuple #[]) ∧ RdAt w' R base s most (putO most b out st) (putS most out st) ∧ Keeps (okOut R base) w w' := by
  obtain ⟨i0, hi, hz0, hz1, hz2⟩ := info_parts Tryd.info_byte
  obtain ⟨a, n, ov, hin, rfl⟩ := hR
  obtain ⟨p, c, rfl⟩ := row_form hin.row
  obtain ⟨c0, c1, c2, c3, c4, z1, z2, z3⟩ := hin.cells
  have hRw := heap_lt hin.o
  have Hin := Lib.hid hin
  have Hi := Lib.hid hi
  have Hz0 := Lib.hid hz0
  have Hz1 := Lib.hid hz1
  have Hz2 := Lib.hid hz2
  clear hin hi hz0 hz1 hz2
  by_cases hn : n = 0
  · subst hn
    have he : rsOf s a 0 = .ok ((bitsOf s.data.toList).drop a) := by unfold rsOf; rw [if_pos rfl]
    have He := Lib.hid he
    clear he
    by_cases hf : (most : Int) ≤ (out.length : Int)
    · have hd : decide ((most : Int) ≤ (out.length : Int)) = true := decide_eq_true hf
      go_enter Tryd.func56, Tryd.ntmps56
      go_wp2_with fail
      go_quiet (fail)
      have hin1 := Hin.out.drewN nq
      have hk1 : Keeps (okOut R base) w (w.drewN nq) := (Keeps.refl _ _).drewN nq
      generalize w.drewN nq = w1 at *
      clear c0 c1 c2 c3 c4 z1 z2 z3
      obtain ⟨c0, c1, c2, c3, c4, z1, z2, z3⟩ := hin1.cells
      have Hin1 := Lib.hid hin1
      have Hk1 := Lib.hid hk1
      clear hin1 hk1
      go_wp2_with fail
      go_end0
      rw [He.out]
      refine ⟨rfl, ⟨a, 5, .slice p out.length c, ?_, ?_⟩, Hk1.out.setR 2 _⟩
      · unfold putO
        rw [if_pos (by omega)]
        exact Hin1.out.setNo 5 (by decide) _ rfl
      · rw [putS_ok, if_pos (by omega)]; rfl
    · have hd : decide ((most : Int) ≤ (out.length : Int)) = false := decide_eq_false hf
      go_enter Tryd.func56, Tryd.ntmps56
      go_wp2_with fail
      go_quiet (fail)
      have hin1 := Hin.out.drewN nq
      have hk1 : Keeps (okOut R base) w (w.drewN nq) := (Keeps.refl _ _).drewN nq
      have hbz1 : base ≤ (w.drewN nq).heap.size := hbz
      generalize w.drewN nq = w1 at *
      clear c0 c1 c2 c3 c4 z1 z2 z3
      obtain ⟨c0, c1, c2, c3, c4, z1, z2, z3⟩ := hin1.cells
      have Hin1 := Lib.hid hin1
      have Hk1 := Lib.hid hk1
      clear hin1 hk1
      go_wp2_with (at_builtin; refine wpList_append_own_at _ rfl _ _ 39 rfl base 5 i0 (.int .u8 0) 1 1 Tryd.underlying39 Hi.out Hz0.out Hz1.out Hz2.out rfl (by decide) _ _ _ rfl (Hin1.out.row.alloc _) ⟨w1.heap.size, 0, none⟩ 1 1 [.int .u8 (b.toNat : Int)] rfl rfl (cell_one_new _ _ _) (by simp [Value.oneCell']) (by unfold maxLen; omega) (by omega) (by simp only [World.size_alloc]; omega) ?_; intro v' w2 hown' hgrow _ _
                   obtain ⟨p', m', c', rfl⟩ := ownsRow_slice hown'
                   obtain ⟨q1, q2, q3⟩ := Hin1.out.pushed (b := b) hown' hgrow
                   have g5 := cell_of_row _ _ 3 _ _ _ q1
                   have g6 : w2.frozen? ⟨R, 3, none⟩ = false := frozen_of_row _ _ _ _ _ q1
                   have hk2 := Hk1.out.trans q3
                   have Hq2 := Lib.hid q2
                   have Hk2 := Lib.hid hk2
                   clear q1 q2 q3 hk2 hown' hgrow)
      go_end0
      rw [He.out]
      refine ⟨rfl, ⟨a, 0, .slice p' m' c', ?_, ?_⟩, Hk2.out⟩
      · unfold putO
        rw [if_neg (by omega)]
        exact Hq2.out
      · rw [putS_ok, if_neg (by omega), ← He.out]
  · have hnb : ((n : Int) == 0) = false := by simp; omega
    have he : rsOf s a n = .error n := by unfold rsOf; rw [if_neg hn]
    have He := Lib.hid he
    clear he
    go_enter Tryd.func56, Tryd.ntmps56
    go_wp2_with fail
    go_quiet (fail)
    have hin1 := Hin.out.drewN nq
    have hk1 : Keeps (okOut R base) w (w.drewN nq) := (Keeps.refl _ _).drewN nq
    generalize w.drewN nq = w1 at *
    clear c0 c1 c2 c3 c4 z1 z2 z3
    obtain ⟨c0, c1, c2, c3, c4, z1, z2, z3⟩ := hin1.cells
    have Hin1 := Lib.hid hin1
    have Hk1 := Lib.hid hk1
    clear hin1 hk1
    go_wp2_with fail
    go_end0
    rw [He.out]
    exact ⟨rfl, ⟨a, n, _, Hin1.out, He.out.symm⟩, Hk1.out⟩
end
section
open Go.RowKit Go.Maps
theorem kraft_le (l : List Nat) : kraft l ≤ l.length * 16384 := by
  induction l with
  | nil => simp [kraft]
  | cons a t ih =>
    have : (if a = 0 then 0 else 2 ^ (15 - a)) ≤ 16384 := by
      split
      · omega
      · exact (Nat.pow_le_pow_right (by decide) (by omega) : 2 ^ (15 - a) ≤ 2 ^ 14)
    unfold kraft at ih ⊢
    rw [List.map_cons, List.sum_cons, List.length_cons]
    omega
theorem getD_le {l : List Nat} (h15 : ∀ x ∈ l, x ≤ 15) {i : Nat} (hi : i < l.length) : l.getD i 0 ≤ 15 := by
  rw [List.getD_eq_getElem?_getD, List.getElem?_eq_getElem hi]
  exact h15 _ (List.getElem_mem hi)

set_option maxRecDepth 100000 in
set_option maxHeartbeats 2000000 in
theorem rwhole_any (g off cap : Nat) (l : List Nat) (w : World) (hI : IntsAt w g off l) (hll : l.length ≤ 400) (h15 : ∀ x ∈ l, x ≤ 15) :
    Calls Tryd.prog 62 #[.slice (some ⟨g, off, none⟩) l.length cap] w fun e w' => e = .returned (.bool (((kraft l : Nat) : Int) == 32768)) ∧ w = w' := by
  obtain ⟨m, hm⟩ : ∃ m, m = l.length := ⟨_, rfl⟩
  rw [← hm]
  have hm400 : m ≤ 400 := by omega
  have Hm := Lib.hid hm
  have HI := Lib.hid hI
  have H15 := Lib.hid h15
  clear hI h15 hll hm
  go_enter Tryd.func62, Tryd.ntmps62
  go_wp2_with fail
  go_loop [3, 4] (fun sv iv => ∃ i x : Nat, iv = .int .i64 (i : Int) ∧ i ≤ m ∧ sv = .int .i64 (x : Int) ∧ x = kraft (l.take i)) (fun _ iv => m - (intOf iv).toNat)
  case atStart => exact ⟨0, 0, rfl, by omega, rfl, by simp [kraft]⟩
  case round =>
    obtain ⟨i, x, rfl, hi, rfl, hx⟩ := hrel
    have hxb : x ≤ 400 * 16384 := by
      have h1 := kraft_le (l.take i)
      have h2 : (l.take i).length ≤ i := List.length_take_le _ _
      rw [hx]
      have : (l.take i).length * 16384 ≤ 400 * 16384 := Nat.mul_le_mul_right _ (by omega)
      omega
    have Hx := Lib.hid hx
    clear hx
    by_cases hlt : (i : Int) < (m : Int)
    · have hil : i < l.length := by rw [← Hm.out]; omega
      have htk := take_snoc hil
      have hy15 := getD_le H15.out hil
      have cx := HI.out i hil
      obtain ⟨y, hy⟩ : ∃ y, y = l.getD i 0 := ⟨_, rfl⟩
      rw [← hy] at htk hy15 cx
      obtain ⟨ex, hex⟩ : ∃ e, e = 15 - y := ⟨_, rfl⟩
      have eS : (15 : Int) - (y : Int) = (ex : Int) := by omega
      obtain ⟨P, hP⟩ : ∃ P, P = 2 ^ ex := ⟨_, rfl⟩
      have eP : (2 : Int) ^ ex = (P : Int) := by rw [hP]; simp
      have hP1 : P ≤ 32768 := by rw [hP]; exact (Nat.pow_le_pow_right (by decide) (by omega) : 2 ^ ex ≤ 2 ^ 15)
      have Htk := Lib.hid htk
      have Hex := Lib.hid hex
      have HP := Lib.hid hP
      clear htk hy hex hP
      by_cases hy0 : 0 < (y : Int)
      · go_wp2_with fail
        go_round
        case rel => exact ⟨i + 1, x + P, by go_num, by omega, by go_num, by rw [Htk.out, kraft_snoc, if_neg (by omega), ← Hx.out, HP.out, Hex.out]⟩
        case measure => simp [intOf]; omega
      · go_wp2_with fail
        go_round
        case rel => exact ⟨i + 1, x, by go_num, by omega, rfl, by rw [Htk.out, kraft_snoc, if_pos (by omega), ← Hx.out]; rfl⟩
        case measure => simp [intOf]; omega
    · obtain rfl : i = m := by omega
      have hall : l.take i = l := List.take_of_length_le (by rw [← Hm.out]; exact Nat.le_refl _)
      rw [hall] at Hx
      clear hall
      go_wp2_with fail
      go_ret
      exact ⟨by rw [← Hx.out]; rfl, rfl⟩
theorem someN_snoc (l : List Nat) (x : Nat) : someN (l ++ [x]) = someN l + (if x = 0 then 0 else 1) := by
  unfold someN
  rw [List.filter_append, List.length_append]
  by_cases h : x = 0
  · subst h; rfl
  · rw [if_neg h]; simp [h]
theorem someN_le (l : List Nat) : someN l ≤ l.length := List.length_filter_le _ _

set_option maxRecDepth 100000 in
set_option maxHeartbeats 2000000 in
theorem rsome_any (g off cap : Nat) (l : List Nat) (w : World) (hI : IntsAt w g off l) (hll : l.length ≤ 400) :
    Calls Tryd.prog 64 #[.slice (some ⟨g, off, none⟩) l.length cap] w fun e w' => e = .returned (.int .i64 ((someN l : Nat) : Int)) ∧ w = w' := by
  obtain ⟨m, hm⟩ : ∃ m, m = l.length := ⟨_, rfl⟩
  rw [← hm]
  have hm400 : m ≤ 400 := by omega
  have Hm := Lib.hid hm
  have HI := Lib.hid hI
  clear hI hll hm
  go_enter Tryd.func64, Tryd.ntmps64
  go_wp2_with fail
  go_loop [3, 4] (fun sv iv => ∃ i x : Nat, iv = .int .i64 (i : Int) ∧ i ≤ m ∧ sv = .int .i64 (x : Int) ∧ x ≤ i ∧ x = someN (l.take i)) (fun _ iv => m - (intOf iv).toNat)
  case atStart => exact ⟨0, 0, rfl, by omega, rfl, by omega, by simp [someN]⟩
  case round =>
    obtain ⟨i, x, rfl, hi, rfl, hxi, hx⟩ := hrel
    have Hx := Lib.hid hx
    clear hx
    by_cases hlt : (i : Int) < (m : Int)
    · have hil : i < l.length := by rw [← Hm.out]; omega
      have htk := take_snoc hil
      have cx := HI.out i hil
      obtain ⟨y, hy⟩ : ∃ y, y = l.getD i 0 := ⟨_, rfl⟩
      rw [← hy] at htk cx
      have Htk := Lib.hid htk
      clear htk hy
      by_cases hy0 : 0 < (y : Int)
      · go_wp2_with fail
        go_round
        case rel => exact ⟨i + 1, x + 1, by go_num, by omega, by go_num, by omega, by rw [Htk.out, someN_snoc, if_neg (by omega), ← Hx.out]⟩
        case measure => simp [intOf]; omega
      · go_wp2_with fail
        go_round
        case rel => exact ⟨i + 1, x, by go_num, by omega, rfl, by omega, by rw [Htk.out, someN_snoc, if_pos (by omega), ← Hx.out]; rfl⟩
        case measure => simp [intOf]; omega
    · obtain rfl : i = m := by omega
      have hall : l.take i = l := List.take_of_length_le (by rw [← Hm.out]; exact Nat.le_refl _)
      rw [hall] at Hx
      clear hall
      go_wp2_with fail
      go_ret
      exact ⟨ret_num (by rw [← Hx.out]), rfl⟩
/-- a code as a map -/
def CodeM (w : World) (C : Nat) (l : List Nat) : Prop := ∃ (n : Nat) (D : DataW Nat), w.ownsMap Tryd.prog 9 (plainElem Tryd.prog 3) C n D ∧ CodeD l D l.length
theorem CodeM.lt {w : World} {C : Nat} {l : List Nat} (h : CodeM w C l) : C < w.heap.size := let ⟨_, _, h1, _⟩ := h; h1.lt
theorem ownsMap_block {w w' : World} {n C : Nat} {D : DataW Nat} (h : w.ownsMap Tryd.prog 9 (plainElem Tryd.prog 3) C n D) (hb : ∀ es c, w.heap[C]? = some (.map es c) → w'.heap[C]? = some (.map es c)) : w'.ownsMap Tryd.prog 9 (plainElem Tryd.prog 3) C n D := by
  obtain ⟨es, c, hM, hD⟩ := h
  exact ⟨es, c, hb _ _ hM, hD⟩
theorem CodeM.keeps {ok : Nat → Obj → Prop} {w w' : World} {C : Nat} {l : List Nat} (h : CodeM w C l) (hk : Keeps ok w w') (h1 : ∀ es c, ok C (.map es c)) : CodeM w' C l := by
  obtain ⟨n, D, hm, hD⟩ := h
  exact ⟨n, D, ownsMap_block hm (fun es c hb => hk.block _ _ hb (h1 es c)), hD⟩
theorem CodeM.below {w w' : World} {B C : Nat} {l : List Nat} (h : CodeM w C l) (hb : Below B w w') (hC : C < B) : CodeM w' C l := by
  obtain ⟨n, D, hm, hD⟩ := h
  exact ⟨n, D, ownsMap_block hm (fun es c hx => (hb.block C hC).trans hx), hD⟩
theorem CodeM.out {w w' : World} {C R base most : Nat} {l : List Nat} {s : ByteArray} {out : List UInt8} {st : RS} (h : CodeM w C l) (hR : RdAt w R base s most out st) (hk : Keeps (okOut R base) w w') : CodeM w' C l := by
  obtain ⟨n, D, ⟨es, c, hM, hx⟩, hD⟩ := h
  obtain ⟨a, k, ov, hin, _⟩ := hR
  have hne : C ≠ R := by
    rintro rfl
    have := hin.o
    rw [hM] at this
    cases this
  exact ⟨n, D, ⟨es, c, hk.block _ _ hM ⟨hne, .inr (fun cs fz e => by cases e)⟩, hx⟩, hD⟩

set_option maxRecDepth 100000 in
set_option maxHeartbeats 4000000 in
theorem rcoded_any (g off cap : Nat) (l : List Nat) (w : World) (hI : IntsAt w g off l) (hg : g < w.heap.size) (hll : l.length ≤ 400) (h15 : ∀ x ∈ l, x ≤ 15) (hk : kraft l ≤ 32768) :
    Calls Tryd.prog 28 #[.slice (some ⟨g, off, none⟩) l.length cap] w fun e w' => e = .returned (.map (some w.heap.size)) ∧ CodeM w' w.heap.size l ∧ Below w.heap.size w w' := by
  have hmm := @run_makeMap Tryd.prog
  obtain ⟨m, hm⟩ : ∃ m, m = l.length := ⟨_, rfl⟩
  have hcd := fun W (hW : IntsAt W g off l) (hgW : g < W.heap.size) => rcodes_any g off cap l W hW hgW hll h15
  rw [← hm] at hcd ⊢
  have hm400 : m ≤ 400 := by omega
  have hI1 : IntsAt (w.alloc (.map #[] 0)) g off l := fun j hj => by
    have h := hI j hj
    have hb : Below w.heap.size w (w.alloc (.map #[] 0)) := (Below.refl _ _).alloc (Nat.le_refl _) _
    rw [hb.cell (p := ⟨g, off + j, none⟩) hg]
    exact h
  have hcd1 := hcd (w.alloc (.map #[] 0)) hI1 (by simp only [World.size_alloc]; omega)
  simp only [World.size_alloc] at hcd1
  have Hcd := Lib.hid hcd1
  have Hm := Lib.hid hm
  have H15 := Lib.hid h15
  have Hk := Lib.hid hk
  clear hcd hcd1 hI hI1 hll hm h15 hk
  go_enter Tryd.func28, Tryd.ntmps28
  go_wp2_with (go_at_call 42; refine (Hcd.out).mono ?_; rintro e w1 ⟨rfl, hT, hb⟩
               have hmap : w1.ownsMap Tryd.prog 9 (plainElem (H := Nat) Tryd.prog 3) w.heap.size 0 (.map []) := (by
                 refine ownsMap_block (World.ownsMap_made w _ _ _) (fun es c hx => ?_)
                 rw [hb.block w.heap.size (by omega)]
                 exact hx)
               have hbb : Below w.heap.size w w1 := ((Below.refl w.heap.size w).alloc (Nat.le_refl _) _).trans (hb.mono (by omega))
               have HT := Lib.hid hT
               have Hmap := Lib.hid hmap
               have Hbb := Lib.hid hbb
               clear hT hb hmap hbb)
  clear hmm
  generalize hB : w.heap.size = B at *
  have HB := Lib.hid hB
  clear hB
  go_loopw [5] (fun iv wr => ∃ (i : Nat) (D : DataW Nat), iv = .int .i64 (i : Int) ∧ i ≤ m ∧ wr.ownsMap Tryd.prog 9 (plainElem Tryd.prog 3) B i D ∧ CodeD l D i ∧ TextsAt wr (B + 1) m (codesF l) ∧ Below B w wr) (fun iv _ => m - (intOf iv).toNat)
  case atStart => exact ⟨0, .map [], rfl, by omega, Hmap.out, CodeD.start l, HT.out, Hbb.out⟩
  case round =>
    obtain ⟨i, D, rfl, hi, hown, hD, hT, hb⟩ := hrel
    have Hown := Lib.hid hown
    have HD := Lib.hid hD
    have HTr := Lib.hid hT
    have Hb := Lib.hid hb
    clear hown hD hT hb
    by_cases hlt : (i : Int) < (m : Int)
    · have hil : i < l.length := by rw [← Hm.out]; omega
      obtain ⟨c1, c2⟩ := HTr.out.cell i (by omega)
      obtain ⟨t, ht⟩ : ∃ t, t = bs (bitsT (codesF l i)) := ⟨_, rfl⟩
      rw [← ht] at c1
      by_cases h0 : l.getD i 0 = 0
      · have hte : t.toList.isEmpty = true := by
          rw [ByteArray.toList_eq, ht]
          unfold codesF
          rw [if_pos h0]; rfl
        have H0 := Lib.hid h0
        clear ht h0
        go_wp2_with fail
        go_roundw
        case rel => exact ⟨i + 1, D, by go_num, by omega, Hown.out.mono (Nat.le_succ _), HD.out.skip hil H0.out, HTr.out, Hb.out⟩
        case measure => simp [intOf]; omega
      · have hcf : codesF l i = codeB l i := by unfold codesF; rw [if_neg h0]
        rw [hcf] at ht
        have hpos : (bitsT (codeB l i)).length = l.getD i 0 := by unfold codeB; rw [bitsT_length, high_length]
        have hte : t.toList.isEmpty = false := by
          rw [ByteArray.toList_eq, ht]
          show (bitsT (codeB l i)).isEmpty = false
          cases hx : bitsT (codeB l i) with
          | nil => rw [hx] at hpos; exact absurd hpos.symm h0
          | cons _ _ => rfl
        have hkey : keyOf Tryd.prog 9 (.string t) = some (.string (bitsT (codeB l i))) := by
          rw [WideMaps.keyOf_string_mk Tryd.underlying9 (by
            rw [ht]
            show (bitsT (codeB l i)).length ≤ maxLen
            rw [hpos]
            have := getD_le H15.out hil
            unfold maxLen; omega), ht]
          rfl
        have H0 := Lib.hid h0
        have Hkey := Lib.hid hkey
        clear ht h0 hkey hcf hpos
        go_wp2_with (at_mapUpdate; refine wpList_mapUpdate_own _ rfl _ _ _ 48 rfl 9 3 Tryd.keyed_str Tryd.underlying48 _ B i D rfl Hown.out (by unfold maxLen; omega) _ _ _ rfl rfl Hkey.out _ [] (plainElem_int Tryd.underlying3 (WalkArith.wf_i64 (by omega))) ?_; intro w2 hown2 hgrow2
                     have hT2 := HTr.out.kept hgrow2 (by simp)
                     have hB2 := Hb.out.grown hgrow2 (Nat.le_trans (Nat.le_succ B) (by have := HTr.out.lt; omega)) (fun j hj => by cases hj; exact Nat.le_refl _)
                     have hD2 := HD.out.next (Hown.out.tidy Tryd.keyed_str) Hk.out H15.out hil H0.out
                     have HT2 := Lib.hid hT2
                     have HB2 := Lib.hid hB2
                     have HD2 := Lib.hid hD2
                     have Hown2 := Lib.hid hown2
                     clear hT2 hB2 hD2 hown2 hgrow2)
        go_roundw
        case rel => exact ⟨i + 1, _, by go_num, by omega, Hown2.out, HD2.out, HT2.out, HB2.out⟩
        case measure => simp [intOf]; omega
    · obtain rfl : i = m := by omega
      go_wp2_with fail
      go_ret
      rw [HB.out]
      exact ⟨rfl, ⟨i, D, Hown.out, by rw [← Hm.out]; exact HD.out⟩, Hb.out⟩
end
section
open Go.RowKit Go.Maps
/-- where the reading of a symbol stands behind k bits -/
inductive SymSt (l : List Nat) (o : Except Nat (Nat × List Bool)) (k : Nat) (t : ByteArray) : RS → Prop
  | bad (e : Nat) (ho : o = .error e) : SymSt l o k t (.error e)
  | none (r : List Bool) (h0 : someN l = 0) (ho : o = .error 4) : SymSt l o k t (.ok r)
  | go (r : List Bool) (x : Nat) (ht : t = bs (bitsT (high x k))) (hx : x < 2 ^ k) (hn : nxt l k ≤ x) (h0 : someN l ≠ 0) (ho : symGo l (15 - k) k x (nxt l k) r = o) : SymSt l o k t (.ok r)
theorem SymSt.start (l : List Nat) (h15 : ∀ x ∈ l, x ≤ 15) (st : RS) : SymSt l (symO l st) 0 ⟨#[]⟩ st := by
  cases st with
  | error e => exact .bad e rfl
  | ok r =>
    by_cases h0 : someN l = 0
    · refine .none r h0 ?_
      show symP l r = _
      unfold symP
      rw [syms_some _ l rfl h15, if_pos h0]
    · refine .go r 0 rfl (by decide) (by simp [nxt]) h0 ?_
      show _ = symP l r
      unfold symP
      rw [syms_some _ l rfl h15, if_neg h0]; rfl
theorem rs_error {s : ByteArray} {a n e : Nat} (h : (.error e : RS) = rsOf s a n) : n = e ∧ n ≠ 0 := by
  unfold rsOf at h
  split at h
  · cases h
  · injection h with h; exact ⟨h.symm, by assumption⟩
theorem rs_ok {s : ByteArray} {a n : Nat} {r : List Bool} (h : (.ok r : RS) = rsOf s a n) : n = 0 := by
  unfold rsOf at h
  split at h
  · assumption
  · cases h
theorem conv_one (W : World) (v : Nat) (hv : v ≤ 1) : (convert 39 9 (.slice (some ⟨W.heap.size, 0, none⟩) 1 1)).run Tryd.prog (W.alloc (.cells #[.int .u8 (48 + (v : Int))] 5)) =
    .ok (.string (bs [chB (v == 1)])) (W.alloc (.cells #[.int .u8 (48 + (v : Int))] 5)) := by
  have h := conv_new W [chB (v == 1)]
  have e : ([chB (v == 1)].map encB).toArray = #[.int .u8 (48 + (v : Int))] := by
    rcases (by omega : v = 0 ∨ v = 1) with rfl | rfl <;> rfl
  rw [e] at h
  exact h

set_option maxRecDepth 100000 in
set_option maxHeartbeats 8000000 in
theorem rsymbol_any (R base most C : Nat) (s : ByteArray) (out : List UInt8) (st : RS) (l : List Nat) (w : World) (hR : RdAt w R base s most out st) (hC : CodeM w C l) (hk : kraft l ≤ 32768) (h15 : ∀ x ∈ l, x ≤ 15) (hll : l.length ≤ 400) (hs : s.size < 2 ^ 40) :
    Calls Tryd.prog 57 #[.pointer (some ⟨R, 0, none⟩), .map (some C)] w fun e w' => e = .returned (.int .i64 (symV (symO l st))) ∧ RdAt w' R base s most out (symT (symO l st)) ∧ Keeps (okOut R base) w w' := by
  obtain ⟨o, ho⟩ : ∃ o, o = symO l st := ⟨_, rfl⟩
  have hst0 := SymSt.start l h15 st
  rw [← ho] at hst0 ⊢
  obtain ⟨nM, D, hown, hD⟩ := hC
  have hsz : Maps.size D = someN l := by rw [hD.size, List.take_length]
  obtain ⟨N, hN⟩ : ∃ N, N = someN l := ⟨_, rfl⟩
  have hN400 : N ≤ 400 := by rw [hN]; exact Nat.le_trans (someN_le l) hll
  rw [← hN] at hsz
  have HR := Lib.hid hR
  have Hst0 := Lib.hid hst0
  have Hown := Lib.hid hown
  have HD := Lib.hid hD
  have Hsz := Lib.hid hsz
  have HN := Lib.hid hN
  have Hk0 := Lib.hid hk
  have H15 := Lib.hid h15
  clear hR hst0 hown hD hsz hN hk h15 ho
  have hlen : ∀ W, Keeps (okOut R base) w W → W.ownsMap Tryd.prog 9 (plainElem Tryd.prog 3) C nM D ∧ (Builtin.len_ #[48] 3 #[.map (some C)]).run Tryd.prog W = .ok (.int .i64 (N : Int)) W := by
    intro W hW
    have hc : W.ownsMap Tryd.prog 9 (plainElem Tryd.prog 3) C nM D := by
      obtain ⟨a, n, ov, hin, _⟩ := HR.out
      refine ownsMap_block Hown.out (fun es c hb => hW.block _ _ hb ⟨?_, .inr (fun cs fz e => by cases e)⟩)
      rintro rfl
      have := hin.o
      rw [hb] at this
      cases this
    refine ⟨hc, ?_⟩
    have := hc.len Tryd.underlying48 3
    rw [Hsz.out] at this
    exact this
  have Hlen := Lib.hid hlen
  clear hlen
  go_enter Tryd.func57, Tryd.ntmps57
  go_wp2_with fail
  go_loopw [5] (fun tv wr => ∃ (k : Nat) (t : ByteArray) (st1 : RS), tv = .string t ∧ t.size = k ∧ k ≤ 15 ∧ RdAt wr R base s most out st1 ∧ Keeps (okOut R base) w wr ∧ SymSt l o k t st1) (fun tv _ => match tv with | .string t => 15 - t.size | _ => 0)
  case atStart => exact ⟨0, ⟨#[]⟩, st, rfl, rfl, by omega, HR.out, Keeps.refl _ _, Hst0.out⟩
  case round =>
    obtain ⟨k, t, st1, rfl, htk, hk15, hr1, hk1, hss⟩ := hrel
    obtain ⟨hmap, hln⟩ := Hlen.out wr hk1
    have Hmap := Lib.hid hmap
    have Hr1 := Lib.hid hr1
    have Hk := Lib.hid hk1
    clear hmap hr1 hk1
    cases hss with
    | bad e ho =>
      obtain ⟨a, n, ov, hin, he⟩ := Hr1.out
      obtain ⟨rfl, hn0⟩ := rs_error he
      have hnb : ((n : Int) == 0) = false := by simp; omega
      obtain ⟨c0, c1, c2, c3, c4, z1, z2, z3⟩ := hin.cells
      have Ho := Lib.hid ho
      clear hin he ho hn0
      by_cases hlt : (t.size : Int) < 15
      all_goals
        go_wp2_with (go_at_call 55; refine (rwrong_any R base most s out _ 4 _ Hr1.out (by decide) (by decide)).mono ?_; rintro e w9 ⟨rfl, hr9, hk9⟩
                     have hk10 := Hk.out.trans hk9
                     have Hr9 := Lib.hid hr9
                     have Hk10 := Lib.hid hk10
                     clear hr9 hk9 hk10)
        go_ret
        rw [Ho.out]
        exact ⟨rfl, Hr9.out, Hk10.out⟩
    | none r h0 ho =>
      obtain ⟨a, n, ov, hin, he⟩ := Hr1.out
      obtain rfl := rs_ok he
      obtain ⟨c0, c1, c2, c3, c4, z1, z2, z3⟩ := hin.cells
      obtain rfl : N = 0 := by rw [HN.out, h0]
      have Ho := Lib.hid ho
      clear hin he ho h0
      by_cases hlt : (t.size : Int) < 15
      all_goals
        go_wp2_with (go_at_call 55; refine (rwrong_any R base most s out _ 4 _ Hr1.out (by decide) (by decide)).mono ?_; rintro e w9 ⟨rfl, hr9, hk9⟩
                     have hk10 := Hk.out.trans hk9
                     have Hr9 := Lib.hid hr9
                     have Hk10 := Lib.hid hk10
                     clear hr9 hk9 hk10)
        go_ret
        rw [Ho.out]
        exact ⟨rfl, Hr9.out, Hk10.out⟩
    | go r x ht hx hn h0 ho =>
      have hN0 : 0 < (N : Int) := by rw [HN.out]; omega
      obtain ⟨a, n, ov, hin, he⟩ := Hr1.out
      obtain rfl := rs_ok he
      obtain ⟨c0, c1, c2, c3, c4, z1, z2, z3⟩ := hin.cells
      have H0 := Lib.hid h0
      clear hin he h0
      by_cases hlt : (t.size : Int) < 15
      · have hbit := rbit_any R base most s out (.ok r) wr Hr1.out hs
        obtain ⟨f, hf⟩ : ∃ f, 15 - k = f + 1 := ⟨14 - k, by omega⟩
        rw [hf] at ho
        have hsyms : (symsN l).length = N := by rw [syms_some _ l rfl H15.out, HN.out]
        cases r with
        | nil =>
          have ho2 : o = .error 2 := by rw [← ho]; rfl
          obtain ⟨v, hv⟩ : ∃ v, v = bitV (.ok []) := ⟨_, rfl⟩
          have hv1 : v ≤ 1 := by rw [hv]; exact bitV_le _
          rw [← hv] at hbit
          have hcv := fun W => conv_one W v hv1
          obtain ⟨cs, hcs⟩ : ∃ c, c = bs [chB (v == 1)] := ⟨_, rfl⟩
          have hcz : cs.size = 1 := by rw [hcs]; rfl
          have hcz2 : cs.size ≤ 1 := by omega
          simp only [← hcs] at hcv
          obtain ⟨xb, hxb⟩ : ∃ xb : List Bool, xb = high x k ++ [v == 1] := ⟨_, rfl⟩
          have htc : t ++ cs = bs (bitsT xb) := by rw [ht, hcs, append_bs, hxb, bitsT_append]; rfl
          have hkey : keyOf Tryd.prog 9 (.string (t ++ cs)) = some (.string (bitsT xb)) := by
            rw [WideMaps.keyOf_string_mk Tryd.underlying9 (by rw [ByteArray.size_append]; unfold maxLen; omega), htc]
            rfl
          have Hcz := Lib.hid hcz
          have Hkey := Lib.hid hkey
          have Hbit := Lib.hid hbit
          have Ho := Lib.hid ho2
          clear ht hx hn ho ho2 hbit hcs hkey htc hxb hsyms hcz hv
          cases hhas : Maps.has D (.string (bitsT xb)) with
          | true =>
            by_cases hN1 : ((N : Int) == 1) = true
            · go_wp2_with (first
                | (go_at_call 25; refine (Hbit.out).mono ?_; rintro e w1 ⟨rfl, hr2, hk2⟩
                   have hcv1 := hcv w1
                   have hr3 : RdAt (w1.alloc (.cells #[.int .u8 (48 + (v : Int))] 5)) R base s most out (.error 2) := hr2.keeps (ok := fun _ _ => True) ((Keeps.refl _ _).alloc _) (fun _ => trivial) (fun _ _ _ => trivial)
                   have hk3 := (Hk.out.trans hk2).alloc (.cells #[.int .u8 (48 + (v : Int))] 5)
                   obtain ⟨hmap3, hln3⟩ := Hlen.out _ hk3
                   obtain ⟨a3, n3, ov3, hin3, he3⟩ := hr3
                   obtain ⟨hn3, hn30⟩ := rs_error he3; subst hn3
                   obtain ⟨d0, d1, d2, d3, d4, y1, y2, y3⟩ := hin3.cells
                   have hr3' : RdAt _ R base s most out (.error 2) := ⟨a3, _, ov3, hin3, he3⟩
                   have Hr3 := Lib.hid hr3'
                   have Hk3 := Lib.hid hk3
                   have Hmap3 := Lib.hid hmap3
                   clear hr2 hk2 hk3 hmap3 hin3 he3 hr3' hcv)
                | (at_lookup; refine wpList_lookup_own_ok_int _ rfl _ _ 48 rfl 9 3 .i64 Tryd.keyed_str Tryd.underlying48 Tryd.underlying3 (Tryd.zero_int _) C nM D rfl Hmap3.out _ _ rfl Hkey.out ?_; intro c hat hwc; rw [hhas]; clear hat hwc)
                | (go_at_call 55; refine (rwrong_any R base most s out (.error 2) 4 _ Hr3.out (by decide) (by decide)).mono ?_; rintro e w4 ⟨rfl, hr4, hk4⟩
                   have hk5 := Hk3.out.trans hk4
                   have Hr4 := Lib.hid hr4
                   have Hk5 := Lib.hid hk5
                   clear hr4 hk4 hk5))
              go_roundw
              case rel => exact ⟨k + 1, t ++ cs, .error 2, rfl, by rw [ByteArray.size_append, Hcz.out]; omega, by omega, Hr4.out, Hk5.out, .bad 2 Ho.out⟩
              case measure => show 15 - (t ++ cs).size < 15 - t.size; rw [ByteArray.size_append, Hcz.out]; omega
            · rw [Bool.not_eq_true] at hN1
              go_wp2_with (first
                | (go_at_call 25; refine (Hbit.out).mono ?_; rintro e w1 ⟨rfl, hr2, hk2⟩
                   have hcv1 := hcv w1
                   have hr3 : RdAt (w1.alloc (.cells #[.int .u8 (48 + (v : Int))] 5)) R base s most out (.error 2) := hr2.keeps (ok := fun _ _ => True) ((Keeps.refl _ _).alloc _) (fun _ => trivial) (fun _ _ _ => trivial)
                   have hk3 := (Hk.out.trans hk2).alloc (.cells #[.int .u8 (48 + (v : Int))] 5)
                   obtain ⟨hmap3, hln3⟩ := Hlen.out _ hk3
                   obtain ⟨a3, n3, ov3, hin3, he3⟩ := hr3
                   obtain ⟨hn3, hn30⟩ := rs_error he3; subst hn3
                   obtain ⟨d0, d1, d2, d3, d4, y1, y2, y3⟩ := hin3.cells
                   have hr3' : RdAt _ R base s most out (.error 2) := ⟨a3, _, ov3, hin3, he3⟩
                   have Hr3 := Lib.hid hr3'
                   have Hk3 := Lib.hid hk3
                   have Hmap3 := Lib.hid hmap3
                   clear hr2 hk2 hk3 hmap3 hin3 he3 hr3' hcv)
                | (at_lookup; refine wpList_lookup_own_ok_int _ rfl _ _ 48 rfl 9 3 .i64 Tryd.keyed_str Tryd.underlying48 Tryd.underlying3 (Tryd.zero_int _) C nM D rfl Hmap3.out _ _ rfl Hkey.out ?_; intro c hat hwc; rw [hhas]; clear hat hwc))
              go_roundw
              case rel => exact ⟨k + 1, t ++ cs, .error 2, rfl, by rw [ByteArray.size_append, Hcz.out]; omega, by omega, Hr3.out, Hk3.out, .bad 2 Ho.out⟩
              case measure => show 15 - (t ++ cs).size < 15 - t.size; rw [ByteArray.size_append, Hcz.out]; omega
          | false =>
            by_cases hN1 : ((N : Int) == 1) = true
            · go_wp2_with (first
                | (go_at_call 25; refine (Hbit.out).mono ?_; rintro e w1 ⟨rfl, hr2, hk2⟩
                   have hcv1 := hcv w1
                   have hr3 : RdAt (w1.alloc (.cells #[.int .u8 (48 + (v : Int))] 5)) R base s most out (.error 2) := hr2.keeps (ok := fun _ _ => True) ((Keeps.refl _ _).alloc _) (fun _ => trivial) (fun _ _ _ => trivial)
                   have hk3 := (Hk.out.trans hk2).alloc (.cells #[.int .u8 (48 + (v : Int))] 5)
                   obtain ⟨hmap3, hln3⟩ := Hlen.out _ hk3
                   obtain ⟨a3, n3, ov3, hin3, he3⟩ := hr3
                   obtain ⟨hn3, hn30⟩ := rs_error he3; subst hn3
                   obtain ⟨d0, d1, d2, d3, d4, y1, y2, y3⟩ := hin3.cells
                   have hr3' : RdAt _ R base s most out (.error 2) := ⟨a3, _, ov3, hin3, he3⟩
                   have Hr3 := Lib.hid hr3'
                   have Hk3 := Lib.hid hk3
                   have Hmap3 := Lib.hid hmap3
                   clear hr2 hk2 hk3 hmap3 hin3 he3 hr3' hcv)
                | (at_lookup; refine wpList_lookup_own_ok_int _ rfl _ _ 48 rfl 9 3 .i64 Tryd.keyed_str Tryd.underlying48 Tryd.underlying3 (Tryd.zero_int _) C nM D rfl Hmap3.out _ _ rfl Hkey.out ?_; intro c hat hwc; rw [hhas]; clear hat hwc)
                | (go_at_call 55; refine (rwrong_any R base most s out (.error 2) 4 _ Hr3.out (by decide) (by decide)).mono ?_; rintro e w4 ⟨rfl, hr4, hk4⟩
                   have hk5 := Hk3.out.trans hk4
                   have Hr4 := Lib.hid hr4
                   have Hk5 := Lib.hid hk5
                   clear hr4 hk4 hk5))
              go_roundw
              case rel => exact ⟨k + 1, t ++ cs, .error 2, rfl, by rw [ByteArray.size_append, Hcz.out]; omega, by omega, Hr4.out, Hk5.out, .bad 2 Ho.out⟩
              case measure => show 15 - (t ++ cs).size < 15 - t.size; rw [ByteArray.size_append, Hcz.out]; omega
            · rw [Bool.not_eq_true] at hN1
              go_wp2_with (first
                | (go_at_call 25; refine (Hbit.out).mono ?_; rintro e w1 ⟨rfl, hr2, hk2⟩
                   have hcv1 := hcv w1
                   have hr3 : RdAt (w1.alloc (.cells #[.int .u8 (48 + (v : Int))] 5)) R base s most out (.error 2) := hr2.keeps (ok := fun _ _ => True) ((Keeps.refl _ _).alloc _) (fun _ => trivial) (fun _ _ _ => trivial)
                   have hk3 := (Hk.out.trans hk2).alloc (.cells #[.int .u8 (48 + (v : Int))] 5)
                   obtain ⟨hmap3, hln3⟩ := Hlen.out _ hk3
                   obtain ⟨a3, n3, ov3, hin3, he3⟩ := hr3
                   obtain ⟨hn3, hn30⟩ := rs_error he3; subst hn3
                   obtain ⟨d0, d1, d2, d3, d4, y1, y2, y3⟩ := hin3.cells
                   have hr3' : RdAt _ R base s most out (.error 2) := ⟨a3, _, ov3, hin3, he3⟩
                   have Hr3 := Lib.hid hr3'
                   have Hk3 := Lib.hid hk3
                   have Hmap3 := Lib.hid hmap3
                   clear hr2 hk2 hk3 hmap3 hin3 he3 hr3' hcv)
                | (at_lookup; refine wpList_lookup_own_ok_int _ rfl _ _ 48 rfl 9 3 .i64 Tryd.keyed_str Tryd.underlying48 Tryd.underlying3 (Tryd.zero_int _) C nM D rfl Hmap3.out _ _ rfl Hkey.out ?_; intro c hat hwc; rw [hhas]; clear hat hwc))
              go_roundw
              case rel => exact ⟨k + 1, t ++ cs, .error 2, rfl, by rw [ByteArray.size_append, Hcz.out]; omega, by omega, Hr3.out, Hk3.out, .bad 2 Ho.out⟩
              case measure => show 15 - (t ++ cs).size < 15 - t.size; rw [ByteArray.size_append, Hcz.out]; omega
        | cons b r =>
          obtain ⟨v, hv⟩ : ∃ v, v = bitV (.ok (b :: r)) := ⟨_, rfl⟩
          have hv1 : v ≤ 1 := by rw [hv]; exact bitV_le _
          have hvb : (v == 1) = b := by rw [hv]; cases b <;> rfl
          have hvi : (if b = true then 1 else 0) = v := by rw [hv]; rfl
          rw [← hv] at hbit
          have hcv := fun W => conv_one W v hv1
          obtain ⟨cs, hcs⟩ : ∃ c, c = bs [chB (v == 1)] := ⟨_, rfl⟩
          have hcz : cs.size = 1 := by rw [hcs]; rfl
          have hcz2 : cs.size ≤ 1 := by omega
          simp only [← hcs] at hcv
          obtain ⟨x', hx'⟩ : ∃ x', x' = 2 * x + v := ⟨_, rfl⟩
          have hhx : high x' (k + 1) = high x k ++ [b] := by rw [hx', ← hvi]; exact high_snoc x b k
          have hx2 : x' < 2 ^ (k + 1) := by rw [Nat.pow_succ]; omega
          have htc : t ++ cs = bs (bitsT (high x' (k + 1))) := by rw [ht, hcs, append_bs, hhx, bitsT_append, hvb]; rfl
          have hkey : keyOf Tryd.prog 9 (.string (t ++ cs)) = some (.string (bitsT (high x' (k + 1)))) := by
            rw [WideMaps.keyOf_string_mk Tryd.underlying9 (by rw [ByteArray.size_append]; unfold maxLen; omega), htc]
            rfl
          obtain ⟨g1, g2⟩ := sym_has HD.out Hk0.out (k := k) (x := x') (by omega) hx2 (by omega)
          have hnx : nxt l (k + 1) = 2 * nxt l k + cntN l (k + 1) := rfl
          rw [symGo, hvi, ← hx', ← hnx] at ho
          have hst : bitN (.ok (b :: r)) = .ok r := rfl
          rw [hst] at hbit
          have Hcz := Lib.hid hcz
          have Hkey := Lib.hid hkey
          have Hbit := Lib.hid hbit
          have Htc := Lib.hid htc
          have Hx2 := Lib.hid hx2
          have Hhx := Lib.hid hx'
          by_cases hf : x' < nxt l (k + 1)
          · rw [if_pos hf] at ho
            have hhas := g1.2 hf
            have hval := g2 hf
            obtain ⟨y, hy⟩ : ∃ y, y = (symsN l).getD ((symsTo l k).length + (x' - 2 * nxt l k)) 0 := ⟨_, rfl⟩
            rw [← hy] at ho hval
            have Ho := Lib.hid ho
            have Hval := Lib.hid hval
            generalize high x' (k + 1) = xb at *
            clear ht hx hn ho hbit hcs hkey htc hsyms hcz hv hvb hvi hx' hhx hx2 g1 g2 hnx hval hy hf hst H0
            go_wp2_with (first
              | (go_at_call 25; refine (Hbit.out).mono ?_; rintro e w1 ⟨rfl, hr2, hk2⟩
                 have hcv1 := hcv w1
                 have hr3 : RdAt (w1.alloc (.cells #[.int .u8 (48 + (v : Int))] 5)) R base s most out (.ok r) := hr2.keeps (ok := fun _ _ => True) ((Keeps.refl _ _).alloc _) (fun _ => trivial) (fun _ _ _ => trivial)
                 have hk3 := (Hk.out.trans hk2).alloc (.cells #[.int .u8 (48 + (v : Int))] 5)
                 obtain ⟨hmap3, hln3⟩ := Hlen.out _ hk3
                 obtain ⟨a3, n3, ov3, hin3, he3⟩ := hr3
                 obtain rfl := rs_ok he3
                 obtain ⟨d0, d1, d2, d3, d4, y1, y2, y3⟩ := hin3.cells
                 have hr3' : RdAt _ R base s most out (.ok r) := ⟨a3, _, ov3, hin3, he3⟩
                 have Hr3 := Lib.hid hr3'
                 have Hk3 := Lib.hid hk3
                 have Hmap3 := Lib.hid hmap3
                 clear hr2 hk2 hk3 hmap3 hin3 he3 hr3' hcv)
              | (at_lookup; refine wpList_lookup_own_ok_int _ rfl _ _ 48 rfl 9 3 .i64 Tryd.keyed_str Tryd.underlying48 Tryd.underlying3 (Tryd.zero_int _) C nM D rfl Hmap3.out _ _ rfl Hkey.out ?_; intro c hat hwc; rw [hhas]; have hce : c = (y : Int) := (by have := Hval.out.symm.trans hat; injection this with h1; injection h1 with _ h2; exact h2.symm); subst hce; clear hat hwc))
            go_ret
            rw [← Ho.out]
            exact ⟨rfl, Hr3.out, Hk3.out⟩
          · rw [if_neg hf, hsyms] at ho
            have hhas : Maps.has D (.string (bitsT (high x' (k + 1)))) = false := by
              cases hh : Maps.has D (.string (bitsT (high x' (k + 1)))) with
              | false => rfl
              | true => exact absurd (g1.1 hh) hf
            have Hf := Lib.hid hf
            by_cases hN1 : N = 1
            · rw [if_pos hN1] at ho
              have Ho := Lib.hid ho
              have hN2 : ((N : Int) == 1) = true := by rw [hN1]; rfl
              generalize high x' (k + 1) = xb at *
              clear ht hx hn ho hbit hcs hkey htc hsyms hcz hv hvb hvi hx' hhx hx2 g1 g2 hnx hf hst H0 hN1
              go_wp2_with (first
                | (go_at_call 25; refine (Hbit.out).mono ?_; rintro e w1 ⟨rfl, hr2, hk2⟩
                   have hcv1 := hcv w1
                   have hr3 : RdAt (w1.alloc (.cells #[.int .u8 (48 + (v : Int))] 5)) R base s most out (.ok r) := hr2.keeps (ok := fun _ _ => True) ((Keeps.refl _ _).alloc _) (fun _ => trivial) (fun _ _ _ => trivial)
                   have hk3 := (Hk.out.trans hk2).alloc (.cells #[.int .u8 (48 + (v : Int))] 5)
                   obtain ⟨hmap3, hln3⟩ := Hlen.out _ hk3
                   obtain ⟨a3, n3, ov3, hin3, he3⟩ := hr3
                   obtain rfl := rs_ok he3
                   obtain ⟨d0, d1, d2, d3, d4, y1, y2, y3⟩ := hin3.cells
                   have hr3' : RdAt _ R base s most out (.ok r) := ⟨a3, _, ov3, hin3, he3⟩
                   have Hr3 := Lib.hid hr3'
                   have Hk3 := Lib.hid hk3
                   have Hmap3 := Lib.hid hmap3
                   clear hr2 hk2 hk3 hmap3 hin3 he3 hr3' hcv)
                | (at_lookup; refine wpList_lookup_own_ok_int _ rfl _ _ 48 rfl 9 3 .i64 Tryd.keyed_str Tryd.underlying48 Tryd.underlying3 (Tryd.zero_int _) C nM D rfl Hmap3.out _ _ rfl Hkey.out ?_; intro c hat hwc; rw [hhas]; clear hat hwc)
                | (go_at_call 55; refine (rwrong_any R base most s out (.ok r) 4 _ Hr3.out (by decide) (by decide)).mono ?_; rintro e w4 ⟨rfl, hr4, hk4⟩
                   have hk5 := Hk3.out.trans hk4
                   have Hr4 := Lib.hid hr4
                   have Hk5 := Lib.hid hk5
                   clear hr4 hk4 hk5))
              go_roundw
              case rel => exact ⟨k + 1, t ++ cs, .error 4, rfl, by rw [ByteArray.size_append, Hcz.out]; omega, by omega, Hr4.out, Hk5.out, .bad 4 Ho.out.symm⟩
              case measure => show 15 - (t ++ cs).size < 15 - t.size; rw [ByteArray.size_append, Hcz.out]; omega
            · rw [if_neg hN1] at ho
              have Ho := Lib.hid ho
              have hN2 : ((N : Int) == 1) = false := beq_eq_false_iff_ne.2 (by omega)
              generalize hxb : high x' (k + 1) = xb at *
              have Hxb := Lib.hid hxb
              clear ht hx hn ho hbit hcs hkey htc hsyms hcz hv hvb hvi hx' hhx hx2 g1 g2 hnx hf hst hN1 hxb
              go_wp2_with (first
                | (go_at_call 25; refine (Hbit.out).mono ?_; rintro e w1 ⟨rfl, hr2, hk2⟩
                   have hcv1 := hcv w1
                   have hr3 : RdAt (w1.alloc (.cells #[.int .u8 (48 + (v : Int))] 5)) R base s most out (.ok r) := hr2.keeps (ok := fun _ _ => True) ((Keeps.refl _ _).alloc _) (fun _ => trivial) (fun _ _ _ => trivial)
                   have hk3 := (Hk.out.trans hk2).alloc (.cells #[.int .u8 (48 + (v : Int))] 5)
                   obtain ⟨hmap3, hln3⟩ := Hlen.out _ hk3
                   obtain ⟨a3, n3, ov3, hin3, he3⟩ := hr3
                   obtain rfl := rs_ok he3
                   obtain ⟨d0, d1, d2, d3, d4, y1, y2, y3⟩ := hin3.cells
                   have hr3' : RdAt _ R base s most out (.ok r) := ⟨a3, _, ov3, hin3, he3⟩
                   have Hr3 := Lib.hid hr3'
                   have Hk3 := Lib.hid hk3
                   have Hmap3 := Lib.hid hmap3
                   clear hr2 hk2 hk3 hmap3 hin3 he3 hr3' hcv)
                | (at_lookup; refine wpList_lookup_own_ok_int _ rfl _ _ 48 rfl 9 3 .i64 Tryd.keyed_str Tryd.underlying48 Tryd.underlying3 (Tryd.zero_int _) C nM D rfl Hmap3.out _ _ rfl Hkey.out ?_; intro c hat hwc; rw [hhas]; clear hat hwc))
              go_roundw
              case rel => exact ⟨k + 1, t ++ cs, .ok r, rfl, by rw [ByteArray.size_append, Hcz.out]; omega, by omega, Hr3.out, Hk3.out, .go r x' (by rw [Htc.out, Hxb.out]) Hx2.out (by have := Hf.out; omega) H0.out (by rw [show 15 - (k + 1) = f by omega]; exact Ho.out)⟩
              case measure => show 15 - (t ++ cs).size < 15 - t.size; rw [ByteArray.size_append, Hcz.out]; omega
      · obtain rfl : k = 15 := by omega
        have ho2 : o = .error 4 := by rw [← ho]; rfl
        have Ho := Lib.hid ho2
        clear ht hx hn ho ho2
        go_wp2_with (go_at_call 55; refine (rwrong_any R base most s out _ 4 _ Hr1.out (by decide) (by decide)).mono ?_; rintro e w9 ⟨rfl, hr9, hk9⟩
                     have hk10 := Hk.out.trans hk9
                     have Hr9 := Lib.hid hr9
                     have Hk10 := Lib.hid hk10
                     clear hr9 hk9 hk10)
        go_ret
        rw [Ho.out]
        exact ⟨rfl, Hr9.out, Hk10.out⟩
end
section
open Go.RowKit Go.Maps
/-- what a block leaves -/
def RdOut (w : World) (R base most : Nat) (s : ByteArray) : Except Nat (List UInt8 × List Bool) → Prop
  | .ok (o, r) => RdAt w R base s most o (.ok r) ∧ o.length ≤ most
  | .error e => ∃ o, RdAt w R base s most o (.error e)
def RelS (f : List UInt8 → List Bool → Except Nat (List UInt8 × List Bool)) (res : Except Nat (List UInt8 × List Bool)) (out : List UInt8) : RS → Prop
  | .ok r => f out r = res
  | .error e => res = .error e
theorem xor_iff {n m : Nat} (hn : n < 65536) : n ^^^ m = 65535 ↔ n + m = 65535 := by
  have h1 := xor_rest n hn
  constructor
  · intro h
    have h2 : n ^^^ (n ^^^ m) = n ^^^ (n ^^^ (65535 - n)) := by rw [h, h1]
    rw [← Nat.xor_assoc, ← Nat.xor_assoc, Nat.xor_self, Nat.zero_xor, Nat.zero_xor] at h2
    omega
  · intro h
    rw [show m = 65535 - n by omega]
    exact h1
theorem numI_small {st st' : RS} {n : Nat} (h : numI st 16 = (n, st')) : n < 65536 := by
  have h1 := numI_lt st 16
  have h2 : (numI st 16).1 = n := by rw [h]
  generalize (numI st 16).1 = x at h1 h2
  omega
theorem stored_e1 {most : Int} {out : List UInt8} {r r1 : List Bool} {e : Nat} (hr : r.drop (r.length % 8) = r1) (h : takeB 16 r1 = .error e) : storedB most out r = .error e := by
  unfold storedB; simp only [hr, h]
theorem stored_e2 {most : Int} {out : List UInt8} {r r1 r2 : List Bool} {n e : Nat} (hr : r.drop (r.length % 8) = r1) (h : takeB 16 r1 = .ok (n, r2)) (h2 : takeB 16 r2 = .error e) : storedB most out r = .error e := by
  unfold storedB; simp only [hr, h, h2]
theorem stored_e3 {most : Int} {out : List UInt8} {r r1 r2 r3 : List Bool} {n m : Nat} (hr : r.drop (r.length % 8) = r1) (h : takeB 16 r1 = .ok (n, r2)) (h2 : takeB 16 r2 = .ok (m, r3)) (hx : n ^^^ m ≠ 65535) : storedB most out r = .error 4 := by
  unfold storedB; simp only [hr, h, h2]; rw [if_pos hx]
theorem stored_ok {most : Int} {out : List UInt8} {r r1 r2 r3 : List Bool} {n m : Nat} (hr : r.drop (r.length % 8) = r1) (h : takeB 16 r1 = .ok (n, r2)) (h2 : takeB 16 r2 = .ok (m, r3)) (hx : n ^^^ m = 65535) : storedB most out r = storedGo most n out r3 := by
  unfold storedB; simp only [hr, h, h2]; rw [if_neg (fun hh => hh hx)]
theorem rel_error {f : List UInt8 → List Bool → Except Nat (List UInt8 × List Bool)} {out : List UInt8} {e : Nat} {st : RS} (h : st = .error e) : RelS f (.error e) out st := by rw [h]; rfl
theorem plain_start (most : Int) (out : List UInt8) (r r1 : List Bool) (hr : r.drop (r.length % 8) = r1) (n m : Nat) (st3 : RS) (hn : n = (numI (.ok r1) 16).1) (hm : m = (numI (numS 16 (.ok r1)) 16).1) (h3 : st3 = numS 16 (numS 16 (.ok r1))) :
    RelS (storedGo most n) (storedB most out r) out (if n + m = 65535 then st3 else wrongS 4 st3) := by
  cases h1 : takeB 16 r1 with
  | error e =>
    rw [stored_e1 hr h1]
    refine rel_error ?_
    have h4 : st3 = .error e := by rw [h3, numS_error h1]; rfl
    by_cases h : n + m = 65535
    · rw [if_pos h, h4]
    · rw [if_neg h, h4]; rfl
  | ok v =>
    obtain ⟨n', r2⟩ := v
    have hi := numI_take h1
    have hs1 : numS 16 (.ok r1) = .ok r2 := by rw [← numI_S, hi]
    have hnn : n = n' := by rw [hn, hi]
    subst hnn
    have hnl : n < 65536 := numI_small hi
    rw [hs1] at h3 hm
    cases h2 : takeB 16 r2 with
    | error e =>
      rw [stored_e2 hr h1 h2]
      refine rel_error ?_
      have h4 : st3 = .error e := by rw [h3, numS_error h2]
      by_cases h : n + m = 65535
      · rw [if_pos h, h4]
      · rw [if_neg h, h4]; rfl
    | ok v =>
      obtain ⟨m', r3⟩ := v
      have hi2 := numI_take h2
      have hmm : m = m' := by rw [hm, hi2]
      subst hmm
      have h4 : st3 = .ok r3 := by rw [h3, ← numI_S, hi2]
      by_cases h : n + m = 65535
      · rw [if_pos h, h4, stored_ok hr h1 h2 ((xor_iff hnl).2 h)]
        rfl
      · rw [if_neg h, h4, stored_e3 hr h1 h2 (fun e => h ((xor_iff hnl).1 e))]
        exact rel_error rfl

set_option maxRecDepth 100000 in
set_option maxHeartbeats 8000000 in
theorem rplain_any (R base most : Nat) (s : ByteArray) (out : List UInt8) (r : List Bool) (w : World) (hR : RdAt w R base s most out (.ok r)) (hbz : base ≤ w.heap.size) (hm : most < 2 ^ 40) (hs : s.size < 2 ^ 40) (hl : out.length ≤ most) :
    Calls Tryd.prog 27 #[.pointer (some ⟨R, 0, none⟩)] w fun e w' => e = .returned (.tuple #[]) ∧ RdOut w' R base most s (storedB (most : Int) out r) ∧ Keeps (okOut R base) w w' := by
  have hstart := plain_start (most : Int) out r _ rfl _ _ _ rfl rfl rfl
  obtain ⟨res, hres⟩ : ∃ x, x = storedB (most : Int) out r := ⟨_, rfl⟩
  rw [← hres] at hstart ⊢
  obtain ⟨a, n0, ov, hin, he⟩ := hR
  obtain rfl := rs_ok he
  obtain ⟨c0, c1, c2, c3, c4, z1, z2, z3⟩ := hin.cells
  have hle := hin.le
  obtain ⟨q, hq⟩ : ∃ q, q = (a + 7) / 8 := ⟨_, rfl⟩
  have eq1 : ((a : Int) + 7) / 8 = (q : Int) := by omega
  have hr1 : RdAt (w.setCell ⟨R, 1, none⟩ (.int .i64 ((q : Int) * 8))) R base s most out (.ok (r.drop (r.length % 8))) := by
    refine ⟨q * 8, 0, ov, hin.setAt (q * 8) (by omega) _ (by omega), ?_⟩
    unfold rsOf at he ⊢
    rw [if_pos rfl] at he ⊢
    injection he with he
    rw [he, List.drop_drop]
    congr 2
    rw [List.length_drop, bitsOf_length]
    show a + (8 * s.data.toList.length - a) % 8 = q * 8
    have : s.data.toList.length = s.size := rfl
    omega
  have hk1 : Keeps (okOut R base) w (w.setCell ⟨R, 1, none⟩ (.int .i64 ((q : Int) * 8))) := (Keeps.refl _ _).setR 1 _
  have hq64 : q < 2 ^ 41 := by omega
  obtain ⟨st1, hst1⟩ : ∃ x : RS, x = .ok (r.drop (r.length % 8)) := ⟨_, rfl⟩
  rw [← hst1] at hr1 hstart
  have hn16 := numI_lt st1 16
  have hm16 := numI_lt (numS 16 st1) 16
  have hnum1 := fun W hW => rnumber_any R base most s out st1 16 W hW hs (by decide)
  have hnum2 := fun W hW => rnumber_any R base most s out (numS 16 st1) 16 W hW hs (by decide)
  obtain ⟨n, hn⟩ : ∃ n, n = (numI st1 16).1 := ⟨_, rfl⟩
  obtain ⟨m, hmm⟩ : ∃ m, m = (numI (numS 16 st1) 16).1 := ⟨_, rfl⟩
  rw [← hn] at hstart hn16 hnum1
  rw [← hmm] at hstart hm16 hnum2
  obtain ⟨st3, hst3⟩ : ∃ x, x = numS 16 (numS 16 st1) := ⟨_, rfl⟩
  rw [← hst3] at hstart hnum2
  have Hr1 := Lib.hid hr1
  have Hk1 := Lib.hid hk1
  have Hstart := Lib.hid hstart
  have Hnum1 := Lib.hid hnum1
  have Hnum2 := Lib.hid hnum2
  clear hr1 hk1 hstart hnum1 hnum2 hin he hst1 hst3 hn hmm hq hres
  go_enter Tryd.func27, Tryd.ntmps27
  go_upto_if 22 with (first
    | (go_at_call 26; refine (Hnum2.out _ Hr2.out).mono ?_; rintro e w3 ⟨rfl, hr3, hk3⟩
       have hk4 := Hk2.out.trans hk3
       have Hr3 := Lib.hid hr3
       have Hk3 := Lib.hid hk4
       clear hr3 hk3 hk4)
    | (go_at_call 26; refine (Hnum1.out _ Hr1.out).mono ?_; rintro e w2 ⟨rfl, hr2, hk2⟩
       have hk3 := Hk1.out.trans hk2
       have Hr2 := Lib.hid hr2
       have Hk2 := Lib.hid hk3
       clear hr2 hk2 hk3))
  go_cut [] (fun wx => RdAt wx R base s most out (if n + m = 65535 then st3 else wrongS 4 st3) ∧ Keeps (okOut R base) w wx)
  case first =>
    by_cases h : n + m = 65535
    · have hb : ((n : Int) + (m : Int) != 65535) = false := by simp; omega
      have H := Lib.hid h
      clear h
      go_wp2_with fail
      go_meet
      exact ⟨by rw [if_pos H.out]; exact Hr3.out, Hk3.out⟩
    · have hb : ((n : Int) + (m : Int) != 65535) = true := by simp; omega
      have H := Lib.hid h
      clear h
      go_wp2_with (go_at_call 55; refine (rwrong_any R base most s out st3 4 _ Hr3.out (by decide) (by decide)).mono ?_; rintro e w4 ⟨rfl, hr4, hk4⟩
                   have hk5 := Hk3.out.trans hk4
                   have Hr4 := Lib.hid hr4
                   have Hk4 := Lib.hid hk5
                   clear hr4 hk4 hk5)
      go_meet
      exact ⟨by rw [if_neg H.out]; exact Hr4.out, Hk4.out⟩
  case rest =>
    obtain ⟨hr5, hk5⟩ := hcut
    obtain ⟨st5, hst5⟩ : ∃ x, x = (if n + m = 65535 then st3 else wrongS 4 st3) := ⟨_, rfl⟩
    rw [← hst5] at hr5 Hstart
    have Hr5 := Lib.hid hr5
    have Hk5 := Lib.hid hk5
    clear hr5 hk5 hst5
    go_wp2_with fail
    go_loopw [4] (fun iv wr => ∃ (i : Nat) (o : List UInt8) (st : RS), iv = .int .i64 (i : Int) ∧ i ≤ n ∧ o.length ≤ most ∧ RdAt wr R base s most o st ∧ Keeps (okOut R base) w wr ∧ RelS (storedGo (most : Int) (n - i)) res o st) (fun iv _ => n - (intOf iv).toNat)
    case atStart => exact ⟨0, out, st5, rfl, by omega, hl, Hr5.out, Hk5.out, Hstart.out⟩
    case round =>
      obtain ⟨i, o, st, rfl, hi, ho, hr, hk, hrel⟩ := hrel
      have hz := hk.size
      have Hr := Lib.hid hr
      have Hk := Lib.hid hk
      clear hr hk
      cases st with
      | error e =>
        obtain ⟨a', n', ov', hin, he⟩ := Hr.out
        obtain ⟨rfl, hn0⟩ := rs_error he
        have hnb : ((n' : Int) == 0) = false := by simp; omega
        obtain ⟨d0, d1, d2, d3, d4, y1, y2, y3⟩ := hin.cells
        have Hrel : Hid (res = .error n') := Lib.hid hrel
        clear hin he hrel hn0
        by_cases hlt : (i : Int) < (n : Int)
        all_goals
          go_wp2_with fail
          go_end0
          exact ⟨rfl, by rw [Hrel.out]; exact ⟨o, Hr.out⟩, Hk.out⟩
      | ok r' =>
        obtain ⟨a', n', ov', hin, he⟩ := Hr.out
        obtain rfl := rs_ok he
        obtain ⟨p, c, rfl⟩ := row_form hin.row
        obtain ⟨d0, d1, d2, d3, d4, y1, y2, y3⟩ := hin.cells
        by_cases hlt : (i : Int) < (n : Int)
        · obtain ⟨f, hf⟩ : ∃ f, n - i = f + 1 := ⟨n - i - 1, by omega⟩
          have hrel2 : storedGo (most : Int) (f + 1) o r' = res := by rw [← hf]; exact hrel
          rw [storedGo] at hrel2
          have Hf := Lib.hid hf
          clear hrel hf
          by_cases hfull : (most : Int) ≤ (o.length : Int)
          · rw [if_pos hfull] at hrel2
            have Hrel := Lib.hid hrel2
            have hd : decide ((most : Int) ≤ (o.length : Int)) = true := decide_eq_true hfull
            have hr6 : ∀ k, RdAt ((wr.drewN k).setCell ⟨R, 2, none⟩ (.int .i64 5)) R base s most o (.error 5) := fun k => ⟨a', 5, .slice p o.length c, (hin.drewN k).setNo 5 (by decide) _ rfl, rfl⟩
            have hk6 : ∀ k, Keeps (okOut R base) w ((wr.drewN k).setCell ⟨R, 2, none⟩ (.int .i64 5)) := fun k => (Hk.out.drewN k).setR 2 _
            have hnum := fun W hW => rnumber_any R base most s o (.error 5) 8 W hW hs (by decide)
            have hput := fun W b hW hz => rput_any R base most s o (.error 5) b W hW hz hm (by omega)
            rw [numI_error] at hnum
            have Hr6 := Lib.hid hr6
            have Hk6 := Lib.hid hk6
            have Hnum := Lib.hid hnum
            have Hput := Lib.hid hput
            clear hr6 hk6 hin he hrel2 hnum hput
            go_wp2_with fail
            go_quiet (fail)
            have e2 : (wr.drewN nq).cell? ⟨R, 2, none⟩ = some (.int .i64 0) := d2
            have f2 : (wr.drewN nq).frozen? ⟨R, 2, none⟩ = false := y2
            go_wp2_with (first
              | (go_at_call 26; refine (Hnum.out _ (Hr6.out nq)).mono ?_; rintro e w7 ⟨rfl, hr7, hk7⟩
                 have hk8 := (Hk6.out nq).trans hk7
                 have hz8 := hk8.size
                 have Hr7 := Lib.hid hr7
                 have Hk7 := Lib.hid hk8
                 clear hr7 hk7 hk8)
              | (go_at_call 56; refine (Hput.out _ 0 Hr7.out (by omega)).mono ?_; rintro e w9 ⟨rfl, hr9, hk9⟩
                 have hk10 := Hk7.out.trans hk9
                 have Hr9 := Lib.hid hr9
                 have Hk9 := Lib.hid hk10
                 clear hr9 hk9 hk10))
            go_roundw
            case rel => exact ⟨i + 1, o, .error 5, by go_num, by omega, ho, Hr9.out, Hk9.out, Hrel.out.symm⟩
            case measure => simp [intOf]; omega
          · rw [if_neg hfull] at hrel2
            have hd : decide ((most : Int) ≤ (o.length : Int)) = false := decide_eq_false hfull
            have hr6 : ∀ k, RdAt (wr.drewN k) R base s most o (.ok r') := fun k => Hr.out.same ⟨k, rfl⟩
            have hk6 : ∀ k, Keeps (okOut R base) w (wr.drewN k) := fun k => Hk.out.drewN k
            have hnum := fun W hW => rnumber_any R base most s o (.ok r') 8 W hW hs (by decide)
            have hx8 := numI_lt (.ok r') 8
            obtain ⟨x, hx⟩ : ∃ x, x = (numI (.ok r') 8).1 := ⟨_, rfl⟩
            rw [← hx] at hnum hx8
            obtain ⟨st6, hst6⟩ : ∃ x, x = numS 8 (.ok r') := ⟨_, rfl⟩
            rw [← hst6] at hnum
            have hput := fun W hW hz => rput_any R base most s o st6 (UInt8.ofNat x) W hW hz hm (by omega)
            have hxn : ((UInt8.ofNat x).toNat : Int) = (x : Int) := by rw [UInt8.toNat_ofNat', Nat.mod_eq_of_lt (by omega)]
            rw [hxn] at hput
            have hfin : (∃ r7, st6 = .ok r7 ∧ storedGo (most : Int) f (o ++ [UInt8.ofNat x]) r7 = res) ∨ (∃ e, st6 = .error e ∧ res = .error e) := by
              cases h : takeB 8 r' with
              | error e =>
                rw [h] at hrel2
                exact .inr ⟨e, by rw [hst6, numS_error h], hrel2.symm⟩
              | ok v =>
                obtain ⟨y, r7⟩ := v
                rw [h] at hrel2
                have hi := numI_take h
                rw [hi] at hx
                exact .inl ⟨r7, by rw [hst6, ← numI_S, hi], by rw [hx]; exact hrel2⟩
            have Hfin := Lib.hid hfin
            have Hr6 := Lib.hid hr6
            have Hk6 := Lib.hid hk6
            have Hnum := Lib.hid hnum
            have Hput := Lib.hid hput
            clear hr6 hk6 hin he hrel2 hnum hput hfin hx hst6 hxn
            go_wp2_with fail
            go_quiet (fail)
            go_wp2_with (first
              | (go_at_call 26; refine (Hnum.out _ (Hr6.out nq)).mono ?_; rintro e w7 ⟨rfl, hr7, hk7⟩
                 have hk8 := (Hk6.out nq).trans hk7
                 have hz8 := hk8.size
                 have Hr7 := Lib.hid hr7
                 have Hk7 := Lib.hid hk8
                 clear hr7 hk7 hk8)
              | (go_at_call 56; refine (Hput.out _ Hr7.out (by omega)).mono ?_; rintro e w9 ⟨rfl, hr9, hk9⟩
                 have hk10 := Hk7.out.trans hk9
                 have Hr9 := Lib.hid hr9
                 have Hk9 := Lib.hid hk10
                 clear hr9 hk9 hk10))
            go_roundw
            case rel =>
              rcases Hfin.out with ⟨r7, rfl, hgo⟩ | ⟨e, rfl, hres⟩
              · have hr9 := Hr9.out
                rw [putO_ok, putS_ok, if_neg (by omega), if_neg (by omega)] at hr9
                refine ⟨i + 1, o ++ [UInt8.ofNat x], .ok r7, by go_num, by omega, by rw [List.length_append]; show o.length + 1 ≤ most; omega, hr9, Hk9.out, ?_⟩
                show storedGo _ (n - (i + 1)) _ _ = _
                rw [show n - (i + 1) = f by have := Hf.out; omega]
                exact hgo
              · exact ⟨i + 1, o, .error e, by go_num, by omega, ho, Hr9.out, Hk9.out, hres⟩
            case measure => simp [intOf]; omega
        · obtain rfl : i = n := by omega
          have hrel2 : res = .ok (o, r') := by
            have h : storedGo (most : Int) (i - i) o r' = res := hrel
            rw [Nat.sub_self] at h
            exact h.symm
          have Hrel := Lib.hid hrel2
          clear hin he hrel hrel2
          go_wp2_with fail
          go_end0
          exact ⟨rfl, by rw [Hrel.out]; exact ⟨Hr.out, ho⟩, Hk.out⟩
end
section
open Go.RowKit Go.Maps
section
variable {most : Int} {la lb : List Nat} {out : List UInt8} {r r1 r2 r3 r4 : List Bool} {x y t u e : Nat}
theorem one_e1 (h : symP la r = .error e) : blockOne most la lb out r = .error e := by unfold blockOne; simp only [h]
theorem one_end (h : symP la r = .ok (256, r1)) : blockOne most la lb out r = .ok (none, r1) := by unfold blockOne; simp only [h]; rfl
theorem one_full (h : symP la r = .ok (x, r1)) (hx : x < 256) (hf : most ≤ (out.length : Int)) : blockOne most la lb out r = .error 5 := by unfold blockOne; simp only [h]; rw [if_neg (by omega), if_pos hx, if_pos hf]
theorem one_lit (h : symP la r = .ok (x, r1)) (hx : x < 256) (hf : ¬ most ≤ (out.length : Int)) : blockOne most la lb out r = .ok (some (out ++ [UInt8.ofNat x]), r1) := by unfold blockOne; simp only [h]; rw [if_neg (by omega), if_pos hx, if_neg hf]
theorem one_big (h : symP la r = .ok (x, r1)) (hx : 285 < x) : blockOne most la lb out r = .error 4 := by unfold blockOne; simp only [h]; rw [if_neg (by omega), if_neg (by omega), if_pos hx]
theorem one_e2 (h : symP la r = .ok (x, r1)) (h1 : 256 < x) (h2 : ¬ 285 < x) (ht : takeB (lensT.getD (x - 257) (0, 0)).2 r1 = .error e) : blockOne most la lb out r = .error e := by unfold blockOne; simp only [h, ht]; rw [if_neg (by omega), if_neg (by omega), if_neg h2]
theorem one_e3 (h : symP la r = .ok (x, r1)) (h1 : 256 < x) (h2 : ¬ 285 < x) (ht : takeB (lensT.getD (x - 257) (0, 0)).2 r1 = .ok (t, r2)) (hy : symP lb r2 = .error e) : blockOne most la lb out r = .error e := by unfold blockOne; simp only [h, ht, hy]; rw [if_neg (by omega), if_neg (by omega), if_neg h2]
theorem one_far (h : symP la r = .ok (x, r1)) (h1 : 256 < x) (h2 : ¬ 285 < x) (ht : takeB (lensT.getD (x - 257) (0, 0)).2 r1 = .ok (t, r2)) (hy : symP lb r2 = .ok (y, r3)) (h29 : 29 < y) : blockOne most la lb out r = .error 4 := by unfold blockOne; simp only [h, ht, hy]; rw [if_neg (by omega), if_neg (by omega), if_neg h2, if_pos h29]
theorem one_e4 (h : symP la r = .ok (x, r1)) (h1 : 256 < x) (h2 : ¬ 285 < x) (ht : takeB (lensT.getD (x - 257) (0, 0)).2 r1 = .ok (t, r2)) (hy : symP lb r2 = .ok (y, r3)) (h29 : ¬ 29 < y) (hu : takeB (distT.getD y (0, 0)).2 r3 = .error e) : blockOne most la lb out r = .error e := by unfold blockOne; simp only [h, ht, hy, hu]; rw [if_neg (by omega), if_neg (by omega), if_neg h2, if_neg h29]
theorem one_back (h : symP la r = .ok (x, r1)) (h1 : 256 < x) (h2 : ¬ 285 < x) (ht : takeB (lensT.getD (x - 257) (0, 0)).2 r1 = .ok (t, r2)) (hy : symP lb r2 = .ok (y, r3)) (h29 : ¬ 29 < y) (hu : takeB (distT.getD y (0, 0)).2 r3 = .ok (u, r4)) (hb : out.length < (distT.getD y (0, 0)).1 + u) : blockOne most la lb out r = .error 4 := by unfold blockOne; simp only [h, ht, hy, hu]; rw [if_neg (by omega), if_neg (by omega), if_neg h2, if_neg h29, if_pos hb]
theorem one_many (h : symP la r = .ok (x, r1)) (h1 : 256 < x) (h2 : ¬ 285 < x) (ht : takeB (lensT.getD (x - 257) (0, 0)).2 r1 = .ok (t, r2)) (hy : symP lb r2 = .ok (y, r3)) (h29 : ¬ 29 < y) (hu : takeB (distT.getD y (0, 0)).2 r3 = .ok (u, r4)) (hb : ¬ out.length < (distT.getD y (0, 0)).1 + u) (hm : most - (out.length : Int) < (((lensT.getD (x - 257) (0, 0)).1 + t : Nat) : Int)) : blockOne most la lb out r = .error 5 := by unfold blockOne; simp only [h, ht, hy, hu]; rw [if_neg (by omega), if_neg (by omega), if_neg h2, if_neg h29, if_neg hb, if_pos hm]
theorem one_copy (h : symP la r = .ok (x, r1)) (h1 : 256 < x) (h2 : ¬ 285 < x) (ht : takeB (lensT.getD (x - 257) (0, 0)).2 r1 = .ok (t, r2)) (hy : symP lb r2 = .ok (y, r3)) (h29 : ¬ 29 < y) (hu : takeB (distT.getD y (0, 0)).2 r3 = .ok (u, r4)) (hb : ¬ out.length < (distT.getD y (0, 0)).1 + u) (hm : ¬ most - (out.length : Int) < (((lensT.getD (x - 257) (0, 0)).1 + t : Nat) : Int)) :
    blockOne most la lb out r = .ok (some (copyN ((distT.getD y (0, 0)).1 + u) ((lensT.getD (x - 257) (0, 0)).1 + t) out), r4) := by unfold blockOne; simp only [h, ht, hy, hu]; rw [if_neg (by omega), if_neg (by omega), if_neg h2, if_neg h29, if_neg hb, if_neg hm]
end
/-- how the rest of a block ends -/
def RelB (most : Int) (la lb : List Nat) (res : Except Nat (List UInt8 × List Bool)) (out : List UInt8) : RS → Prop
  | .ok r => ∃ f, r.length < f ∧ blockGo most la lb f out r = res
  | .error e => res = .error e
theorem RelB.err {most : Int} {la lb : List Nat} {res : Except Nat (List UInt8 × List Bool)} {out : List UInt8} {r : List Bool} {e : Nat} (h : RelB most la lb res out (.ok r)) (ho : blockOne most la lb out r = .error e) : res = .error e := by
  obtain ⟨f, hf, h⟩ := h
  obtain ⟨g, rfl⟩ : ∃ g, f = g + 1 := ⟨f - 1, by omega⟩
  rw [← h, blockGo, ho]
theorem RelB.done {most : Int} {la lb : List Nat} {res : Except Nat (List UInt8 × List Bool)} {out : List UInt8} {r r' : List Bool} (h : RelB most la lb res out (.ok r)) (ho : blockOne most la lb out r = .ok (none, r')) : res = .ok (out, r') := by
  obtain ⟨f, hf, h⟩ := h
  obtain ⟨g, rfl⟩ : ∃ g, f = g + 1 := ⟨f - 1, by omega⟩
  rw [← h, blockGo, ho]
theorem RelB.on {most : Int} {la lb : List Nat} {res : Except Nat (List UInt8 × List Bool)} {out out' : List UInt8} {r r' : List Bool} (h : RelB most la lb res out (.ok r)) (ho : blockOne most la lb out r = .ok (some out', r')) : RelB most la lb res out' (.ok r') := by
  obtain ⟨f, hf, h⟩ := h
  obtain ⟨g, rfl⟩ : ∃ g, f = g + 1 := ⟨f - 1, by omega⟩
  have hl := blockOne_less ho
  rw [blockGo, ho] at h
  exact ⟨g, by omega, h⟩
/-- how much is left to do -/
def msOf : RS → Nat
  | .ok r => r.length + 1
  | .error _ => 0
theorem msOf_ok (r : List Bool) : msOf (.ok r) = r.length + 1 := rfl
theorem msOf_error (e : Nat) : msOf (.error e) = 0 := rfl
theorem dist_pos : ∀ k, k < 30 → 1 ≤ (distT.getD k (0, 0)).1 := by decide
theorem extra_le (k : Nat) (hk : k < 29) : (lensT.getD k (0, 0)).2 ≤ 16 := by rw [extra_tab k hk]; split <;> omega
theorem more_le (k : Nat) (hk : k < 30) : (distT.getD k (0, 0)).2 ≤ 16 := by rw [more_tab k hk]; split <;> omega
theorem numI_lt16 (st : RS) {n : Nat} (hn : n ≤ 16) : (numI st n).1 < 65536 := Nat.lt_of_lt_of_le (numI_lt st n) (Nat.pow_le_pow_right (by decide) hn)
theorem copyN_length (d : Nat) : ∀ (n : Nat) (o : List UInt8), (copyN d n o).length = o.length + n
  | 0, o => rfl
  | n + 1, o => by rw [copyN, copyN_length d n, List.length_append]; show o.length + 1 + n = _; omega
theorem out_cell {w : World} {R base most a n : Nat} {s : ByteArray} {out : List UInt8} {ov : Value} (h : RdIn w R base s most out a n ov) (h0 : 0 < out.length) : ∃ g c, ov = .slice (some ⟨g, 0, none⟩) out.length c ∧ ∀ j, j < out.length → w.cell? ⟨g, j, none⟩ = some (.int .u8 ((out.getD j 0).toNat : Int)) := by
  obtain ⟨g, c, rfl, _, _⟩ := h.row.form h0
  refine ⟨g, c, rfl, fun j hj => ?_⟩
  have hc := h.row.cells (g := g) rfl j (encB (out.getD j 0)) (by rw [List.getElem?_map, List.getElem?_eq_getElem hj, List.getD_eq_getElem?_getD, List.getElem?_eq_getElem hj]; rfl)
  have e : (⟨g, 0, none⟩ : Addr).add j = ⟨g, j, none⟩ := by unfold Addr.add; split <;> simp_all
  rw [e] at hc
  exact hc
/-- before a copy -/
def RelC (most : Nat) (la lb : List Nat) (res : Except Nat (List UInt8 × List Bool)) (o : List UInt8) (m0 n d : Nat) : RS → Prop
  | .ok r => 1 ≤ d ∧ d ≤ o.length ∧ o.length + n ≤ most ∧ r.length < m0 ∧ RelB (most : Int) la lb res (copyN d n o) (.ok r)
  | .error e => res = .error e
/-- before the tests ahead of a copy -/
def Rel5 (most : Nat) (la lb : List Nat) (res : Except Nat (List UInt8 × List Bool)) (o : List UInt8) (m0 n d : Nat) : RS → Prop
  | .ok r => 1 ≤ d ∧ (o.length < d → res = .error 4) ∧ (d ≤ o.length → most < o.length + n → res = .error 5) ∧ (d ≤ o.length → o.length + n ≤ most → r.length < m0 ∧ RelB (most : Int) la lb res (copyN d n o) (.ok r))
  | .error e => res = .error e
def st6 (o : List UInt8) (d : Nat) (st : RS) : RS := if o.length < d then wrongS 4 st else st
def st7 (most n : Nat) (o : List UInt8) (st : RS) : RS := if most < o.length + n then wrongS 5 st else st
theorem Rel5.ends {most : Nat} {la lb : List Nat} {res : Except Nat (List UInt8 × List Bool)} {o : List UInt8} {m0 n d : Nat} {st : RS} (h : Rel5 most la lb res o m0 n d st) : RelC most la lb res o m0 n d (st7 most n o (st6 o d st)) := by
  unfold st7 st6
  cases st with
  | error e => split <;> split <;> exact h
  | ok r =>
    obtain ⟨h1, h2, h3, h4⟩ := h
    by_cases hd : o.length < d
    · rw [if_pos hd]
      split <;> exact h2 hd
    · rw [if_neg hd]
      by_cases hn : most < o.length + n
      · rw [if_pos hn]; exact h3 (by omega) hn
      · rw [if_neg hn]
        have := h4 (by omega) (by omega)
        exact ⟨h1, by omega, by omega, this.1, this.2⟩
/-- what the second symbol says -/
def RelY (most : Nat) (la lb : List Nat) (res : Except Nat (List UInt8 × List Bool)) (o : List UInt8) (m0 n : Nat) (so : Except Nat (Nat × List Bool)) : Prop :=
  (∃ e, so = .error e ∧ res = .error e) ∨ (∃ y r, so = .ok (y, r) ∧ 29 < y ∧ res = .error 4) ∨
    (∃ y r, so = .ok (y, r) ∧ y < 30 ∧ Rel5 most la lb res o m0 n ((distT.getD y (0, 0)).1 + (numI (.ok r) (distT.getD y (0, 0)).2).1) (numS (distT.getD y (0, 0)).2 (.ok r)))
/-- while it is copied -/
def RelI (most : Nat) (la lb : List Nat) (res : Except Nat (List UInt8 × List Bool)) (lo m0 n d i : Nat) (oi : List UInt8) : RS → Prop
  | .ok r => i ≤ n ∧ oi.length = lo + i ∧ lo + n ≤ most ∧ 1 ≤ d ∧ d ≤ lo ∧ r.length < m0 ∧ RelB (most : Int) la lb res (copyN d (n - i) oi) (.ok r)
  | .error e => res = .error e ∧ oi.length ≤ most
theorem RelC.start {most : Nat} {la lb : List Nat} {res : Except Nat (List UInt8 × List Bool)} {o : List UInt8} {m0 n d : Nat} {st : RS} (h : RelC most la lb res o m0 n d st) (hl : o.length ≤ most) : RelI most la lb res o.length m0 n d 0 o st := by
  cases st with
  | error e => exact ⟨h, hl⟩
  | ok r => exact ⟨Nat.zero_le _, rfl, h.2.2.1, h.1, h.2.1, h.2.2.2.1, h.2.2.2.2⟩
theorem copy_cases {most x : Nat} {la lb : List Nat} {res : Except Nat (List UInt8 × List Bool)} {o : List UInt8} {r r1 : List Bool} (hrel : RelB (most : Int) la lb res o (.ok r)) (h : symP la r = .ok (x, r1)) (h1 : 256 < x) (h2 : ¬ 285 < x) :
    RelY most la lb res o r.length ((lensT.getD (x - 257) (0, 0)).1 + (numI (.ok r1) (lensT.getD (x - 257) (0, 0)).2).1) (symO lb (numS (lensT.getD (x - 257) (0, 0)).2 (.ok r1))) := by
  have hl1 := symP_less h
  cases ht : takeB (lensT.getD (x - 257) (0, 0)).2 r1 with
  | error e =>
    rw [numS_error ht]
    exact .inl ⟨e, rfl, hrel.err (one_e2 h h1 h2 ht)⟩
  | ok v =>
    obtain ⟨t, r2⟩ := v
    have hi := numI_take ht
    have hs : numS (lensT.getD (x - 257) (0, 0)).2 (.ok r1) = .ok r2 := by rw [← numI_S, hi]
    rw [hi, hs]
    have hl2 := takeB_less ht
    show RelY most la lb res o r.length ((lensT.getD (x - 257) (0, 0)).1 + t) (symP lb r2)
    cases hy : symP lb r2 with
    | error e => exact .inl ⟨e, rfl, hrel.err (one_e3 h h1 h2 ht hy)⟩
    | ok v =>
      obtain ⟨y, r3⟩ := v
      by_cases h29 : 29 < y
      · exact .inr (.inl ⟨y, r3, rfl, h29, hrel.err (one_far h h1 h2 ht hy h29)⟩)
      · refine .inr (.inr ⟨y, r3, rfl, by omega, ?_⟩)
        have hl3 := symP_less hy
        have hp := dist_pos y (by omega)
        cases hu : takeB (distT.getD y (0, 0)).2 r3 with
        | error e =>
          rw [numS_error hu]
          exact hrel.err (one_e4 h h1 h2 ht hy h29 hu)
        | ok v =>
          obtain ⟨u, r4⟩ := v
          have hi := numI_take hu
          have hs : numS (distT.getD y (0, 0)).2 (.ok r3) = .ok r4 := by rw [← numI_S, hi]
          have hl4 := takeB_less hu
          rw [hi, hs]
          refine ⟨by omega, fun hb => hrel.err (one_back h h1 h2 ht hy h29 hu hb), fun hb hm => hrel.err (one_many h h1 h2 ht hy h29 hu (by omega) (by omega)), fun hb hm => ⟨by omega, hrel.on (one_copy h h1 h2 ht hy h29 hu (by omega) (by omega))⟩⟩

set_option maxRecDepth 100000 in
set_option maxHeartbeats 1000000 in
theorem rsymbols_any (R base most L M : Nat) (s : ByteArray) (out : List UInt8) (r0 : List Bool) (la lb : List Nat) (w : World) (hR : RdAt w R base s most out (.ok r0)) (hL : CodeM w L la) (hM : CodeM w M lb)
    (hka : kraft la ≤ 32768) (ha15 : ∀ x ∈ la, x ≤ 15) (hal : la.length ≤ 400) (hkb : kraft lb ≤ 32768) (hb15 : ∀ x ∈ lb, x ≤ 15) (hbl : lb.length ≤ 400) (hbz : base ≤ w.heap.size) (hm : most < 2 ^ 40) (hs : s.size < 2 ^ 40) (hl : out.length ≤ most) :
    Calls Tryd.prog 31 #[.pointer (some ⟨R, 0, none⟩), .map (some L), .map (some M)] w fun e w' => e = .returned (.tuple #[]) ∧ RdOut w' R base most s (blockGo (most : Int) la lb (r0.length + 1) out r0) ∧ Keeps (okOut R base) w w' := by
  obtain ⟨res, hres⟩ : ∃ x, x = blockGo (most : Int) la lb (r0.length + 1) out r0 := ⟨_, rfl⟩
  have hrel0 : RelB (most : Int) la lb res out (.ok r0) := ⟨_, Nat.lt_succ_self _, hres.symm⟩
  rw [← hres]
  have hsymA := fun o st W hW hC => rsymbol_any R base most L s o st la W hW hC hka ha15 hal hs
  have hsymB := fun o st W hW hC => rsymbol_any R base most M s o st lb W hW hC hkb hb15 hbl hs
  have hcA : ∀ W, Keeps (okOut R base) w W → CodeM W L la := fun W hk => hL.out hR hk
  have hcB : ∀ W, Keeps (okOut R base) w W → CodeM W M lb := fun W hk => hM.out hR hk
  have HR := Lib.hid hR
  have Hrel0 := Lib.hid hrel0
  have HsA := Lib.hid hsymA
  have HsB := Lib.hid hsymB
  have HcA := Lib.hid hcA
  have HcB := Lib.hid hcB
  clear hR hL hM hrel0 hres hsymA hsymB hcA hcB hka ha15 hkb hb15
  go_enter Tryd.func31, Tryd.ntmps31
  go_wp2_with fail
  go_loopg [6] (r0.length + 1) (fun g _ wr => ∃ (o : List UInt8) (st : RS), msOf st ≤ g ∧ o.length ≤ most ∧ RdAt wr R base s most o st ∧ Keeps (okOut R base) w wr ∧ RelB (most : Int) la lb res o st)
  case atStart => exact ⟨out, .ok r0, Nat.le_refl _, hl, HR.out, Keeps.refl _ _, Hrel0.out⟩
  case round =>
    obtain ⟨o, st, hms, hol, hr, hk, hrel⟩ := hrel
    have hz := hk.size
    have Hr := Lib.hid hr
    have Hk := Lib.hid hk
    have Hrel := Lib.hid hrel
    clear hr hk hrel
    cases st with
    | error e =>
      obtain ⟨a', n', ov', hin, he⟩ := Hr.out
      obtain ⟨rfl, hn0⟩ := rs_error he
      have hnb : ((n' : Int) == 0) = false := by simp; omega
      obtain ⟨d0, d1, d2, d3, d4, y1, y2, y3⟩ := hin.cells
      clear hin he hn0
      go_wp2_with fail
      go_end0
      exact ⟨rfl, by rw [show res = .error n' from Hrel.out]; exact ⟨o, Hr.out⟩, Hk.out⟩
    | ok r =>
      rw [msOf_ok] at hms
      obtain ⟨a', n', ov', hin, he⟩ := Hr.out
      obtain rfl := rs_ok he
      obtain ⟨d0, d1, d2, d3, d4, y1, y2, y3⟩ := hin.cells
      clear hin he
      have hsa := HsA.out o (.ok r) wr Hr.out (HcA.out wr Hk.out)
      rw [show symO la (.ok r) = symP la r from rfl] at hsa
      cases hsp : symP la r with
      | error e =>
        rw [hsp] at hsa
        simp only [symV, symT] at hsa
        have hres := Hrel.out.err (one_e1 hsp)
        have Hres := Lib.hid hres
        have Hsa := Lib.hid hsa
        clear hres hsa hsp
        go_wp2_with (go_at_call 57; refine (Hsa.out).mono ?_; rintro e' w2 ⟨rfl, hr2, hk2⟩
                     obtain ⟨a2, n2, ov2, hin2, he2⟩ := (show RdAt w2 R base s most o (.error e) from hr2)
                     obtain ⟨rfl, hn2⟩ := rs_error he2
                     have hnb2 : ((n2 : Int) != 0) = true := (by simp; omega)
                     obtain ⟨g0, g1, g2, g3, g4, k1, k2, k3⟩ := hin2.cells
                     have hk3 := Hk.out.trans hk2
                     have hr2' : RdAt w2 R base s most o (.error n2) := hr2
                     have Hr2 := Lib.hid hr2'
                     have Hk2 := Lib.hid hk3
                     clear hr2 hk2 hk3 hr2' hin2 he2)
        refine bodyPost_ret (results_none rfl _ _ _) rfl ?_
        exact ⟨rfl, by rw [Hres.out]; exact ⟨o, Hr2.out⟩, Hk2.out⟩
      | ok v =>
        obtain ⟨x, r1⟩ := v
        rw [hsp] at hsa
        simp only [symV, symT] at hsa
        have hless := symP_less hsp
        by_cases hx256 : x = 256
        · subst hx256
          have hres := Hrel.out.done (one_end hsp)
          have Hres := Lib.hid hres
          have Hsa := Lib.hid hsa
          clear hres hsa hsp hless
          go_wp2_with (go_at_call 57; refine (Hsa.out).mono ?_; rintro e' w2 ⟨rfl, hr2, hk2⟩
                       obtain ⟨a2, n2, ov2, hin2, he2⟩ := (show RdAt w2 R base s most o (.ok r1) from hr2)
                       obtain rfl := rs_ok he2
                       obtain ⟨g0, g1, g2, g3, g4, k1, k2, k3⟩ := hin2.cells
                       have hk3 := Hk.out.trans hk2
                       have hr2' : RdAt w2 R base s most o (.ok r1) := hr2
                       have Hr2 := Lib.hid hr2'
                       have Hk2 := Lib.hid hk3
                       clear hr2 hk2 hk3 hr2' hin2 he2)
          refine bodyPost_ret (results_none rfl _ _ _) rfl ?_
          exact ⟨rfl, by rw [Hres.out]; exact ⟨Hr2.out, hol⟩, Hk2.out⟩
        · have hq256 : ((x : Int) == 256) = false := beq_eq_false_iff_ne.2 (by omega)
          by_cases hx : x < 256
          · have hxi : (x : Int) < 256 := by omega
            have hput := fun W hW hz => rput_any R base most s o (.ok r1) (UInt8.ofNat x) W hW hz hm (by omega)
            have hxn : ((UInt8.ofNat x).toNat : Int) = (x : Int) := by rw [UInt8.toNat_ofNat', Nat.mod_eq_of_lt (by omega)]
            rw [hxn] at hput
            have Hput := Lib.hid hput
            have Hx256 := Lib.hid hx256
            have hfin : ∃ o' st', RelB (most : Int) la lb res o' st' ∧ o'.length ≤ most ∧ putO most (UInt8.ofNat x) o (.ok r1) = o' ∧ putS most o (.ok r1) = st' ∧ msOf st' < r.length + 1 := by
              rw [putO_ok, putS_ok]
              by_cases hfull : most ≤ o.length
              · rw [if_pos hfull, if_pos hfull]
                exact ⟨o, .error 5, Hrel.out.err (one_full hsp hx (by omega)), hol, rfl, rfl, by rw [msOf_error]; omega⟩
              · rw [if_neg hfull, if_neg hfull]
                exact ⟨o ++ [UInt8.ofNat x], .ok r1, Hrel.out.on (one_lit hsp hx (by omega)), by rw [List.length_append]; show o.length + 1 ≤ most; omega, rfl, rfl, by rw [msOf_ok]; omega⟩
            have Hres := Lib.hid hfin
            clear hput hxn hx256 hfin
            have Hsa := Lib.hid hsa
            clear hsa hsp hless
            go_wp2_with (first
              | (go_at_call 57; refine (Hsa.out).mono ?_; rintro e' w2 ⟨rfl, hr2, hk2⟩
                 obtain ⟨a2, n2, ov2, hin2, he2⟩ := (show RdAt w2 R base s most o (.ok r1) from hr2)
                 obtain rfl := rs_ok he2
                 obtain ⟨g0, g1, g2, g3, g4, k1, k2, k3⟩ := hin2.cells
                 have hk3 := Hk.out.trans hk2
                 have hz3 := hk3.size
                 have hr2' : RdAt w2 R base s most o (.ok r1) := hr2
                 have Hr2 := Lib.hid hr2'
                 have Hk2 := Lib.hid hk3
                 clear hr2 hk2 hk3 hr2' hin2 he2)
              | (go_at_call 56; refine (Hput.out _ Hr2.out (by omega)).mono ?_; rintro e' w3 ⟨rfl, hr3, hk3⟩
                 have hk4 := Hk2.out.trans hk3
                 have Hr3 := Lib.hid hr3
                 have Hk3 := Lib.hid hk4
                 clear hr3 hk3 hk4))
            obtain ⟨o', st', hrel', hol', hpo, hps, hms'⟩ := Hres.out
            have hr3 := Hr3.out
            rw [hpo, hps] at hr3
            go_roundg (msOf st')
            case rel => exact ⟨o', st', Nat.le_refl _, hol', hr3, Hk3.out, hrel'⟩
            case measure => omega
          · have hxi : ¬ (x : Int) < 256 := by omega
            by_cases hx285 : 285 < x
            · have hxj : (285 : Int) < (x : Int) := by omega
              have hres := Hrel.out.err (one_big hsp hx285)
              have Hx256 := Lib.hid hx256
              clear hx256
              have Hres := Lib.hid hres
              have Hsa := Lib.hid hsa
              clear hres hsa hsp hless
              go_wp2_with (go_at_call 57; refine (Hsa.out).mono ?_; rintro e' w2 ⟨rfl, hr2, hk2⟩
                           obtain ⟨a2, n2, ov2, hin2, he2⟩ := (show RdAt w2 R base s most o (.ok r1) from hr2)
                           obtain rfl := rs_ok he2
                           obtain ⟨g0, g1, g2, g3, g4, k1, k2, k3⟩ := hin2.cells
                           have hk3 := Hk.out.trans hk2
                           have hr2' : RdAt w2 R base s most o (.ok r1) := hr2
                           have Hr2 := Lib.hid hr2'
                           have Hk2 := Lib.hid hk3
                           clear hr2 hk2 hk3 hr2' hin2 he2)
              refine bodyPost_ret (results_none rfl _ _ _) rfl ?_
              refine ⟨rfl, ?_, Hk2.out.setR 2 _⟩
              rw [Hres.out]
              obtain ⟨a4, n4, ov4, hin4, he4⟩ := Hr2.out
              exact ⟨o, a4, 4, ov4, hin4.setNo 4 (by decide) _ rfl, rfl⟩
            · have hxj : ¬ (285 : Int) < (x : Int) := by omega
              obtain ⟨k, hxk⟩ : ∃ k, k = x - 257 := ⟨_, rfl⟩
              have hx257 : (x : Int) = (k : Int) + 257 := by omega
              have hk29 : k < 29 := by omega
              have hy0 := copy_cases Hrel.out hsp (by omega) hx285
              rw [← hxk] at hy0
              have hlen := fun W => rlength_any k (x : Int) W hk29 hx257
              have hext := fun W => rextra_any k (x : Int) W hk29 hx257
              have hex16 := extra_le k hk29
              have hb258 := lens_le k hk29
              obtain ⟨ex, hex⟩ : ∃ q, q = (lensT.getD k (0, 0)).2 := ⟨_, rfl⟩
              obtain ⟨b0, hb0⟩ : ∃ q, q = (lensT.getD k (0, 0)).1 := ⟨_, rfl⟩
              rw [← hex, ← hb0] at hy0
              rw [← hb0] at hlen hb258
              rw [← hex] at hext hex16
              have hnum1 := fun W hW => rnumber_any R base most s o (.ok r1) ex W hW hs hex16
              have ht16 := numI_lt16 (.ok r1) hex16
              obtain ⟨t, ht⟩ : ∃ q, q = (numI (.ok r1) ex).1 := ⟨_, rfl⟩
              obtain ⟨st2, hst2⟩ : ∃ q, q = numS ex (.ok r1) := ⟨_, rfl⟩
              rw [← ht, ← hst2] at hy0 hnum1
              rw [← ht] at ht16
              obtain ⟨n, hn⟩ : ∃ q, q = b0 + t := ⟨_, rfl⟩
              rw [← hn] at hy0
              have hnz : (b0 : Int) + (t : Int) = (n : Int) := by omega
              have hnb : n < 70000 := by omega
              have hsb := fun W hW hk => HsB.out o st2 W hW (HcB.out W hk)
              obtain ⟨so, hso⟩ : ∃ q, q = symO lb st2 := ⟨_, rfl⟩
              rw [← hso] at hy0 hsb
              have Hx256 := Lib.hid hx256
              have Hx285 := Lib.hid hx285
              have Hxk := Lib.hid hxk
              have Hx257 := Lib.hid hx257
              have Hlen := Lib.hid hlen
              have Hext := Lib.hid hext
              have Hnum1 := Lib.hid hnum1
              have Hsb := Lib.hid hsb
              have Hn := Lib.hid hn
              have Hy := Lib.hid hy0
              clear hx256 hx285 hxk hx257 hlen hext hnum1 hsb hn hy0 hk29 hex hb0 ht hst2 hso
              rcases Hy.out with ⟨e, rfl, hre⟩ | ⟨y, r3, rfl, h29, hre⟩ | ⟨y, r3, rfl, h30, h5⟩
              · have Hre := Lib.hid hre
                clear hre
                have hsb2 := Hsb.out
                simp only [symV, symT] at hsb2
                have Hsb2 := Lib.hid hsb2
                clear hsb2 Hsb
                have Hsa := Lib.hid hsa
                clear hsa hsp hless
                go_wp2_with (first
                  | (go_at_call 57; refine (Hsb2.out _ Hr3.out Hk3.out).mono ?_; rintro e' w4 ⟨rfl, hr4, hk4⟩
                     obtain ⟨a4, n4, ov4, hin4, he4⟩ := (show RdAt w4 R base s most o (.error e) from hr4)
                     obtain ⟨rfl, hn4⟩ := rs_error he4
                     have hnb4 : ((n4 : Int) != 0) = true := (by simp; omega)
                     obtain ⟨g40, g41, g42, g43, g44, k41, k42, k43⟩ := hin4.cells
                     clear hin4 he4
                     have hk_ := Hk3.out.trans hk4
                     have hz4 := hk_.size
                     have hr_ : RdAt w4 R base s most o (.error n4) := hr4
                     have Hr4 := Lib.hid hr_
                     have Hk4 := Lib.hid hk_
                     clear hr4 hk4 hr_ hk_)
                  | (go_at_call 26; refine (Hnum1.out _ Hr2.out).mono ?_; rintro e' w3 ⟨rfl, hr3, hk3⟩
                     have hk_ := Hk2.out.trans hk3
                     have hz3 := hk_.size
                     have hr_ : RdAt w3 R base s most o (st2) := hr3
                     have Hr3 := Lib.hid hr_
                     have Hk3 := Lib.hid hk_
                     clear hr3 hk3 hr_ hk_)
                  | (go_at_call 58; refine (Hlen.out _).mono ?_; rintro e' w' ⟨rfl, rfl⟩)
                  | (go_at_call 59; refine (Hext.out _).mono ?_; rintro e' w' ⟨rfl, rfl⟩)
                  | (go_at_call 57; refine (Hsa.out).mono ?_; rintro e' w2 ⟨rfl, hr2, hk2⟩
                     obtain ⟨a2, n2, ov2, hin2, he2⟩ := (show RdAt w2 R base s most o (.ok r1) from hr2)
                     obtain rfl := rs_ok he2
                     obtain ⟨g20, g21, g22, g23, g24, k21, k22, k23⟩ := hin2.cells
                     clear hin2 he2
                     have hk_ := Hk.out.trans hk2
                     have hz2 := hk_.size
                     have hr_ : RdAt w2 R base s most o (.ok r1) := hr2
                     have Hr2 := Lib.hid hr_
                     have Hk2 := Lib.hid hk_
                     clear hr2 hk2 hr_ hk_))
                refine bodyPost_ret (results_none rfl _ _ _) rfl ?_
                exact ⟨rfl, by rw [Hre.out]; exact ⟨o, Hr4.out⟩, Hk4.out⟩
              · have Hre := Lib.hid hre
                have h29i : (29 : Int) < (y : Int) := by omega
                clear hre h29
                have hsb2 := Hsb.out
                simp only [symV, symT] at hsb2
                have Hsb2 := Lib.hid hsb2
                clear hsb2 Hsb
                have Hsa := Lib.hid hsa
                clear hsa hsp hless
                go_wp2_with (first
                  | (go_at_call 55; refine (rwrong_any R base most s o (.ok r3) 4 _ Hr4.out (by decide) (by decide)).mono ?_; rintro e' w5 ⟨rfl, hr5, hk5⟩
                     obtain ⟨a5, n5, ov5, hin5, he5⟩ := (show RdAt w5 R base s most o (.error 4) from hr5)
                     obtain ⟨hn5, _⟩ := rs_error he5
                     subst hn5
                     obtain ⟨g50, g51, g52, g53, g54, k51, k52, k53⟩ := hin5.cells
                     clear hin5 he5
                     have hk_ := Hk4.out.trans hk5
                     have hz5 := hk_.size
                     have hr_ : RdAt w5 R base s most o (.error 4) := hr5
                     have Hr5 := Lib.hid hr_
                     have Hk5 := Lib.hid hk_
                     clear hr5 hk5 hr_ hk_)
                  | (go_at_call 57; refine (Hsb2.out _ Hr3.out Hk3.out).mono ?_; rintro e' w4 ⟨rfl, hr4, hk4⟩
                     obtain ⟨a4, n4, ov4, hin4, he4⟩ := (show RdAt w4 R base s most o (.ok r3) from hr4)
                     obtain rfl := rs_ok he4
                     obtain ⟨g40, g41, g42, g43, g44, k41, k42, k43⟩ := hin4.cells
                     clear hin4 he4
                     have hk_ := Hk3.out.trans hk4
                     have hz4 := hk_.size
                     have hr_ : RdAt w4 R base s most o (.ok r3) := hr4
                     have Hr4 := Lib.hid hr_
                     have Hk4 := Lib.hid hk_
                     clear hr4 hk4 hr_ hk_)
                  | (go_at_call 26; refine (Hnum1.out _ Hr2.out).mono ?_; rintro e' w3 ⟨rfl, hr3, hk3⟩
                     have hk_ := Hk2.out.trans hk3
                     have hz3 := hk_.size
                     have hr_ : RdAt w3 R base s most o (st2) := hr3
                     have Hr3 := Lib.hid hr_
                     have Hk3 := Lib.hid hk_
                     clear hr3 hk3 hr_ hk_)
                  | (go_at_call 58; refine (Hlen.out _).mono ?_; rintro e' w' ⟨rfl, rfl⟩)
                  | (go_at_call 59; refine (Hext.out _).mono ?_; rintro e' w' ⟨rfl, rfl⟩)
                  | (go_at_call 57; refine (Hsa.out).mono ?_; rintro e' w2 ⟨rfl, hr2, hk2⟩
                     obtain ⟨a2, n2, ov2, hin2, he2⟩ := (show RdAt w2 R base s most o (.ok r1) from hr2)
                     obtain rfl := rs_ok he2
                     obtain ⟨g20, g21, g22, g23, g24, k21, k22, k23⟩ := hin2.cells
                     clear hin2 he2
                     have hk_ := Hk.out.trans hk2
                     have hz2 := hk_.size
                     have hr_ : RdAt w2 R base s most o (.ok r1) := hr2
                     have Hr2 := Lib.hid hr_
                     have Hk2 := Lib.hid hk_
                     clear hr2 hk2 hr_ hk_))
                refine bodyPost_ret (results_none rfl _ _ _) rfl ?_
                exact ⟨rfl, by rw [Hre.out]; exact ⟨o, Hr5.out⟩, Hk5.out⟩
              · have h29i : ¬ (29 : Int) < (y : Int) := by omega
                have hdis := fun W => rdistance_any y W h30
                have hmor := fun W => rmore_any y W h30
                have hmo16 := more_le y h30
                have hb1 := dist_le y h30
                obtain ⟨mo, hmo⟩ : ∃ q, q = (distT.getD y (0, 0)).2 := ⟨_, rfl⟩
                obtain ⟨b1, hb1d⟩ : ∃ q, q = (distT.getD y (0, 0)).1 := ⟨_, rfl⟩
                rw [← hmo, ← hb1d] at h5
                rw [← hb1d] at hdis hb1
                rw [← hmo] at hmor hmo16
                have hnum2 := fun W hW => rnumber_any R base most s o (.ok r3) mo W hW hs hmo16
                have hu16 := numI_lt16 (.ok r3) hmo16
                obtain ⟨u, hu⟩ : ∃ q, q = (numI (.ok r3) mo).1 := ⟨_, rfl⟩
                obtain ⟨st5, hst5⟩ : ∃ q, q = numS mo (.ok r3) := ⟨_, rfl⟩
                rw [← hu, ← hst5] at h5 hnum2
                rw [← hu] at hu16
                obtain ⟨d, hd⟩ : ∃ q, q = b1 + u := ⟨_, rfl⟩
                rw [← hd] at h5
                have hdz : (b1 : Int) + (u : Int) = (d : Int) := by omega
                have hdb : d < 100000 := by omega
                have Hdis := Lib.hid hdis
                have Hmor := Lib.hid hmor
                have Hnum2 := Lib.hid hnum2
                have Hd := Lib.hid hd
                have H5 := Lib.hid h5
                have hsb2 := Hsb.out
                simp only [symV, symT] at hsb2
                have Hsb2 := Lib.hid hsb2
                clear hdis hmor hnum2 hd h5 h30 hmo hb1d hu hst5 hsb2 Hsb
                have Hsa := Lib.hid hsa
                clear hsa hsp hless
                go_upto_if 74 with (first
                  | (go_at_call 26; refine (Hnum2.out _ Hr4.out).mono ?_; rintro e' w5 ⟨rfl, hr5, hk5⟩
                     obtain ⟨a5, n5, ov5, hin5, he5⟩ := (show RdAt w5 R base s most o (st5) from hr5)
                     obtain ⟨p5, c5, rfl⟩ := row_form hin5.row
                     obtain ⟨g50, g51, g52, g53, g54, k51, k52, k53⟩ := hin5.cells
                     clear hin5 he5
                     have hk_ := Hk4.out.trans hk5
                     have hz5 := hk_.size
                     have hr_ : RdAt w5 R base s most o (st5) := hr5
                     have Hr5 := Lib.hid hr_
                     have Hk5 := Lib.hid hk_
                     clear hr5 hk5 hr_ hk_)
                  | (go_at_call 60; refine (Hdis.out _).mono ?_; rintro e' w' ⟨rfl, rfl⟩)
                  | (go_at_call 61; refine (Hmor.out _).mono ?_; rintro e' w' ⟨rfl, rfl⟩)
                  | (go_at_call 57; refine (Hsb2.out _ Hr3.out Hk3.out).mono ?_; rintro e' w4 ⟨rfl, hr4, hk4⟩
                     obtain ⟨a4, n4, ov4, hin4, he4⟩ := (show RdAt w4 R base s most o (.ok r3) from hr4)
                     obtain rfl := rs_ok he4
                     obtain ⟨g40, g41, g42, g43, g44, k41, k42, k43⟩ := hin4.cells
                     clear hin4 he4
                     have hk_ := Hk3.out.trans hk4
                     have hz4 := hk_.size
                     have hr_ : RdAt w4 R base s most o (.ok r3) := hr4
                     have Hr4 := Lib.hid hr_
                     have Hk4 := Lib.hid hk_
                     clear hr4 hk4 hr_ hk_)
                  | (go_at_call 26; refine (Hnum1.out _ Hr2.out).mono ?_; rintro e' w3 ⟨rfl, hr3, hk3⟩
                     have hk_ := Hk2.out.trans hk3
                     have hz3 := hk_.size
                     have hr_ : RdAt w3 R base s most o (st2) := hr3
                     have Hr3 := Lib.hid hr_
                     have Hk3 := Lib.hid hk_
                     clear hr3 hk3 hr_ hk_)
                  | (go_at_call 58; refine (Hlen.out _).mono ?_; rintro e' w' ⟨rfl, rfl⟩)
                  | (go_at_call 59; refine (Hext.out _).mono ?_; rintro e' w' ⟨rfl, rfl⟩)
                  | (go_at_call 57; refine (Hsa.out).mono ?_; rintro e' w2 ⟨rfl, hr2, hk2⟩
                     obtain ⟨a2, n2, ov2, hin2, he2⟩ := (show RdAt w2 R base s most o (.ok r1) from hr2)
                     obtain rfl := rs_ok he2
                     obtain ⟨g20, g21, g22, g23, g24, k21, k22, k23⟩ := hin2.cells
                     clear hin2 he2
                     have hk_ := Hk.out.trans hk2
                     have hz2 := hk_.size
                     have hr_ : RdAt w2 R base s most o (.ok r1) := hr2
                     have Hr2 := Lib.hid hr_
                     have Hk2 := Lib.hid hk_
                     clear hr2 hk2 hr_ hk_))
                go_cut [] (fun wx => RdAt wx R base s most o (st6 o d st5) ∧ Keeps (okOut R base) w wx)
                case first =>
                  by_cases h : o.length < d
                  · have hlt : (o.length : Int) < (d : Int) := by omega
                    have H := Lib.hid h
                    clear h
                    go_wp2_with (go_at_call 55; refine (rwrong_any R base most s o st5 4 _ Hr5.out (by decide) (by decide)).mono ?_; rintro e w6 ⟨rfl, hr6, hk6⟩
                                 have hk7 := Hk5.out.trans hk6
                                 have Hr6 := Lib.hid hr6
                                 have Hk6 := Lib.hid hk7
                                 clear hr6 hk6 hk7)
                    go_meet
                    exact ⟨by unfold st6; rw [if_pos H.out]; exact Hr6.out, Hk6.out⟩
                  · have hlt : ¬ (o.length : Int) < (d : Int) := by omega
                    have H := Lib.hid h
                    clear h
                    go_wp2_with fail
                    go_meet
                    exact ⟨by unfold st6; rw [if_neg H.out]; exact Hr5.out, Hk5.out⟩
                case rest =>
                  obtain ⟨hr6, hk6⟩ := hcut
                  obtain ⟨wo, hwo⟩ : ∃ x, x = wc := ⟨_, rfl⟩
                  subst hwo
                  have hrc := H5.out.ends
                  obtain ⟨sx, hsx⟩ : ∃ x, x = st6 o d st5 := ⟨_, rfl⟩
                  rw [← hsx] at hr6 hrc
                  have Hr6 := Lib.hid hr6
                  have Hk6 := Lib.hid hk6
                  have Hrc := Lib.hid hrc
                  clear hr6 hk6 hrc hsx
                  obtain ⟨a6, n6, ov6, hin6, he6⟩ := Hr6.out
                  obtain ⟨p6, c6, rfl⟩ := row_form hin6.row
                  obtain ⟨q0, q1, q2, q3, q4, v1, v2, v3⟩ := hin6.cells
                  clear hin6 he6
                  go_wp2_with fail
                  go_quiet (fail)
                  go_upto_if 88 with fail
                  go_cut [] (fun wx => RdAt wx R base s most o (st7 most n o sx) ∧ Keeps (okOut R base) w wx)
                  case first =>
                    by_cases h : most < o.length + n
                    · have hlt : (most : Int) < (o.length : Int) + (n : Int) := by omega
                      have H := Lib.hid h
                      clear h
                      go_wp2_with (go_at_call 55; refine (rwrong_any R base most s o sx 5 _ (Hr6.out.same ⟨nq, rfl⟩) (by decide) (by decide)).mono ?_; rintro e w7 ⟨rfl, hr7, hk7⟩
                                   have hk8 := (Hk6.out.drewN nq).trans hk7
                                   have Hr7 := Lib.hid hr7
                                   have Hk7 := Lib.hid hk8
                                   clear hr7 hk7 hk8)
                      go_meet
                      exact ⟨by unfold st7; rw [if_pos H.out]; exact Hr7.out, Hk7.out⟩
                    · have hlt : ¬ (most : Int) < (o.length : Int) + (n : Int) := by omega
                      have H := Lib.hid h
                      clear h
                      go_wp2_with fail
                      go_meet
                      exact ⟨by unfold st7; rw [if_neg H.out]; exact Hr6.out.same ⟨nq, rfl⟩, Hk6.out.drewN nq⟩
                  case rest =>
                    obtain ⟨hr7, hk7⟩ := hcut
                    have hri := Hrc.out.start hol
                    obtain ⟨sy, hsy⟩ : ∃ x, x = st7 most n o sx := ⟨_, rfl⟩
                    rw [← hsy] at hr7 hri
                    obtain ⟨lo, hlo⟩ : ∃ x, x = o.length := ⟨_, rfl⟩
                    rw [← hlo] at hri
                    have Hr7 := Lib.hid hr7
                    have Hk7 := Lib.hid hk7
                    have Hrs := Lib.hid hri
                    clear hr7 hk7 hri hsy hlo q0 q1 q2 q3 q4 v1 v2 v3
                    go_wp2_with fail
                    go_loopw [10] (fun iv wr => ∃ (i : Nat) (oi : List UInt8) (st : RS), iv = .int .i64 (i : Int) ∧ RdAt wr R base s most oi st ∧ Keeps (okOut R base) w wr ∧ RelI most la lb res lo r.length n d i oi st) (fun iv _ => n - (intOf iv).toNat)
                    case atStart => exact ⟨0, o, sy, rfl, Hr7.out, Hk7.out, Hrs.out⟩
                    case round =>
                      obtain ⟨i, oi, st, rfl, hr, hk, hrel⟩ := hrel
                      have hz := hk.size
                      have Hri := Lib.hid hr
                      have Hki := Lib.hid hk
                      clear hr hk
                      cases st with
                      | error e =>
                        obtain ⟨a', n', ov', hin, he⟩ := Hri.out
                        obtain ⟨rfl, hn0⟩ := rs_error he
                        have hnb : ((n' : Int) == 0) = false := by simp; omega
                        obtain ⟨d0, d1, d2, d3, d4, y1, y2, y3⟩ := hin.cells
                        have Hrel2 : Hid (res = .error n' ∧ oi.length ≤ most) := Lib.hid hrel
                        clear hin he hrel hn0
                        by_cases hlt : (i : Int) < (n : Int)
                        all_goals
                          go_wp2_with fail
                          go_roundg (msOf (.error n'))
                          case rel => exact ⟨oi, .error n', Nat.le_refl _, Hrel2.out.2, Hri.out, Hki.out, Hrel2.out.1⟩
                          case measure => rw [msOf_error]; omega
                      | ok r4 =>
                        obtain ⟨hin', hlen, hmost, hd1, hdlo, hless4, hrelB⟩ := hrel
                        obtain ⟨a', n', ov', hin, he⟩ := Hri.out
                        obtain rfl := rs_ok he
                        obtain ⟨d0, d1, d2, d3, d4, y1, y2, y3⟩ := hin.cells
                        by_cases hlt : (i : Int) < (n : Int)
                        · obtain ⟨f, hf⟩ : ∃ f, n - i = f + 1 := ⟨n - i - 1, by omega⟩
                          rw [hf, copyN] at hrelB
                          obtain ⟨g, c, rfl, hcells⟩ := out_cell hin (by omega)
                          have cj := hcells (oi.length - d) (by omega)
                          obtain ⟨L, hL⟩ : ∃ L, L = oi.length := ⟨_, rfl⟩
                          rw [← hL] at hrelB cj d3 hlen
                          obtain ⟨j, hj⟩ : ∃ j, j = L - d := ⟨_, rfl⟩
                          rw [← hj] at hrelB cj
                          obtain ⟨b, hb⟩ : ∃ b, b = oi.getD j 0 := ⟨_, rfl⟩
                          rw [← hb] at hrelB cj
                          have hput := fun W hW hz => rput_any R base most s oi (.ok r4) b W hW hz hm (by omega)
                          have hjz : (L : Int) - (d : Int) = (j : Int) := by omega
                          have hjl : (j : Int) < (L : Int) := by omega
                          have hj0 : 0 ≤ (j : Int) := by omega
                          have hjw : IntKind.i64.wrap (j : Int) = (j : Int) := by rw [IntKind.wrap_i64]; omega
                          have Hput := Lib.hid hput
                          have HL := Lib.hid hL
                          have Hf := Lib.hid hf
                          have Hlen := Lib.hid hlen
                          have Hrb := Lib.hid hrelB
                          clear hcells hin he hput hL hf hlen hrelB hj hb
                          go_wp2_with fail
                          go_still_tail 14, (by kernel_rfl)
                          change wpList _ _ _ _ _ wr.drew
                          have hrd : RdAt wr.drew R base s most oi (.ok r4) := Hri.out.same ⟨1, rfl⟩
                          have Hrd := Lib.hid hrd
                          clear hrd
                          go_wp2_with (go_at_call 56; refine (Hput.out _ Hrd.out (by show base ≤ wr.heap.size; omega)).mono ?_; rintro e' w9 ⟨rfl, hr9, hk9⟩
                                       have hk10 := Hki.out.drew.trans hk9
                                       have Hr9 := Lib.hid hr9
                                       have Hk9 := Lib.hid hk10
                                       clear hr9 hk9 hk10)
                          have hr9 := Hr9.out
                          have hLe := HL.out
                          have hle := Hlen.out
                          rw [putO_ok, putS_ok, if_neg (by omega), if_neg (by omega)] at hr9
                          go_roundw
                          case rel =>
                            refine ⟨i + 1, oi ++ [b], .ok r4, by go_num, hr9, Hk9.out, by omega, by rw [List.length_append]; show oi.length + 1 = _; omega, hmost, hd1, hdlo, hless4, ?_⟩
                            rw [show n - (i + 1) = f by have := Hf.out; omega]
                            exact Hrb.out
                          case measure => simp [intOf]; omega
                        · obtain rfl : i = n := by omega
                          rw [Nat.sub_self] at hrelB
                          have Hrb : Hid (RelB (most : Int) la lb res oi (.ok r4)) := Lib.hid hrelB
                          have Hlen := Lib.hid hlen
                          clear hin he hrelB hlen
                          go_wp2_with fail
                          go_roundg (msOf (.ok r4))
                          case rel => exact ⟨oi, .ok r4, Nat.le_refl _, by have := Hlen.out; omega, Hri.out, Hki.out, Hrb.out⟩
                          case measure => rw [msOf_ok]; omega
end
section
open Go.RowKit Go.Maps
section
variable {short l : List Nat} {r r1 : List Bool} {x : Nat}
theorem len_e (h : symP short r = .error x) : lenOne short l r = .error x := by unfold lenOne; simp only [h]
theorem len_1 (h : symP short r = .ok (x, r1)) (h1 : x ≠ 16) (h2 : x ≠ 17) (h3 : x ≠ 18) : lenOne short l r = .ok (1, x, r1) := by unfold lenOne; simp only [h]; rw [if_neg h1, if_neg h2, if_neg h3]
/-- what one symbol of the code of lengths says: how often, what; the state -/
def RelT (o : Except Nat (Nat × Nat × List Bool)) (t x : Nat) : RS → Prop
  | .ok r => o = .ok (t, x, r)
  | .error e => o = .error e
theorem len_16 (h : symP short r = .ok (16, r1)) : (l.length = 0 → ∃ e, wrongS 4 (numS 2 (.ok r1)) = .error e ∧ lenOne short l r = .error e) ∧ (l.length ≠ 0 → RelT (lenOne short l r) (3 + (numI (.ok r1) 2).1) (l.getD (l.length - 1) 0) (numS 2 (.ok r1))) := by
  unfold lenOne
  simp only [h]
  rw [if_pos trivial]
  cases ht : takeB 2 r1 with
  | error e =>
    rw [numS_error ht]
    exact ⟨fun _ => ⟨e, rfl, rfl⟩, fun _ => rfl⟩
  | ok v =>
    obtain ⟨t, r2⟩ := v
    have hi := numI_take ht
    have hs : numS 2 (.ok r1) = .ok r2 := by rw [← numI_S, hi]
    rw [hi, hs]
    refine ⟨fun h0 => ⟨4, rfl, ?_⟩, fun h0 => ?_⟩
    · simp only []; rw [if_pos h0]
    · show (if l.length = 0 then _ else _) = _
      rw [if_neg h0]
theorem len_17 (h : symP short r = .ok (17, r1)) : RelT (lenOne short l r) (3 + (numI (.ok r1) 3).1) 0 (numS 3 (.ok r1)) := by
  unfold lenOne
  simp only [h]
  rw [if_neg (by decide), if_pos trivial]
  cases ht : takeB 3 r1 with
  | error e => rw [numS_error ht]; rfl
  | ok v =>
    obtain ⟨t, r2⟩ := v
    have hi := numI_take ht
    have hs : numS 3 (.ok r1) = .ok r2 := by rw [← numI_S, hi]
    rw [hi, hs]; rfl
theorem len_18 (h : symP short r = .ok (18, r1)) : RelT (lenOne short l r) (11 + (numI (.ok r1) 7).1) 0 (numS 7 (.ok r1)) := by
  unfold lenOne
  simp only [h]
  rw [if_neg (by decide), if_neg (by decide), if_pos trivial]
  cases ht : takeB 7 r1 with
  | error e => rw [numS_error ht]; rfl
  | ok v =>
    obtain ⟨t, r2⟩ := v
    have hi := numI_take ht
    have hs : numS 7 (.ok r1) = .ok r2 := by rw [← numI_S, hi]
    rw [hi, hs]; rfl
end
/-- how the rest of the lengths ends -/
def RelL (short : List Nat) (many : Nat) (T : Except Nat (List Nat × List Bool)) (l : List Nat) : RS → Prop
  | .ok r => l.length ≤ many ∧ (∀ v ∈ l, v ≤ 15) ∧ ∃ f, many - l.length < f ∧ lensGo short many f l r = T
  | .error e => T = .error e
def msL (many : Nat) (l : List Nat) : RS → Nat
  | .ok _ => many + 1 - l.length
  | .error _ => 0
theorem RelL.err {short : List Nat} {many e : Nat} {T : Except Nat (List Nat × List Bool)} {l : List Nat} {r : List Bool} (h : RelL short many T l (.ok r)) (hl : l.length < many) (ho : lenOne short l r = .error e) : T = .error e := by
  obtain ⟨_, _, f, hf, h⟩ := h
  obtain ⟨g, rfl⟩ : ∃ g, f = g + 1 := ⟨f - 1, by omega⟩
  rw [← h, lensGo, if_pos hl, ho]
theorem RelL.done {short : List Nat} {many : Nat} {T : Except Nat (List Nat × List Bool)} {l : List Nat} {r : List Bool} (h : RelL short many T l (.ok r)) (hl : ¬ l.length < many) : T = .ok (l, r) ∧ l.length = many ∧ (∀ v ∈ l, v ≤ 15) := by
  obtain ⟨h1, h2, f, hf, h⟩ := h
  obtain ⟨g, rfl⟩ : ∃ g, f = g + 1 := ⟨f - 1, by omega⟩
  rw [lensGo, if_neg hl] at h
  exact ⟨h.symm, by omega, h2⟩
theorem RelL.on {short : List Nat} {many t x : Nat} {T : Except Nat (List Nat × List Bool)} {l : List Nat} {r : List Bool} {st : RS} (h : RelL short many T l (.ok r)) (hl : l.length < many) (ho : RelT (lenOne short l r) t x st) (hx : x ≤ 15) (ht : 1 ≤ t) :
    RelL short many T (l ++ List.replicate t x) (if many < l.length + t then wrongS 4 st else st) ∧ msL many (l ++ List.replicate t x) (if many < l.length + t then wrongS 4 st else st) < msL many l (.ok r) := by
  cases st with
  | error e =>
    have h1 := h.err hl ho
    split
    · exact ⟨h1, by show 0 < many + 1 - l.length; omega⟩
    · exact ⟨h1, by show 0 < many + 1 - l.length; omega⟩
  | ok r2 =>
    have ho : lenOne short l r = .ok (t, x, r2) := ho
    obtain ⟨h1, h2, f, hf, h⟩ := h
    obtain ⟨g, rfl⟩ : ∃ g, f = g + 1 := ⟨f - 1, by omega⟩
    rw [lensGo, if_pos hl, ho] at h
    simp only [] at h
    have hlen : (l ++ List.replicate t x).length = l.length + t := by rw [List.length_append, List.length_replicate]
    by_cases hm : many < l.length + t
    · rw [if_pos hm]
      rw [if_pos (by omega)] at h
      exact ⟨h.symm, by show 0 < many + 1 - l.length; omega⟩
    · rw [if_neg hm]
      rw [if_neg (by omega)] at h
      refine ⟨⟨by omega, ?_, g, by omega, h⟩, ?_⟩
      · intro v hv
        rcases List.mem_append.1 hv with hv | hv
        · exact h2 v hv
        · have := List.eq_of_mem_replicate hv; omega
      · show many + 1 - _ < many + 1 - l.length
        omega
/-- what lengths leaves -/
def LenOut (B : Nat) (w : World) (v : Value) (many R base most : Nat) (s : ByteArray) (out : List UInt8) : Except Nat (List Nat × List Bool) → Prop
  | .ok (l, r) => RdAt w R base s most out (.ok r) ∧ l.length = many ∧ (∀ x ∈ l, x ≤ 15) ∧ w.ownsRow B 3 1 v l.length (l.map encI)
  | .error e => RdAt w R base s most out (.error e)
theorem ownsRow_out {w w' : World} {B n R base most : Nat} {v : Value} {xs : List Value} {s : ByteArray} {out : List UInt8} {st : RS} (h : w.ownsRow B 3 1 v n xs) (hR : RdAt w R base s most out st) (hk : Keeps (okOut R base) w w') : w'.ownsRow B 3 1 v n xs := by
  refine ownsRow_keeps h hk (fun k cs e => ⟨?_, .inr (fun cs fz e => by injection e with _ h2 _; exact absurd h2 (by decide))⟩)
  rintro rfl
  obtain ⟨a, m, ov, hin, _⟩ := hR
  rcases h.2 with ⟨rfl, _⟩ | ⟨g, cap, cur, rfl, hb, hg, _⟩
  · simp [Value.ownBlock] at e
  · simp only [Value.ownBlock, Option.some.injEq] at e
    subst e
    have := hin.o
    rw [hg] at this
    injection this with this
    injection this with _ h2 _
    exact absurd h2 (by decide)
theorem Keeps.on {ok ok2 : Nat → Obj → Prop} {a b c : World} (h : Keeps ok a b) (k : Keeps ok2 b c) (hm : ∀ i o, a.heap[i]? = some o → ok i o → ok2 i o) : Keeps ok a c :=
  ⟨k.os.trans h.os, k.tape.trans h.tape, k.output.trans h.output, Nat.le_trans h.size k.size, fun i o hi hk => k.block i o (h.block i o hi hk) (hm i o hi hk)⟩
/-- only young rows of ints change -/
def okInt (B : Nat) (k : Nat) (o : Obj) : Prop := k < B ∨ notRow 3 o
theorem RdAt.ints {w w' : World} {B R base most : Nat} {s : ByteArray} {out : List UInt8} {st : RS} (h : RdAt w R base s most out st) (hk : Keeps (okInt B) w w') : RdAt w' R base s most out st :=
  h.keeps hk (fun cs => .inr (fun cs fz e => by injection e with _ h2 _; exact absurd h2 (by decide))) (fun k cs _ => .inr (fun cs fz e => by injection e with _ h2 _; exact absurd h2 (by decide)))

set_option maxRecDepth 100000 in
set_option maxHeartbeats 1000000 in
theorem rlengths_any (R base most C many : Nat) (s : ByteArray) (out : List UInt8) (r0 : List Bool) (short : List Nat) (w : World) (hR : RdAt w R base s most out (.ok r0)) (hC : CodeM w C short)
    (hka : kraft short ≤ 32768) (ha15 : ∀ x ∈ short, x ≤ 15) (hal : short.length = 19) (hs : s.size < 2 ^ 40) (hmany : many < 400) :
    Calls Tryd.prog 63 #[.pointer (some ⟨R, 0, none⟩), .map (some C), .int .i64 (many : Int)] w fun e w' => ∃ v, e = .returned v ∧ LenOut w.heap.size w' v many R base most s out (lensGo short many (many + 1) [] r0) ∧ Keeps (okOut R base) w w' := by
  obtain ⟨i0, hi, hz0, hz1, hz2⟩ := info_parts Tryd.info_int
  obtain ⟨T, hT⟩ : ∃ x, x = lensGo short many (many + 1) [] r0 := ⟨_, rfl⟩
  have hrel0 : RelL short many T [] (.ok r0) := ⟨Nat.zero_le _, (fun v hv => by cases hv), many + 1, by simp, hT.symm⟩
  rw [← hT]
  obtain ⟨B, hB⟩ : ∃ x, x = w.heap.size := ⟨_, rfl⟩
  rw [← hB]
  have hsym := fun st W hW hC => rsymbol_any R base most C s out st short W hW hC hka ha15 (by omega) hs
  have hcA : ∀ W, Keeps (okOut R base) w W → CodeM W C short := fun W hk => hC.out hR hk
  have hnum := fun st n W hW hn => rnumber_any R base most s out st n W hW hs hn
  have hwr := fun st W hW => rwrong_any R base most s out st 4 W hW (by decide) (by decide)
  have Hi := Lib.hid hi
  have Hz0 := Lib.hid hz0
  have Hz1 := Lib.hid hz1
  have Hz2 := Lib.hid hz2
  have HR := Lib.hid hR
  have Hrel0 := Lib.hid hrel0
  have Hsym := Lib.hid hsym
  have HcA := Lib.hid hcA
  have Hnum := Lib.hid hnum
  have Hwr := Lib.hid hwr
  have HB := Lib.hid hB
  clear hi hz0 hz1 hz2 hR hC hrel0 hT hsym hcA hnum hwr hka ha15 hB
  go_enter Tryd.func63, Tryd.ntmps63
  go_wp2_with fail
  go_loopg [7] (many + 1) (fun g lv wr => ∃ (l : List Nat) (st : RS), msL many l st ≤ g ∧ l.length ≤ 1000 ∧ wr.ownsRow B 3 1 lv l.length (l.map encI) ∧ RdAt wr R base s most out st ∧ Keeps (okOut R base) w wr ∧ RelL short many T l st)
  case atStart => exact ⟨[], .ok r0, Nat.le_refl _, by simp, World.ownsRow_nil _ _ _ _, HR.out, Keeps.refl _ _, Hrel0.out⟩
  case round =>
    obtain ⟨l, st, hms, hl1, hown, hr, hk, hrel⟩ := hrel
    have hz := hk.size
    obtain ⟨pp, nn, pc, rfl⟩ := ownsRow_slice hown
    obtain rfl := ownsRow_nn hown
    have Hr := Lib.hid hr
    have Hk := Lib.hid hk
    have Hrel := Lib.hid hrel
    have Hown := Lib.hid hown
    clear hr hk hrel hown
    cases st with
    | error e =>
      obtain ⟨a', n', ov', hin, he⟩ := Hr.out
      obtain ⟨rfl, hn0⟩ := rs_error he
      have hnb : ((n' : Int) == 0) = false := by simp; omega
      obtain ⟨d0, d1, d2, d3, d4, y1, y2, y3⟩ := hin.cells
      clear hin he hn0
      by_cases hlt : (l.length : Int) < (many : Int)
      all_goals
        go_wp2_with fail
        go_ret
        exact ⟨_, rfl, by rw [show T = .error n' from Hrel.out]; exact Hr.out, Hk.out⟩
    | ok r =>
      have hms' : many + 1 - l.length ≤ gk := hms
      obtain ⟨a', n', ov', hin, he⟩ := Hr.out
      obtain rfl := rs_ok he
      obtain ⟨d0, d1, d2, d3, d4, y1, y2, y3⟩ := hin.cells
      clear hin he hms
      by_cases hlt : (l.length : Int) < (many : Int)
      · have hsa := Hsym.out (.ok r) wr Hr.out (HcA.out wr Hk.out)
        rw [show symO short (.ok r) = symP short r from rfl] at hsa
        cases hsp : symP short r with
        | error e =>
          rw [hsp] at hsa
          simp only [symV, symT] at hsa
          have hres := Hrel.out.err (by omega) (len_e hsp)
          have Hres := Lib.hid hres
          have Hsa := Lib.hid hsa
          clear hres hsa hsp
          go_wp2_with (go_at_call 57; refine (Hsa.out).mono ?_; rintro e' w2 ⟨rfl, hr2, hk2⟩
                       obtain ⟨a2, n2, ov2, hin2, he2⟩ := hr2
                       have hn2 := rs_error he2
                       have hnb2 : ((n2 : Int) != 0) = true := (by simp; omega)
                       obtain ⟨g0, g1, g2, g3, g4, k1, k2, k3⟩ := hin2.cells
                       have hk3 := Hk.out.trans hk2
                       have hr2' : RdAt w2 R base s most out (.error e) := ⟨_, _, _, hin2, he2⟩
                       have Hr2 := Lib.hid hr2'
                       have Hk2 := Lib.hid hk3
                       clear hk2 hk3 hr2' hin2 he2 hn2)
          go_ret
          exact ⟨_, rfl, by rw [Hres.out]; exact Hr2.out, Hk2.out⟩
        | ok v =>
          obtain ⟨x, r1⟩ := v
          rw [hsp] at hsa
          simp only [symV, symT] at hsa
          have hx19 : x < 19 := by have := symP_lt (by omega) hsp; omega
          have hon := fun t x st => Hrel.out.on (t := t) (x := x) (st := st) (by omega)
          have herr := fun e => Hrel.out.err (e := e) (by omega)
          obtain ⟨lo, hlo⟩ : ∃ o, o = lenOne short l r := ⟨_, rfl⟩
          rw [← hlo] at hon herr
          have Hon := Lib.hid hon
          have Herr := Lib.hid herr
          have Hlo := Lib.hid hlo
          have Hsa := Lib.hid hsa
          have Hsp := Lib.hid hsp
          clear hsa hsp hlo hon herr
          go_upto_block 2 with (go_at_call 57; refine (Hsa.out).mono ?_; rintro e' w2 ⟨rfl, hr2, hk2⟩
                                obtain ⟨a2, n2, ov2, hin2, he2⟩ := hr2
                                obtain rfl := rs_ok he2
                                obtain ⟨g0, g1, g2, g3, g4, k1, k2, k3⟩ := hin2.cells
                                have hk3 := Hk.out.trans hk2
                                have hr2' : RdAt w2 R base s most out (.ok r1) := ⟨_, _, _, hin2, he2⟩
                                have hown2 := ownsRow_out Hown.out Hr.out hk2
                                have Hr2 := Lib.hid hr2'
                                have Hk2 := Lib.hid hk3
                                have Hown2 := Lib.hid hown2
                                clear hk2 hk3 hr2' hin2 he2 hown2)
          go_cut [9, 10] (fun tv xv wx => ∃ (tt xx : Nat) (st : RS), tv = .int .i64 (tt : Int) ∧ xv = .int .i64 (xx : Int) ∧ RelT lo tt xx st ∧ (1 ≤ tt ∧ tt < 200) ∧ xx ≤ 15 ∧ RdAt wx R base s most out st ∧ Keeps (okOut R base) w wx ∧ wx.ownsRow B 3 1 (.slice pp l.length pc) l.length (l.map encI))
          case first =>
            by_cases hx16 : x = 16
            · subst hx16
              have h16 := len_16 (l := l) Hsp.out
              rw [← Hlo.out] at h16
              have hnum2 := Hnum.out (.ok r1) 2 w2 Hr2.out (by decide)
              have htn2 := numI_lt (.ok r1) 2
              obtain ⟨tn, htn⟩ : ∃ q, q = (numI (.ok r1) 2).1 := ⟨_, rfl⟩
              obtain ⟨st2, hst2⟩ : ∃ q, q = numS 2 (.ok r1) := ⟨_, rfl⟩
              rw [← htn, ← hst2] at hnum2
              rw [← htn] at htn2
              rw [← htn, ← hst2] at h16
              have Hnum2 := Lib.hid hnum2
              obtain ⟨ha, hb⟩ := h16
              clear hnum2 htn hst2
              by_cases h0 : l.length = 0
              · obtain ⟨e, he, hlo⟩ := ha h0
                have hres := Herr.out e hlo
                have hwr := fun W hW => Hwr.out st2 W hW
                rw [he] at hwr
                have Hres := Lib.hid hres
                have Hwr2 := Lib.hid hwr
                have h0b : ((l.length : Int) == 0) = true := by rw [h0]; rfl
                clear ha hb hres hwr he hlo
                go_wp2_with (first
                  | (go_at_call 55; refine (Hwr2.out _ Hr3.out).mono ?_; rintro e' w4 ⟨rfl, hr4, hk4⟩
                     have hk5 := Hk3.out.trans hk4
                     have Hr4 := Lib.hid hr4
                     have Hk4 := Lib.hid hk5
                     clear hr4 hk4 hk5)
                  | (go_at_call 26; refine (Hnum2.out).mono ?_; rintro e' w3 ⟨rfl, hr3, hk3⟩
                     have hk4 := Hk2.out.trans hk3
                     have Hr3 := Lib.hid hr3
                     have Hk3 := Lib.hid hk4
                     clear hr3 hk3 hk4))
                go_ret
                exact ⟨_, rfl, by rw [Hres.out]; exact Hr4.out, Hk4.out⟩
              · have hrt := hb h0
                have h0b : ((l.length : Int) == 0) = false := beq_eq_false_iff_ne.2 (by omega)
                have hlast : l.getD (l.length - 1) 0 ≤ 15 := by
                  have := getD_lt (l := l) (m := 16) (fun v hv => by have := Hrel.out.2.1 v hv; omega) (by decide) (l.length - 1)
                  omega
                obtain ⟨lst, hlst⟩ : ∃ v, v = l.getD (l.length - 1) 0 := ⟨_, rfl⟩
                rw [← hlst] at hlast hrt
                obtain ⟨ln, hln⟩ : ∃ n, n = l.length - 1 := ⟨_, rfl⟩
                have eln : (l.length : Int) - 1 = (ln : Int) := by omega
                have hlnlt : ln < l.length := by omega
                have hlnz : (ln : Int) < (l.length : Int) := by omega
                have Hlst := Lib.hid hlst
                have Hln := Lib.hid hln
                have Hrt := Lib.hid hrt
                clear ha hb hlst hln hrt
                go_wp2_with (go_at_call 26; refine (Hnum2.out).mono ?_; rintro e' w3 ⟨rfl, hr3, hk3⟩
                             have hown3 := ownsRow_out Hown2.out Hr2.out hk3
                             have hk4 := Hk2.out.trans hk3
                             obtain ⟨gg, rfl, hgg, hcells⟩ := ints_cells hown3 (by omega)
                             have cL8 := hcells ln hlnlt
                             rw [Hln.out, ← Hlst.out] at cL8
                             rw [← Hln.out] at cL8
                             clear hcells
                             have Hr3 := Lib.hid hr3
                             have Hk3 := Lib.hid hk4
                             have Hown3 := Lib.hid hown3
                             clear hr3 hk3 hk4 hown3)
                go_meet
                exact ⟨3 + tn, lst, st2, rfl, rfl, Hrt.out, by omega, hlast, Hr3.out, Hk3.out, Hown3.out⟩
            · by_cases hx17 : x = 17
              · subst hx17
                have hrt := len_17 (l := l) Hsp.out
                rw [← Hlo.out] at hrt
                have hnum2 := Hnum.out (.ok r1) 3 w2 Hr2.out (by decide)
                have htn2 := numI_lt (.ok r1) 3
                obtain ⟨tn, htn⟩ : ∃ q, q = (numI (.ok r1) 3).1 := ⟨_, rfl⟩
                obtain ⟨st2, hst2⟩ : ∃ q, q = numS 3 (.ok r1) := ⟨_, rfl⟩
                rw [← htn, ← hst2] at hnum2
                rw [← htn] at htn2
                rw [← htn, ← hst2] at hrt
                have Hnum2 := Lib.hid hnum2
                have Hrt := Lib.hid hrt
                clear hnum2 htn hst2 hrt
                go_wp2_with (go_at_call 26; refine (Hnum2.out).mono ?_; rintro e' w3 ⟨rfl, hr3, hk3⟩
                             have hown3 := ownsRow_out Hown2.out Hr2.out hk3
                             have hk4 := Hk2.out.trans hk3
                             have Hr3 := Lib.hid hr3
                             have Hk3 := Lib.hid hk4
                             have Hown3 := Lib.hid hown3
                             clear hr3 hk3 hk4 hown3)
                go_meet
                exact ⟨3 + tn, 0, st2, rfl, rfl, Hrt.out, by omega, by omega, Hr3.out, Hk3.out, Hown3.out⟩
              · by_cases hx18 : x = 18
                · subst hx18
                  have hrt := len_18 (l := l) Hsp.out
                  rw [← Hlo.out] at hrt
                  have hnum2 := Hnum.out (.ok r1) 7 w2 Hr2.out (by decide)
                  have htn2 := numI_lt (.ok r1) 7
                  obtain ⟨tn, htn⟩ : ∃ q, q = (numI (.ok r1) 7).1 := ⟨_, rfl⟩
                  obtain ⟨st2, hst2⟩ : ∃ q, q = numS 7 (.ok r1) := ⟨_, rfl⟩
                  rw [← htn, ← hst2] at hnum2
                  rw [← htn] at htn2
                  rw [← htn, ← hst2] at hrt
                  have Hnum2 := Lib.hid hnum2
                  have Hrt := Lib.hid hrt
                  clear hnum2 htn hst2 hrt
                  go_wp2_with (go_at_call 26; refine (Hnum2.out).mono ?_; rintro e' w3 ⟨rfl, hr3, hk3⟩
                               have hown3 := ownsRow_out Hown2.out Hr2.out hk3
                               have hk4 := Hk2.out.trans hk3
                               have Hr3 := Lib.hid hr3
                               have Hk3 := Lib.hid hk4
                               have Hown3 := Lib.hid hown3
                               clear hr3 hk3 hk4 hown3)
                  go_meet
                  exact ⟨11 + tn, 0, st2, rfl, rfl, Hrt.out, by omega, by omega, Hr3.out, Hk3.out, Hown3.out⟩
                · have hrt : RelT lo 1 x (.ok r1) := by rw [Hlo.out]; exact len_1 Hsp.out hx16 hx17 hx18
                  have b16 : ((x : Int) == 16) = false := beq_eq_false_iff_ne.2 (by omega)
                  have b17 : ((x : Int) == 17) = false := beq_eq_false_iff_ne.2 (by omega)
                  have b18 : ((x : Int) == 18) = false := beq_eq_false_iff_ne.2 (by omega)
                  have Hrt := Lib.hid hrt
                  clear hrt
                  go_wp2_with fail
                  go_meet
                  exact ⟨1, x, .ok r1, rfl, rfl, Hrt.out, by omega, by omega, Hr2.out, Hk2.out, Hown2.out⟩
          case rest =>
            obtain ⟨tt, xx, st, rfl, rfl, hrt, ⟨ht1, ht2⟩, hxx, hrx, hkx, hownx⟩ := hcut
            have hfin := Hon.out tt xx st hrt hxx ht1
            obtain ⟨l3, hl3⟩ : ∃ q, q = l ++ List.replicate tt xx := ⟨_, rfl⟩
            rw [← hl3] at hfin
            have hl3n : l3.length = l.length + tt := by rw [hl3, List.length_append, List.length_replicate]
            have hms2 : msL many l (.ok r) ≤ gk := hms'
            have Hfin := Lib.hid hfin
            have Hl3 := Lib.hid hl3
            have Hl3n := Lib.hid hl3n
            have Hms2 := Lib.hid hms2
            have Hrx := Lib.hid hrx
            have Hkx := Lib.hid hkx
            have Hownx := Lib.hid hownx
            have hzx := hkx.size
            clear hfin hl3 hl3n hms2 hrx hkx hownx hrt Hon Herr Hlo Hsp Hsa
            go_wp2_with fail
            go_loopw [7, 11] (fun lv kv wr2 => ∃ k : Nat, kv = .int .i64 (k : Int) ∧ k ≤ tt ∧ wr2.ownsRow B 3 1 lv (l.length + k) ((l ++ List.replicate k xx).map encI) ∧ Keeps (okInt B) wc wr2) (fun _ kv _ => tt - (intOf kv).toNat)
            case atStart => exact ⟨0, rfl, Nat.zero_le _, by rw [List.replicate_zero, List.append_nil]; exact Hownx.out, Keeps.refl _ _⟩
            case round =>
              obtain ⟨k, rfl, hk, hown2, hK2⟩ := hrel
              obtain ⟨pp2, nn2, pc2, rfl⟩ := ownsRow_slice hown2
              have hnn := ownsRow_nn hown2
              have hz2 := hK2.size
              have Hown2 := Lib.hid hown2
              have HK2 := Lib.hid hK2
              clear hown2 hK2
              by_cases hkt : (k : Int) < (tt : Int)
              · subst hnn
                go_wp2_with (at_builtin; refine wpList_append_own_at _ rfl _ _ 52 rfl B 3 i0 (.int .i64 0) 1 8 Tryd.underlying52 Hi.out Hz0.out Hz1.out Hz2.out rfl (by decide) _ _ _ rfl (Hown2.out.alloc _) ⟨wr.heap.size, 0, none⟩ 1 1 [.int .i64 (xx : Int)] rfl rfl (cell_one_new _ _ _) (by simp [Value.oneCell']) (by unfold maxLen; omega) (by omega) (by simp only [World.size_alloc]; have := HB.out; omega) ?_; intro v' w9 hown' hgrow _ _
                             obtain ⟨p', n', c', rfl⟩ := ownsRow_slice hown'
                             have hK9 : Keeps (okInt B) wc w9 := (HK2.out.alloc _).grown hgrow (fun k o _ h1 h2 => notRow_row (Hown2.out.alloc _) h1 h2)
                             have Hown9 := Lib.hid hown'
                             have HK9 := Lib.hid hK9
                             clear hown' hK9 hgrow)
                go_roundw
                case rel =>
                  refine ⟨k + 1, by go_num, by omega, ?_, HK9.out⟩
                  have h := Hown9.out
                  rw [show l.length + k + 1 = l.length + (k + 1) from rfl] at h
                  rw [List.replicate_succ', ← List.append_assoc, List.map_append]
                  exact h
                case measure => simp [intOf]; omega
              · obtain rfl : k = tt := by omega
                obtain ⟨L, hL⟩ : ∃ L, L = l.length + k := ⟨_, rfl⟩
                rw [← hL] at hnn
                subst hnn
                have hown3 := Hown2.out
                have hl3n := Hl3n.out
                rw [← Hl3.out, ← hl3n] at hown3
                have hrd : RdAt wr R base s most out st := Hrx.out.ints HK2.out
                have hkd : Keeps (okOut R base) w wr := Hkx.out.on HK2.out (fun i o hi _ => .inl (by have := heap_lt hi; have := HB.out; omega))
                have hfin := Hfin.out
                rw [← hL] at hfin
                have Hown3 := Lib.hid hown3
                have Hrd := Lib.hid hrd
                have Hkd := Lib.hid hkd
                have HL := Lib.hid hL
                clear hown3 hl3n hrd hkd hL
                by_cases hm : many < nn2
                · rw [if_pos hm] at hfin
                  have hmz : (many : Int) < (nn2 : Int) := by omega
                  have Hfin2 := Lib.hid hfin
                  clear hfin hm
                  go_wp2_with (go_at_call 55; refine (Hwr.out st _ Hrd.out).mono ?_; rintro e' w4 ⟨rfl, hr4, hk4⟩
                               have hown4 := ownsRow_out Hown3.out Hrd.out hk4
                               have hk5 := Hkd.out.trans hk4
                               have Hr4 := Lib.hid hr4
                               have Hk4 := Lib.hid hk5
                               have Hown4 := Lib.hid hown4
                               clear hr4 hk4 hk5 hown4)
                  go_roundg (msL many l3 (wrongS 4 st))
                  case rel => exact ⟨l3, wrongS 4 st, Nat.le_refl _, by rw [Hl3n.out]; omega, Hown4.out, Hr4.out, Hk4.out, Hfin2.out.1⟩
                  case measure => have h1 := Hfin2.out.2; have h2 := Hms2.out; omega
                · rw [if_neg hm] at hfin
                  have hmz : ¬ (many : Int) < (nn2 : Int) := by omega
                  have Hfin2 := Lib.hid hfin
                  clear hfin hm
                  go_wp2_with fail
                  go_roundg (msL many l3 st)
                  case rel => exact ⟨l3, st, Nat.le_refl _, by rw [Hl3n.out]; omega, Hown3.out, Hrd.out, Hkd.out, Hfin2.out.1⟩
                  case measure => have h1 := Hfin2.out.2; have h2 := Hms2.out; omega
      · have hdone := Hrel.out.done (by omega)
        have Hdone := Lib.hid hdone
        clear hdone
        go_wp2_with fail
        go_ret
        exact ⟨_, rfl, by rw [Hdone.out.1]; exact ⟨Hr.out, Hdone.out.2.1, Hdone.out.2.2, Hown.out⟩, Hk.out⟩
end
section
open Go.RowKit Go.Maps

def dynTail (x : Nat) (o : Except Nat (List Nat × List Bool)) : Except Nat (List Nat × List Nat × List Bool) := match o with
  | .error e => .error e
  | .ok (l, r5) => if badCodes l (257 + x) then .error 4 else .ok (l.take (257 + x), l.drop (257 + x), r5)
def tailS (x y : Nat) (o : Except Nat (List Nat × List Bool)) : Except Nat (List Nat × List Nat × List Bool) := match o with
  | .error e => .error e
  | .ok (short, r4) => if kraft short ≠ 32768 then .error 4 else dynTail x (lensGo short (257 + x + (1 + y)) (257 + x + (1 + y) + 1) [] r4)
def RelQ {α : Type} (f : List Bool → Except Nat α) (c : Except Nat α) : RS → Prop
  | .ok r => f r = c
  | .error e => c = .error e
theorem RelQ.wrong {α : Type} {f : List Bool → Except Nat α} {c : Except Nat α} {st : RS} {no : Nat} (h : RelQ f c st) (hf : ∀ r, f r = .error no) : RelQ f c (wrongS no st) := by
  cases st with
  | error e => exact h
  | ok r =>
    have h : f r = c := h
    rw [hf] at h
    exact h.symm
def hdT (x y z : Nat) (r3 : List Bool) : Except Nat (List Nat × List Nat × List Bool) := if 286 < 257 + x ∨ 30 < 1 + y then .error 4 else tailS x y (shortGo (4 + z) 0 (List.replicate 19 0) r3)
theorem codes_eq (r : List Bool) : codesP r = (match takeB 5 r with
  | .error e => .error e
  | .ok (x, r1) => match takeB 5 r1 with
    | .error e => .error e
    | .ok (y, r2) => match takeB 4 r2 with
      | .error e => .error e
      | .ok (z, r3) => hdT x y z r3) := by
  unfold codesP
  cases takeB 5 r with
  | error e => rfl
  | ok v =>
    obtain ⟨x, r1⟩ := v
    simp only []
    cases takeB 5 r1 with
    | error e => rfl
    | ok v =>
      obtain ⟨y, r2⟩ := v
      simp only []
      cases takeB 4 r2 with
      | error e => rfl
      | ok v =>
        obtain ⟨z, r3⟩ := v
        simp only []
        unfold hdT
        by_cases h : 286 < 257 + x ∨ 30 < 1 + y
        · rw [if_pos h, if_pos h]
        · rw [if_neg h, if_neg h]
          cases shortGo (4 + z) 0 (List.replicate 19 0) r3 with
          | error e => rfl
          | ok v =>
            obtain ⟨sh, r4⟩ := v
            show _ = (if kraft sh ≠ 32768 then _ else _)
            by_cases hk : kraft sh ≠ 32768
            · rw [if_pos hk]; simp only []; rw [if_pos hk]
            · rw [if_neg hk]
              simp only []
              rw [if_neg hk]
              cases lensGo sh (257 + x + (1 + y)) (257 + x + (1 + y) + 1) [] r4 with
              | error e => rfl
              | ok v => obtain ⟨l, r5⟩ := v; rfl
theorem codes_head (r : List Bool) : RelQ (hdT (numI (.ok r) 5).1 (numI (numS 5 (.ok r)) 5).1 (numI (numS 5 (numS 5 (.ok r))) 4).1) (codesP r) (numS 4 (numS 5 (numS 5 (.ok r)))) := by
  rw [codes_eq]
  cases h1 : takeB 5 r with
  | error e => rw [numS_error h1]; rfl
  | ok v =>
    obtain ⟨x, r1⟩ := v
    have i1 := numI_take h1
    have s1 : numS 5 (.ok r) = .ok r1 := by rw [← numI_S, i1]
    rw [s1, i1]
    simp only []
    cases h2 : takeB 5 r1 with
    | error e => rw [numS_error h2]; rfl
    | ok v =>
      obtain ⟨y, r2⟩ := v
      have i2 := numI_take h2
      have s2 : numS 5 (.ok r1) = .ok r2 := by rw [← numI_S, i2]
      rw [s2, i2]
      simp only []
      cases h3 : takeB 4 r2 with
      | error e => rw [numS_error h3]; rfl
      | ok v =>
        obtain ⟨z, r3⟩ := v
        have i3 := numI_take h3
        have s3 : numS 4 (.ok r2) = .ok r3 := by rw [← numI_S, i3]
        rw [s3, i3]
        rfl
/-- behind the test of the header -/
theorem head_test {x y z : Nat} {c : Except Nat (List Nat × List Nat × List Bool)} {st : RS} (h : RelQ (hdT x y z) c st) : RelQ (fun r => tailS x y (shortGo (4 + z) 0 (List.replicate 19 0) r)) c (if 286 < 257 + x ∨ 30 < 1 + y then wrongS 4 st else st) := by
  by_cases hb : 286 < 257 + x ∨ 30 < 1 + y
  · rw [if_pos hb]
    cases st with
    | error e => exact h
    | ok r =>
      have h : hdT x y z r = c := h
      unfold hdT at h
      rw [if_pos hb] at h
      exact h.symm
  · rw [if_neg hb]
    cases st with
    | error e => exact h
    | ok r =>
      have h : hdT x y z r = c := h
      unfold hdT at h
      rw [if_neg hb] at h
      exact h
theorem short_step {x y f i : Nat} {sh : List Nat} {c : Except Nat (List Nat × List Nat × List Bool)} {st : RS} (h : RelQ (fun r => tailS x y (shortGo (f + 1) i sh r)) c st) : RelQ (fun r => tailS x y (shortGo f (i + 1) (sh.set (ordT.getD i 0) (numI st 3).1) r)) c (numS 3 st) := by
  cases st with
  | error e => exact h
  | ok r =>
    have h : tailS x y (shortGo (f + 1) i sh r) = c := h
    rw [shortGo] at h
    cases ht : takeB 3 r with
    | error e =>
      rw [ht] at h
      rw [numS_error ht]
      exact h.symm
    | ok v =>
      obtain ⟨t, r2⟩ := v
      rw [ht] at h
      have hi := numI_take ht
      rw [← numI_S, hi]
      exact h
/-- behind the test of the code of lengths -/
theorem short_test {x y i : Nat} {sh : List Nat} {c : Except Nat (List Nat × List Nat × List Bool)} {st : RS} (h : RelQ (fun r => tailS x y (shortGo 0 i sh r)) c st) : RelQ (fun r => dynTail x (lensGo sh (257 + x + (1 + y)) (257 + x + (1 + y) + 1) [] r)) c (if kraft sh = 32768 then st else wrongS 4 st) ∧ (∀ r, (if kraft sh = 32768 then st else wrongS 4 st) = .ok r → kraft sh = 32768) := by
  by_cases hk : kraft sh = 32768
  · rw [if_pos hk]
    refine ⟨?_, fun _ _ => hk⟩
    cases st with
    | error e => exact h
    | ok r =>
      have h : tailS x y (.ok (sh, r)) = c := h
      unfold tailS at h
      simp only [] at h
      rw [if_neg (fun hh => hh hk)] at h
      exact h
  · rw [if_neg hk]
    cases st with
    | error e => exact ⟨h, fun r hh => by cases hh⟩
    | ok r =>
      have h : tailS x y (.ok (sh, r)) = c := h
      unfold tailS at h
      simp only [] at h
      rw [if_pos hk] at h
      exact ⟨h.symm, fun r hh => by cases hh⟩
theorem kraft_cons (a : Nat) (t : List Nat) : kraft (a :: t) = (if a = 0 then 0 else 2 ^ (15 - a)) + kraft t := by simp [kraft]
theorem someN_cons (a : Nat) (t : List Nat) : someN (a :: t) = (if a = 0 then 0 else 1) + someN t := by
  unfold someN
  by_cases h : a = 0
  · simp [h]
  · simp [h]; omega
theorem cnt_some (l : List Nat) : ∀ m, l.length = m → cntN l 1 ≤ someN l ∧ (cntN l 1 = someN l ↔ ∀ x ∈ l, x ≤ 1) := by
  intro m
  induction m generalizing l with
  | zero =>
    intro h
    obtain rfl := List.length_eq_zero_iff.1 h
    exact ⟨by decide, by simp; decide⟩
  | succ m ih =>
    intro h
    obtain ⟨l', x, rfl⟩ : ∃ l' x, l = l' ++ [x] := ⟨l.dropLast, l.getLast (by intro e; rw [e] at h; simp at h), (List.dropLast_concat_getLast _).symm⟩
    obtain ⟨h1, h2⟩ := ih l' (by simp at h; exact h)
    rw [cntN_snoc, someN_snoc]
    by_cases hx : x = 0
    · subst hx
      rw [if_neg (by omega), if_pos rfl]
      refine ⟨by omega, ?_⟩
      rw [Nat.add_zero, Nat.add_zero, h2]
      constructor
      · intro h v hv
        rcases List.mem_append.1 hv with hv | hv
        · exact h v hv
        · simp at hv; omega
      · exact fun h v hv => h v (List.mem_append_left _ hv)
    · rw [if_neg hx]
      by_cases hx1 : x = 1
      · subst hx1
        rw [if_pos ⟨rfl, by decide⟩]
        refine ⟨by omega, ?_⟩
        rw [Nat.add_right_cancel_iff, h2]
        constructor
        · intro h v hv
          rcases List.mem_append.1 hv with hv | hv
          · exact h v hv
          · simp at hv; omega
        · exact fun h v hv => h v (List.mem_append_left _ hv)
      · rw [if_neg (fun h => hx1 h.1)]
        refine ⟨by omega, ?_⟩
        constructor
        · intro h; omega
        · intro h
          have := h x (by simp)
          omega
theorem kraft_small : ∀ {l : List Nat}, (∀ x ∈ l, x ≤ 1) → kraft l = someN l * 16384
  | [], _ => rfl
  | a :: t, h => by
    rw [kraft_cons, someN_cons, kraft_small (fun x hx => h x (List.mem_cons_of_mem _ hx))]
    have := h a List.mem_cons_self
    by_cases ha : a = 0
    · rw [if_pos ha, if_pos ha]; omega
    · obtain rfl : a = 1 := by omega
      rw [if_neg (by decide), if_neg (by decide)]
      omega
theorem kraft_none : ∀ {l : List Nat}, someN l = 0 → kraft l = 0
  | [], _ => rfl
  | a :: t, h => by
    rw [someN_cons] at h
    by_cases ha : a = 0
    · rw [if_pos ha] at h
      rw [kraft_cons, if_pos ha, kraft_none (by omega)]
    · rw [if_neg ha] at h; omega
/-- what is refused, as the document says it -/
def badR (a256 ka sb kb : Nat) (one : Bool) : Bool := (a256 == 0) || (ka != 32768) || (decide (0 < sb) && (kb != 32768) && !one)
def oneR (sb kb : Nat) (lb : List Nat) : Bool := (sb == 1) && (kb != 32768) && lb.all (fun v => decide (v ≤ 1))
theorem bad_eq {l : List Nat} {a : Nat} (ha : 256 < a) (hal : a ≤ l.length) (h15 : ∀ x ∈ l, x ≤ 15) : badCodes l a = badR ((l.take a).getD 256 0) (kraft (l.take a)) (someN (l.drop a)) (kraft (l.drop a)) (oneR (someN (l.drop a)) (kraft (l.drop a)) (l.drop a)) := by
  have h1 : l.getD 256 0 = (l.take a).getD 256 0 := by
    rw [List.getD_eq_getElem?_getD, List.getD_eq_getElem?_getD, List.getElem?_take_of_lt ha]
  have h2 : (symsN (l.drop a)).length = someN (l.drop a) := syms_some _ _ rfl (fun x hx => h15 x (List.mem_of_mem_drop hx))
  obtain ⟨h3, h4⟩ := cnt_some (l.drop a) _ rfl
  unfold badCodes
  rw [h1, h2]
  generalize (l.take a).getD 256 0 = a0
  generalize kraft (l.take a) = ka
  clear h1 h2 h15 hal ha
  generalize l.drop a = lb at *
  generalize kraft lb = kb
  unfold badR oneR
  generalize hc : cntN lb 1 = cb at *
  generalize hsb : someN lb = sb at *
  have key : (kb != 32768 && decide (0 < sb) && !(sb == 1 && cb == 1)) = (decide (0 < sb) && (kb != 32768) && !((sb == 1) && (kb != 32768) && lb.all (fun v => decide (v ≤ 1)))) := by
    by_cases hk : kb = 32768
    · rw [show (kb != 32768) = false by rw [hk]; rfl]
      simp only [Bool.false_and, Bool.and_false]
    · have hk' : (kb != 32768) = true := by simp [hk]
      rw [hk']
      simp only [Bool.true_and, Bool.and_true]
      by_cases hs : sb = 1
      · have : (cb == 1) = lb.all (fun v => decide (v ≤ 1)) := by
          rw [hs] at h4
          by_cases hc1 : cb = 1
          · rw [hc1]
            symm
            rw [show ((1 : Nat) == 1) = true from rfl, List.all_eq_true]
            intro x hx
            exact decide_eq_true (h4.1 hc1 x hx)
          · have hn : ¬ ∀ x ∈ lb, x ≤ 1 := fun h => hc1 (h4.2 h)
            rw [beq_eq_false_iff_ne.2 hc1]
            symm
            rw [List.all_eq_false]
            simpa using hn
        rw [this]
      · rw [beq_eq_false_iff_ne.2 hs]
        rfl
  rw [key]
theorem bad_kraft {l : List Nat} {sb : Nat} {a256 ka : Nat} (hsb : sb = someN l) (h : badR a256 ka sb (kraft l) (oneR sb (kraft l) l) = false) : a256 ≠ 0 ∧ ka = 32768 ∧ kraft l ≤ 32768 := by
  unfold badR at h
  simp only [Bool.or_eq_false_iff] at h
  obtain ⟨⟨h1, h2⟩, h3⟩ := h
  refine ⟨by simpa using h1, by simpa using h2, ?_⟩
  by_cases hk : kraft l = 32768
  · omega
  · by_cases hs : sb = 0
    · rw [kraft_none (by omega)]; omega
    · have hs' : decide (0 < sb) = true := decide_eq_true (by omega)
      have hk' : (kraft l != 32768) = true := by simp [hk]
      rw [hs', hk'] at h3
      simp only [Bool.true_and, Bool.not_eq_false'] at h3
      unfold oneR at h3
      rw [Bool.and_eq_true, Bool.and_eq_true] at h3
      obtain ⟨⟨h4, _⟩, h5⟩ := h3
      rw [List.all_eq_true] at h5
      rw [kraft_small (fun x hx => of_decide_eq_true (h5 x hx))]
      have := eq_of_beq h4
      omega
/-- what a block of kind 2 leaves -/
def dynB (most : Int) (out : List UInt8) (c : Except Nat (List Nat × List Nat × List Bool)) : Except Nat (List UInt8 × List Bool) := match c with
  | .error e => .error e
  | .ok (la, lb, r3) => blockGo most la lb (r3.length + 1) out r3
theorem dynB_ok (most : Int) (out : List UInt8) (la lb : List Nat) (r : List Bool) : dynB most out (.ok (la, lb, r)) = blockGo most la lb (r.length + 1) out r := by unfold dynB; rfl
theorem dynB_error (most : Int) (out : List UInt8) (e : Nat) : dynB most out (.error e) = .error e := by unfold dynB; rfl
/-- the table Order -/
def OrdC (w : World) (a : Addr) (c : Nat) : Prop := w.cell? ⟨2, 0, none⟩ = some (.slice (some a) 19 c) ∧ ∀ i, i < 19 → w.cell? (a.add i) = some (.int .i64 ((ordT.getD i 0 : Nat) : Int))
theorem RowAt.out {w w' : World} {g R base most : Nat} {l : List Nat} {s : ByteArray} {out : List UInt8} {st : RS} (h : RowAt w g l) (hR : RdAt w R base s most out st) (hk : Keeps (okOut R base) w w') : RowAt w' g l := by
  refine hk.block _ _ h ⟨?_, .inr (fun cs fz e => by injection e with _ h2 _; exact absurd h2 (by decide))⟩
  rintro rfl
  obtain ⟨a, m, ov, hin, _⟩ := hR
  have h1 : w.heap[g]? = some (.cells (l.map encI).toArray 3 (0, 0)) := h
  have := hin.o
  rw [h1] at this
  injection this with this
  injection this with _ h2 _
  exact absurd h2 (by decide)
theorem RowAt.setK {w : World} {B g : Nat} {l : List Nat} (h : RowAt w g l) (hB : B ≤ g) (j : Nat) (v : Value) : Keeps (okInt B) w (w.setCell ⟨g, j, none⟩ v) :=
  (Keeps.refl _ w).grown (grown_setCell w g j v) (fun k o _ hb hok e => by
    cases e
    rcases hok with hok | hok
    · omega
    · have h1 : w.heap[g]? = some (.cells (l.map encI).toArray 3 (0, 0)) := h
      rw [h1] at hb
      cases hb
      exact hok _ _ rfl)
theorem RdAt.below {w w' : World} {B R base most : Nat} {s : ByteArray} {out : List UInt8} {st : RS} (h : RdAt w R base s most out st) (hb : Below B w w') (hB : w.heap.size ≤ B) : RdAt w' R base s most out st :=
  h.keeps (ok := fun _ _ => True) (Keeps.of_below hb (fun k o h _ => by have := heap_lt h; omega)) (fun _ => trivial) (fun _ _ _ => trivial)
theorem Keeps.young {ok : Nat → Obj → Prop} {a b c : World} {B : Nat} (h : Keeps ok a b) (hb : Below B b c) (hB : b.heap.size ≤ B) : Keeps ok a c :=
  h.on (ok2 := fun _ _ => True) (Keeps.of_below hb (fun k o h _ => by have := heap_lt h; omega)) (fun _ _ _ _ => trivial)
end
end Go.Proofs.YtjielagabnkimaaDoor
