/- Codes by their lengths: the bits of each symbol; what is read finds the symbol again. -/
import Derived.Test.YtjielagabnkimaaDoorFInf
import Derived.Test.YtjielagabnkimaaDoorFPure
namespace Go.Proofs.YtjielagabnkimaaDoor
/-- the code behind those of n bits -/
def nxt (l : List Nat) : Nat → Nat
  | 0 => 0
  | n + 1 => 2 * nxt l n + cntN l (n + 1)
/-- the code of symbol i -/
def codeN (l : List Nat) (i : Nat) : Nat := 2 * nxt l (l.getD i 0 - 1) + (idxTo l (l.getD i 0) i).length
/-- its bits -/
def codeB (l : List Nat) (i : Nat) : List Bool := high (codeN l i) (l.getD i 0)
theorem nxt_pow (l : List Nat) (k : Nat) : ∀ m, 2 ^ m * nxt l k ≤ nxt l (k + m)
  | 0 => by simp
  | m + 1 => by
    have := nxt_pow l k m
    rw [← Nat.add_assoc, nxt, Nat.pow_succ, Nat.mul_comm (2 ^ m) 2, Nat.mul_assoc]
    omega
theorem idxTo_le (l : List Nat) (n i : Nat) : ∀ m, i ≤ m → (idxTo l n i).length ≤ (idxTo l n m).length
  | 0, h => by obtain rfl : i = 0 := by omega
               exact Nat.le_refl _
  | m + 1, h => by
    by_cases e : i = m + 1
    · rw [e]; exact Nat.le_refl _
    · have := idxTo_le l n i m (by omega)
      rw [idxTo_succ, List.length_append]; omega
theorem idxTo_at {l : List Nat} {n i : Nat} (h : l.getD i 0 = n) : ∀ m, i < m → (idxTo l n m)[(idxTo l n i).length]? = some i
  | 0, hm => by omega
  | m + 1, hm => by
    rw [idxTo_succ]
    by_cases e : i = m
    · subst e
      rw [if_pos h, List.getElem?_append_right (Nat.le_refl _), Nat.sub_self]; rfl
    · have ih := idxTo_at h m (by omega)
      rw [List.getElem?_append_left (List.getElem?_eq_some_iff.1 ih).1]
      exact ih
theorem rank_lt {l : List Nat} {n i : Nat} (h : l.getD i 0 = n) (hi : i < l.length) : (idxTo l n i).length < (idxN l n).length := by
  have := idxTo_at h l.length hi
  rw [idxTo_all] at this
  exact (List.getElem?_eq_some_iff.1 this).1
theorem getD_at {l : List Nat} {j x : Nat} (h : l[j]? = some x) : l.getD j 0 = x := by rw [List.getD_eq_getElem?_getD, h]; rfl
theorem symsTo_at (l : List Nat) (n : Nat) {j x : Nat} : ∀ m, n ≤ m → (symsTo l n)[j]? = some x → (symsTo l m)[j]? = some x
  | 0, hm, h => by obtain rfl : n = 0 := by omega
                   exact h
  | m + 1, hm, h => by
    by_cases e : n = m + 1
    · rw [← e]; exact h
    · have ih := symsTo_at l n m (by omega) h
      rw [symsTo, List.getElem?_append_left (List.getElem?_eq_some_iff.1 ih).1]
      exact ih
/-- where symbol i stands in the row of symbols -/
theorem syms_at {l : List Nat} {n i : Nat} (h : l.getD i 0 = n + 1) (hi : i < l.length) (hn : n + 1 ≤ 15) : (symsN l)[(symsTo l n).length + (idxTo l (n + 1) i).length]? = some i := by
  refine symsTo_at l (n + 1) 15 hn ?_
  rw [symsTo, List.getElem?_append_right (by omega), Nat.add_sub_cancel_left]
  have := idxTo_at h l.length hi
  rwa [idxTo_all] at this
theorem codeN_ge (l : List Nat) (i n : Nat) (h : l.getD i 0 = n + 1) : 2 * nxt l n ≤ codeN l i := by
  unfold codeN; rw [h, Nat.add_sub_cancel]; omega
theorem codeN_lt {l : List Nat} {i n : Nat} (h : l.getD i 0 = n + 1) (hi : i < l.length) : codeN l i < nxt l (n + 1) := by
  have := rank_lt h hi
  unfold codeN
  rw [h, Nat.add_sub_cancel, nxt, cntN, if_neg (by omega)]; omega
theorem symGo_code {l : List Nat} {i n : Nat} (h : l.getD i 0 = n) (hi : i < l.length) (hn : n ≤ 15) (h1 : (symsN l).length ≠ 1 ∨ n = 1) (r : List Bool) :
    ∀ (m f k : Nat), 0 < m → k + m = n → m ≤ f → symGo l f k (codeN l i / 2 ^ m) (nxt l k) ((low (codeN l i) m).reverse ++ r) = .ok (i, r)
  | 0, _, _, hm, _, _ => by omega
  | m + 1, 0, _, _, _, hf => by omega
  | m + 1, f + 1, k, _, hk, hf => by
    rw [low_snoc, List.reverse_append, List.reverse_singleton, List.singleton_append, List.cons_append, symGo]
    have e : 2 * (codeN l i / 2 ^ (m + 1)) + (if (codeN l i / 2 ^ m % 2 == 1) = true then 1 else 0) = codeN l i / 2 ^ m := by
      rw [Nat.pow_succ, ← Nat.div_div_eq_div_mul]
      generalize codeN l i / 2 ^ m = y
      by_cases hy : y % 2 = 1
      · rw [if_pos (by simp [hy])]; omega
      · rw [if_neg (by simp [hy])]; omega
    rw [e]
    by_cases hm : m = 0
    · subst hm
      have hk1 : n = k + 1 := by omega
      rw [hk1] at h
      have hlt := codeN_lt h hi
      have hge := codeN_ge l i k h
      rw [Nat.pow_zero, Nat.div_one, if_pos (by rw [nxt] at hlt; exact hlt)]
      have hs := syms_at h hi (by omega)
      have e2 : codeN l i - 2 * nxt l k = (idxTo l (k + 1) i).length := by
        unfold codeN; rw [h, Nat.add_sub_cancel, Nat.add_sub_cancel_left]
      rw [e2, getD_at hs]
      rfl
    · have hp := nxt_pow l (k + 1) (m - 1)
      have hge := codeN_ge l i (n - 1) (by omega)
      have hle : nxt l (k + 1) ≤ codeN l i / 2 ^ m := by
        rw [Nat.le_div_iff_mul_le (Nat.two_pow_pos m)]
        obtain ⟨m', rfl⟩ : ∃ m', m = m' + 1 := ⟨m - 1, by omega⟩
        rw [Nat.add_sub_cancel, show k + 1 + m' = n - 1 by omega] at hp
        rw [Nat.pow_succ, Nat.mul_comm]
        have : 2 ^ m' * 2 * nxt l (k + 1) = 2 * (2 ^ m' * nxt l (k + 1)) := by rw [Nat.mul_comm (2 ^ m') 2, Nat.mul_assoc]
        omega
      rw [if_neg (by rw [nxt] at hle; omega), if_neg (by omega)]
      exact symGo_code h hi hn h1 r m f (k + 1) (by omega) (by omega) (by omega)
theorem symP_code {l : List Nat} {i : Nat} (hi : i < l.length) (h0 : 0 < l.getD i 0) (hn : l.getD i 0 ≤ 15) (h1 : (symsN l).length ≠ 1 ∨ l.getD i 0 = 1) (hc : codeN l i < 2 ^ l.getD i 0) (r : List Bool) : symP l (codeB l i ++ r) = .ok (i, r) := by
  obtain ⟨n, hnn⟩ : ∃ n, l.getD i 0 = n + 1 := ⟨l.getD i 0 - 1, by omega⟩
  have hs := syms_at hnn hi (by omega)
  have hpos : (symsN l).length ≠ 0 := by have := (List.getElem?_eq_some_iff.1 hs).1; omega
  unfold symP codeB high
  rw [if_neg hpos]
  have := symGo_code (n := l.getD i 0) rfl hi hn h1 r (l.getD i 0) 15 0 h0 (by omega) hn
  rw [Nat.div_eq_of_lt hc] at this
  exact this
/-- what the codes of at most n bits take -/
def takes (l : List Nat) : Nat → Nat
  | 0 => 0
  | n + 1 => takes l n + cntN l (n + 1) * 2 ^ (15 - (n + 1))
theorem takes_snoc (l : List Nat) (x : Nat) : ∀ n, takes (l ++ [x]) n = takes l n + (if 0 < x ∧ x ≤ n then 2 ^ (15 - x) else 0)
  | 0 => by rw [if_neg (by omega)]; rfl
  | n + 1 => by
    rw [takes, takes_snoc l x n, cntN_snoc, takes, Nat.add_mul]
    by_cases h : x = n + 1
    · subst h
      rw [if_neg (by omega), if_pos (by omega), if_pos (by omega), Nat.one_mul]; omega
    · rw [if_neg (c := x = n + 1 ∧ n + 1 ≠ 0) (fun hh => h hh.1)]
      by_cases h2 : 0 < x ∧ x ≤ n
      · rw [if_pos h2, if_pos (by omega)]; omega
      · rw [if_neg h2, if_neg (by omega)]; omega
theorem takes_le_kraft (n : Nat) : ∀ l : List Nat, takes l n ≤ kraft l := by
  intro l
  suffices h : ∀ m, ∀ l : List Nat, l.length = m → takes l n ≤ kraft l from h _ l rfl
  intro m
  induction m with
  | zero =>
    intro l hl
    obtain rfl := List.length_eq_zero_iff.1 hl
    have : ∀ n, takes [] n = 0 := by
      intro n
      induction n with
      | zero => rfl
      | succ n ih => rw [takes, ih]; unfold cntN; rw [if_neg (by omega)]; simp [idxN]
    rw [this]; exact Nat.zero_le _
  | succ m ih =>
    intro l hl
    obtain ⟨l', x, rfl⟩ : ∃ l' x, l = l' ++ [x] := ⟨l.dropLast, l.getLast (by intro h; rw [h] at hl; simp at hl), (List.dropLast_concat_getLast _).symm⟩
    have := ih l' (by simp at hl; exact hl)
    rw [takes_snoc, kraft_snoc]
    by_cases h : 0 < x ∧ x ≤ n
    · rw [if_pos h, if_neg (by omega)]; omega
    · rw [if_neg h]; omega
theorem nxt_takes (l : List Nat) : ∀ n, n ≤ 15 → nxt l n * 2 ^ (15 - n) = takes l n
  | 0, _ => by simp [nxt, takes]
  | n + 1, h => by
    have ih := nxt_takes l n (by omega)
    rw [nxt, takes, ← ih, Nat.add_mul, show 15 - n = 15 - (n + 1) + 1 by omega, Nat.pow_succ, Nat.mul_comm 2, Nat.mul_assoc, Nat.mul_comm 2]
theorem nxt_le {l : List Nat} (hk : kraft l ≤ 32768) (n : Nat) (h : n ≤ 15) : nxt l n ≤ 2 ^ n := by
  have h1 := nxt_takes l n h
  have h2 := takes_le_kraft n l
  have h3 : nxt l n * 2 ^ (15 - n) ≤ 2 ^ n * 2 ^ (15 - n) := by rw [← Nat.pow_add, show n + (15 - n) = 15 by omega, h1]; exact Nat.le_trans h2 hk
  exact Nat.le_of_mul_le_mul_right h3 (Nat.two_pow_pos _)
theorem codeN_lt_pow {l : List Nat} (hk : kraft l ≤ 32768) {i : Nat} (hi : i < l.length) (h0 : 0 < l.getD i 0) (hn : l.getD i 0 ≤ 15) : codeN l i < 2 ^ l.getD i 0 := by
  obtain ⟨n, hnn⟩ : ∃ n, l.getD i 0 = n + 1 := ⟨l.getD i 0 - 1, by omega⟩
  have h1 := codeN_lt hnn hi
  have h2 := nxt_le hk (n + 1) (by omega)
  rw [hnn]; omega
/-- two symbols with one code are one -/
theorem codeB_inj {l : List Nat} (hk : kraft l ≤ 32768) (h15 : ∀ x ∈ l, x ≤ 15) {i j : Nat} (hi : i < l.length) (hj : j < l.length) (h0 : 0 < l.getD i 0) (h : codeB l i = codeB l j) : i = j := by
  have g : ∀ k, k < l.length → l.getD k 0 ≤ 15 := fun k hk => by
    rw [List.getD_eq_getElem?_getD, List.getElem?_eq_getElem hk]; exact h15 _ (List.getElem_mem _)
  have hl := congrArg List.length h
  unfold codeB at hl h
  rw [high_length, high_length] at hl
  rw [← hl] at h
  have e := high_inj (codeN_lt_pow hk hi h0 (g i hi)) (by rw [hl]; exact codeN_lt_pow hk hj (by omega) (g j hj)) h
  obtain ⟨n, hn⟩ : ∃ n, l.getD i 0 = n + 1 := ⟨l.getD i 0 - 1, by omega⟩
  have hnj : l.getD j 0 = n + 1 := by omega
  have e2 : (idxTo l (n + 1) i).length = (idxTo l (n + 1) j).length := by
    unfold codeN at e
    rw [hn, hnj, Nat.add_sub_cancel] at e; omega
  have a := idxTo_at hn l.length hi
  have b := idxTo_at hnj l.length hj
  rw [e2, b] at a
  exact (Option.some.inj a).symm
/-- the symbol with these bits -/
theorem code_of {l : List Nat} {n x : Nat} (h1 : 2 * nxt l n ≤ x) (h2 : x < nxt l (n + 1)) : ∃ i, i < l.length ∧ l.getD i 0 = n + 1 ∧ codeN l i = x ∧ (idxTo l (n + 1) i).length = x - 2 * nxt l n := by
  have hlt : x - 2 * nxt l n < (idxN l (n + 1)).length := by
    rw [nxt, cntN, if_neg (by omega)] at h2; omega
  suffices h : ∀ m, x - 2 * nxt l n < (idxTo l (n + 1) m).length → ∃ i, i < m ∧ l.getD i 0 = n + 1 ∧ (idxTo l (n + 1) i).length = x - 2 * nxt l n by
    rw [← idxTo_all] at hlt
    obtain ⟨i, hi, hg, hr⟩ := h _ hlt
    refine ⟨i, hi, hg, ?_, hr⟩
    unfold codeN
    rw [hg, Nat.add_sub_cancel, hr]; omega
  intro m
  induction m with
  | zero => intro h; simp [idxTo] at h
  | succ m ih =>
    intro h
    rw [idxTo_succ, List.length_append] at h
    by_cases hm : l.getD m 0 = n + 1
    · rw [if_pos hm] at h
      simp at h
      by_cases hq : x - 2 * nxt l n < (idxTo l (n + 1) m).length
      · obtain ⟨i, hi, rest⟩ := ih hq
        exact ⟨i, by omega, rest⟩
      · exact ⟨m, by omega, hm, by omega⟩
    · rw [if_neg hm] at h
      simp at h
      obtain ⟨i, hi, rest⟩ := ih h
      exact ⟨i, by omega, rest⟩
end Go.Proofs.YtjielagabnkimaaDoor
