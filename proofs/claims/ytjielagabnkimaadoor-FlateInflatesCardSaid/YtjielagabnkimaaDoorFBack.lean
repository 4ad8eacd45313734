/- What was compressed comes again: the plain law. -/
import Derived.Test.YtjielagabnkimaaDoorFCanon
import Derived.Test.YtjielagabnkimaaDoorFFixed
namespace Go.Proofs.YtjielagabnkimaaDoor
theorem fixL_len : fixL.length = 288 := by simp [fixL]
theorem fixD_len : fixD.length = 32 := by simp [fixD]
theorem rank8 : ∀ i, i ≤ 288 → (idxTo fixL 8 i).length = min i 144 + (i - 280)
  | 0, _ => rfl
  | i + 1, h => by
    rw [idxTo_succ, List.length_append, rank8 i (by omega), fixL_get i (by omega)]
    unfold litLen
    split
    · rw [if_pos rfl]; simp; omega
    · split
      · rw [if_neg (by decide)]; simp; omega
      · split
        · rw [if_neg (by decide)]; simp; omega
        · rw [if_pos rfl]; simp; omega
theorem rank9 : ∀ i, i ≤ 288 → (idxTo fixL 9 i).length = min (i - 144) 112
  | 0, _ => rfl
  | i + 1, h => by
    rw [idxTo_succ, List.length_append, rank9 i (by omega), fixL_get i (by omega)]
    unfold litLen
    split
    · rw [if_neg (by decide)]; simp; omega
    · split
      · rw [if_pos rfl]; simp; omega
      · split
        · rw [if_neg (by decide)]; simp; omega
        · rw [if_neg (by decide)]; simp; omega
theorem rank7 : ∀ i, i ≤ 288 → (idxTo fixL 7 i).length = min (i - 256) 24
  | 0, _ => rfl
  | i + 1, h => by
    rw [idxTo_succ, List.length_append, rank7 i (by omega), fixL_get i (by omega)]
    unfold litLen
    split
    · rw [if_neg (by decide)]; simp; omega
    · split
      · rw [if_neg (by decide)]; simp; omega
      · split
        · rw [if_pos rfl]; simp; omega
        · rw [if_neg (by decide)]; simp; omega
theorem rank_none (n : Nat) (h7 : n ≠ 7) (h8 : n ≠ 8) (h9 : n ≠ 9) : ∀ i, i ≤ 288 → idxTo fixL n i = []
  | 0, _ => rfl
  | i + 1, h => by
    rw [idxTo_succ, rank_none n h7 h8 h9 i (by omega), fixL_get i (by omega), if_neg]
    · rfl
    · unfold litLen
      split
      · exact fun h => h8 h.symm
      · split
        · exact fun h => h9 h.symm
        · split
          · exact fun h => h7 h.symm
          · exact fun h => h8 h.symm
theorem cnt_fixL (n : Nat) : cntN fixL n = if n = 7 then 24 else if n = 8 then 152 else if n = 9 then 112 else 0 := by
  unfold cntN
  by_cases h0 : n = 0
  · subst h0; rfl
  rw [if_neg h0, ← idxTo_all, fixL_len]
  by_cases h7 : n = 7
  · subst h7; rw [rank7 288 (Nat.le_refl _)]; rfl
  rw [if_neg h7]
  by_cases h8 : n = 8
  · subst h8; rw [rank8 288 (Nat.le_refl _)]; rfl
  rw [if_neg h8]
  by_cases h9 : n = 9
  · subst h9; rw [rank9 288 (Nat.le_refl _)]; rfl
  rw [if_neg h9, rank_none n h7 h8 h9 288 (Nat.le_refl _)]; rfl
theorem nxt_fixL : nxt fixL 6 = 0 ∧ nxt fixL 7 = 24 ∧ nxt fixL 8 = 200 := by simp [nxt, cnt_fixL]
theorem syms_fixL : (symsN fixL).length = 288 := by
  unfold symsN
  rw [show (15 : Nat) = 14 + 1 from rfl, symsTo_cnt, show (14 : Nat) = 13 + 1 from rfl, symsTo_cnt, show (13 : Nat) = 12 + 1 from rfl, symsTo_cnt, show (12 : Nat) = 11 + 1 from rfl, symsTo_cnt, show (11 : Nat) = 10 + 1 from rfl, symsTo_cnt,
    show (10 : Nat) = 9 + 1 from rfl, symsTo_cnt, show (9 : Nat) = 8 + 1 from rfl, symsTo_cnt, show (8 : Nat) = 7 + 1 from rfl, symsTo_cnt, show (7 : Nat) = 6 + 1 from rfl, symsTo_cnt, show (6 : Nat) = 5 + 1 from rfl, symsTo_cnt,
    show (5 : Nat) = 4 + 1 from rfl, symsTo_cnt, show (4 : Nat) = 3 + 1 from rfl, symsTo_cnt, show (3 : Nat) = 2 + 1 from rfl, symsTo_cnt, show (2 : Nat) = 1 + 1 from rfl, symsTo_cnt, show (1 : Nat) = 0 + 1 from rfl, symsTo_cnt]
  simp only [cnt_fixL, symsTo, List.length_nil]
  decide
theorem litLen_pos (x : Nat) : 7 ≤ litLen x ∧ litLen x ≤ 9 := by
  unfold litLen
  split
  · decide
  · split
    · decide
    · split <;> decide
theorem codeN_fixL (x : Nat) (hx : x < 288) : codeN fixL x = (if x < 144 then 48 + x else if x < 256 then 400 + (x - 144) else if x < 280 then x - 256 else 192 + (x - 280)) := by
  have h7 := rank7 x (by omega)
  have h8 := rank8 x (by omega)
  have h9 := rank9 x (by omega)
  obtain ⟨n6, n7, n8⟩ := nxt_fixL
  unfold codeN
  rw [fixL_get x hx]
  unfold litLen
  by_cases a : x < 144
  · rw [if_pos a, if_pos a, h8, show 8 - 1 = 7 from rfl, n7]; omega
  · rw [if_neg a, if_neg a]
    by_cases b : x < 256
    · rw [if_pos b, if_pos b, h9, show 9 - 1 = 8 from rfl, n8]; omega
    · rw [if_neg b, if_neg b]
      by_cases c : x < 280
      · rw [if_pos c, if_pos c, h7, show 7 - 1 = 6 from rfl, n6]; omega
      · rw [if_neg c, if_neg c, h8, show 8 - 1 = 7 from rfl, n7]; omega
theorem codeB_fixL (x : Nat) (hx : x < 288) : codeB fixL x = litBits x := by
  unfold codeB litBits
  rw [codeN_fixL x hx, fixL_get x hx]
  unfold litLen
  by_cases a : x < 144
  · rw [if_pos a, if_pos a, if_pos a]
  · rw [if_neg a, if_neg a, if_neg a]
    by_cases b : x < 256
    · rw [if_pos b, if_pos b, if_pos b]
    · rw [if_neg b, if_neg b, if_neg b]
      by_cases c : x < 280
      · rw [if_pos c, if_pos c, if_pos c]
      · rw [if_neg c, if_neg c, if_neg c]
theorem symP_lit (x : Nat) (hx : x < 288) (r : List Bool) : symP fixL (litBits x ++ r) = .ok (x, r) := by
  have hl := litLen_pos x
  rw [← codeB_fixL x hx]
  refine symP_code (by rw [fixL_len]; exact hx) (by rw [fixL_get x hx]; omega) (by rw [fixL_get x hx]; omega) (.inl (by rw [syms_fixL]; decide)) ?_ r
  rw [codeN_fixL x hx, fixL_get x hx]
  unfold litLen
  by_cases a : x < 144
  · rw [if_pos a, if_pos a]; omega
  · rw [if_neg a, if_neg a]
    by_cases b : x < 256
    · rw [if_pos b, if_pos b]; omega
    · rw [if_neg b, if_neg b]
      by_cases c : x < 280
      · rw [if_pos c, if_pos c]; omega
      · rw [if_neg c, if_neg c]; omega
theorem rankD (n : Nat) : ∀ i, i ≤ 32 → (idxTo fixD n i).length = if n = 5 then i else 0
  | 0, _ => by split <;> rfl
  | i + 1, h => by
    rw [idxTo_succ, List.length_append, rankD n i (by omega), fixD_get i (by omega)]
    by_cases hn : n = 5
    · rw [if_pos hn, if_pos hn.symm, if_pos hn]; rfl
    · rw [if_neg hn, if_neg (fun h => hn h.symm), if_neg hn]; rfl
theorem cnt_fixD (n : Nat) : cntN fixD n = if n = 5 then 32 else 0 := by
  unfold cntN
  by_cases h0 : n = 0
  · subst h0; rfl
  rw [if_neg h0, ← idxTo_all, fixD_len, rankD n 32 (Nat.le_refl _)]
theorem nxt_fixD : nxt fixD 4 = 0 := by simp [nxt, cnt_fixD]
theorem syms_fixD : (symsN fixD).length = 32 := by
  unfold symsN
  rw [show (15 : Nat) = 14 + 1 from rfl, symsTo_cnt, show (14 : Nat) = 13 + 1 from rfl, symsTo_cnt, show (13 : Nat) = 12 + 1 from rfl, symsTo_cnt, show (12 : Nat) = 11 + 1 from rfl, symsTo_cnt, show (11 : Nat) = 10 + 1 from rfl, symsTo_cnt,
    show (10 : Nat) = 9 + 1 from rfl, symsTo_cnt, show (9 : Nat) = 8 + 1 from rfl, symsTo_cnt, show (8 : Nat) = 7 + 1 from rfl, symsTo_cnt, show (7 : Nat) = 6 + 1 from rfl, symsTo_cnt, show (6 : Nat) = 5 + 1 from rfl, symsTo_cnt,
    show (5 : Nat) = 4 + 1 from rfl, symsTo_cnt, show (4 : Nat) = 3 + 1 from rfl, symsTo_cnt, show (3 : Nat) = 2 + 1 from rfl, symsTo_cnt, show (2 : Nat) = 1 + 1 from rfl, symsTo_cnt, show (1 : Nat) = 0 + 1 from rfl, symsTo_cnt]
  simp only [cnt_fixD, symsTo, List.length_nil]
  decide
theorem codeN_fixD (x : Nat) (hx : x < 32) : codeN fixD x = x := by
  unfold codeN
  rw [fixD_get x hx, rankD 5 x (by omega), if_pos rfl, show 5 - 1 = 4 from rfl, nxt_fixD]; omega
theorem symP_dist (x : Nat) (hx : x < 32) (r : List Bool) : symP fixD (high x 5 ++ r) = .ok (x, r) := by
  have e : codeB fixD x = high x 5 := by unfold codeB; rw [codeN_fixD x hx, fixD_get x hx]
  rw [← e]
  refine symP_code (by rw [fixD_len]; exact hx) (by rw [fixD_get x hx]; decide) (by rw [fixD_get x hx]; decide) (.inl (by rw [syms_fixD]; decide)) ?_ r
  rw [codeN_fixD x hx, fixD_get x hx]; omega
theorem common_same : ∀ (c : Nat) (a b : List UInt8) (t : Nat), t < common a b c → a.getD t 0 = b.getD t 0
  | 0, a, b, t, h => by rw [common_zero] at h; omega
  | c + 1, a, [], t, h => by rw [common_end] at h; omega
  | c + 1, [], b :: bs, t, h => by simp [common] at h
  | c + 1, a :: aa, b :: bb, t, h => by
    rw [common] at h
    by_cases e : a = b
    · rw [if_pos e] at h
      cases t with
      | zero => simpa using e
      | succ t => simpa using common_same c aa bb t (by omega)
    · rw [if_neg e] at h; omega
theorem alike_same {s : List UInt8} {j i t : Nat} (h : t < alikeN s j i) : s.getD (j + t) 0 = s.getD (i + t) 0 := by
  have := common_same 258 (s.drop j) (s.drop i) t h
  simpa [List.getD_eq_getElem?_getD, List.getElem?_drop] using this
theorem take_byte {s : List UInt8} {i : Nat} (h : i < s.length) : s.take i ++ [s.getD i 0] = s.take (i + 1) := by
  rw [List.take_add_one, List.getD_eq_getElem?_getD, List.getElem?_eq_getElem h]; rfl
theorem copyN_take {s : List UInt8} {d : Nat} (hd : 1 ≤ d) : ∀ (n i : Nat), d ≤ i → i + n ≤ s.length → (∀ t, t < n → s.getD (i - d + t) 0 = s.getD (i + t) 0) → copyN d n (s.take i) = s.take (i + n)
  | 0, i, _, _, _ => rfl
  | n + 1, i, hi, hl, h => by
    have hlen : (s.take i).length = i := by rw [List.length_take]; omega
    have e0 := h 0 (by omega)
    rw [Nat.add_zero, Nat.add_zero] at e0
    have e1 : (s.take i).getD (i - d) 0 = s.getD i 0 := by
      rw [← e0, List.getD_eq_getElem?_getD, List.getD_eq_getElem?_getD, List.getElem?_take_of_lt (by omega)]
    rw [copyN, hlen, e1, take_byte (by omega), copyN_take hd n (i + 1) (by omega) (by omega) (fun t ht => ?_)]
    · rw [show i + 1 + n = i + (n + 1) by omega]
    · have := h (t + 1) (by omega)
      rw [show i + 1 - d + t = i - d + (t + 1) by omega, show i + 1 + t = i + (t + 1) by omega]; exact this
theorem takeB_low (x n : Nat) (r : List Bool) : takeB n (low x n ++ r) = .ok (x % 2 ^ n, r) := by
  unfold takeB
  rw [if_pos (by rw [List.length_append, low_length]; omega), List.take_left' (low_length n x), List.drop_left' (low_length n x), num_low]
theorem litBits_pos (x : Nat) (l : List Bool) : 7 ≤ (litBits x ++ l).length := by
  have := litBits_length x
  rw [List.length_append]; omega
/-- the bits from a place on are read as what stands there -/
theorem block_rest (s : List UInt8) (most : Int) (tail : List Bool) : ∀ (f i g : Nat), i ≤ s.length → s.length - i < f → (rest s f i).length < g → (i : Int) ≤ most →
    blockGo most fixL fixD g (s.take i) (rest s f i ++ tail) = if (s.length : Int) ≤ most then .ok (s, tail) else .error 5
  | 0, i, g, _, h, _, _ => by omega
  | f + 1, i, g, hi, hf, hg, hm => by
    have hlen : (s.take i).length = i := by rw [List.length_take]; omega
    obtain ⟨g, rfl⟩ : ∃ g', g = g' + 1 := ⟨g - 1, by omega⟩
    rw [rest] at hg ⊢
    by_cases hlt : i < s.length
    · rw [if_pos hlt] at hg ⊢
      by_cases hb : (best s i).1 = 0
      · rw [if_pos hb] at hg ⊢
        have h8 := at8_lt s i
        have hp := litBits_pos (at8 s i) (rest s f (i + 1))
        have h7 := litBits_length (at8 s i)
        rw [List.length_append] at hg
        rw [List.append_assoc, blockGo, blockOne, symP_lit _ (by omega)]
        simp only []
        rw [if_neg (by omega), if_pos h8, hlen]
        by_cases hmm : most ≤ (i : Int)
        · rw [if_pos hmm, if_neg (by omega)]
        · rw [if_neg hmm]
          simp only []
          have e : UInt8.ofNat (at8 s i) = s.getD i 0 := by unfold at8; simp
          rw [e, take_byte hlt]
          exact block_rest s most tail f (i + 1) g (by omega) (by omega) (by omega) (by omega)
      · rw [if_neg hb] at hg ⊢
        rcases best_good s i with h0 | ⟨b1, b2, b3, b4, b5, b6⟩
        · exact absurd (by rw [h0]) hb
        · obtain ⟨l1, l2, l3⟩ := lenAt_ok _ b1 b2
          obtain ⟨d1, d2, d3⟩ := distAt_ok (i - (best s i).2) (by omega) b5
          generalize hn : (best s i).1 = n at *
          generalize hfr : (best s i).2 = fr at *
          have hbits : 7 ≤ (lenBits n).length := by
            have := litBits_length (257 + lenAt n)
            unfold lenBits; rw [List.length_append]; omega
          rw [List.length_append, List.length_append] at hg
          rw [List.append_assoc, List.append_assoc, blockGo, blockOne, lenBits, List.append_assoc, symP_lit _ (by omega)]
          simp only []
          rw [if_neg (by omega), if_neg (by omega), if_neg (by omega), show 257 + lenAt n - 257 = lenAt n by omega, takeB_low]
          simp only []
          rw [distBits, List.append_assoc, symP_dist _ (by omega)]
          simp only []
          rw [if_neg (by omega), takeB_low]
          simp only []
          rw [Nat.mod_eq_of_lt l3, Nat.mod_eq_of_lt d3, hlen, if_neg (by omega), show (lensT.getD (lenAt n) (0, 0)).1 + (n - (lensT.getD (lenAt n) (0, 0)).1) = n by omega,
            show (distT.getD (distAt (i - fr)) (0, 0)).1 + (i - fr - (distT.getD (distAt (i - fr)) (0, 0)).1) = i - fr by omega]
          by_cases hmm : most - (i : Int) < ((n : Nat) : Int)
          · rw [if_pos hmm, if_neg (by omega)]
          · rw [if_neg hmm]
            simp only []
            rw [copyN_take (by omega) n i (by omega) b3 (fun t ht => by
              have := alike_same (s := s) (j := fr) (i := i) (t := t) (by omega)
              rw [show i - (i - fr) + t = fr + t by omega]; exact this)]
            exact block_rest s most tail f (i + n) g (by omega) (by omega) (by omega) (by omega)
    · rw [if_neg hlt] at hg ⊢
      rw [blockGo, blockOne, symP_lit 256 (by decide)]
      simp only [if_true]
      rw [if_pos (by omega), List.take_of_length_le (by omega)]
theorem infl_short (s : List UInt8) (most : Int) (more : List UInt8) (g : Nat) (hm : 0 ≤ most) :
    inflGo most (g + 1) [] (bitsOf (shortP s ++ more)) = if (s.length : Int) ≤ most then .ok (s, List.replicate (8 * (((shortBits s).length + 7) / 8) - (shortBits s).length) false ++ bitsOf more) else .error 5 := by
  rw [bitsOf_append, shortP, bitsOf_packed, List.append_assoc]
  generalize List.replicate (8 * (((shortBits s).length + 7) / 8) - (shortBits s).length) false ++ bitsOf more = tail
  rw [shortBits, List.append_assoc, inflGo, inflOne]
  have e1 : takeB 1 ([true, true, false] ++ (rest s (s.length + 1) 0 ++ tail)) = .ok (1, [true, false] ++ (rest s (s.length + 1) 0 ++ tail)) := rfl
  have e2 : takeB 2 ([true, false] ++ (rest s (s.length + 1) 0 ++ tail)) = .ok (1, rest s (s.length + 1) 0 ++ tail) := rfl
  rw [e1]
  simp only []
  rw [e2]
  simp only []
  rw [if_neg (by decide), if_pos trivial]
  have h := block_rest s most tail (s.length + 1) 0 ((rest s (s.length + 1) 0 ++ tail).length + 1) (Nat.zero_le _) (by omega) (by rw [List.length_append]; omega) (by omega)
  rw [List.take_zero] at h
  have hfix : ((List.range 288).map (fun i => if i < 144 then 8 else if i < 256 then 9 else if i < 280 then 7 else 8)) = fixL := rfl
  have hfd : List.replicate 32 5 = fixD := rfl
  rw [hfix, hfd]
  generalize blockGo most fixL fixD ((rest s (s.length + 1) 0 ++ tail).length + 1) [] (rest s (s.length + 1) 0 ++ tail) = z at *
  rw [h]
  by_cases hh : (s.length : Int) ≤ most
  · rw [if_pos hh]; rfl
  · rw [if_neg hh]
theorem takeB16 (a b : UInt8) (r : List Bool) : takeB 16 (byteBits a ++ (byteBits b ++ r)) = .ok (a.toNat + 256 * b.toNat, r) := by
  have hl : (byteBits a ++ byteBits b).length = 16 := by rw [List.length_append, byteBits_length, byteBits_length]
  unfold takeB
  rw [← List.append_assoc, if_pos (by rw [List.length_append]; omega), List.take_left' hl, List.drop_left' hl, num_append, byteBits_length]
  unfold byteBits
  rw [num_low, num_low, Nat.mod_eq_of_lt a.toNat_lt, Nat.mod_eq_of_lt b.toNat_lt]
theorem takeB8 (a : UInt8) (r : List Bool) : takeB 8 (byteBits a ++ r) = .ok (a.toNat, r) := by
  unfold byteBits
  rw [takeB_low, Nat.mod_eq_of_lt a.toNat_lt]
theorem storedGo_bytes (most : Int) (r : List Bool) : ∀ (l out : List UInt8), (out.length : Int) ≤ most → storedGo most l.length out (bitsOf l ++ r) = if ((out.length + l.length : Nat) : Int) ≤ most then .ok (out ++ l, r) else .error 5
  | [], out, h => by
    rw [if_pos (by simpa using h), List.append_nil]; rfl
  | b :: l, out, h => by
    rw [List.length_cons, storedGo]
    by_cases hm : most ≤ (out.length : Int)
    · rw [if_pos hm, if_neg (by omega)]
    · rw [if_neg hm, bitsOf_cons, List.append_assoc, takeB8]
      simp only []
      have e : UInt8.ofNat b.toNat = b := by simp
      rw [e, storedGo_bytes most r l (out ++ [b]) (by rw [List.length_append, List.length_singleton]; omega), List.length_append, List.length_singleton, List.append_assoc,
        show out.length + 1 + l.length = out.length + (l.length + 1) by omega]
      rfl
theorem xor_rest (n : Nat) (h : n < 65536) : n ^^^ (65535 - n) = 65535 := by
  apply Nat.eq_of_testBit_eq
  intro i
  have e1 : (65535 - n).testBit i = (decide (i < 16) && !n.testBit i) := by
    have e0 := Nat.testBit_two_pow_sub_succ (n := 16) h i
    rw [show 2 ^ 16 - (n + 1) = 65535 - n by omega] at e0
    exact e0
  have e2 : Nat.testBit 65535 i = decide (i < 16) := Nat.testBit_two_pow_sub_one 16 i
  rw [Nat.testBit_xor, e1, e2]
  by_cases hi : i < 16
  · simp [hi]
  · rw [Nat.testBit_lt_two_pow (i := i) (x := n) (Nat.lt_of_lt_of_le h (Nat.pow_le_pow_right (n := 2) (i := 16) (by decide) (by omega)))]
    simp [hi]
theorem storedB_block (most : Int) (out l : List UInt8) (more : List UInt8) (hl : l.length ≤ 65535) (hm : (out.length : Int) ≤ most) :
    storedB most out (List.replicate 5 false ++ bitsOf ([UInt8.ofNat (l.length % 256), UInt8.ofNat (l.length / 256), UInt8.ofNat (255 - l.length % 256), UInt8.ofNat (255 - l.length / 256)] ++ (l ++ more))) =
      if ((out.length + l.length : Nat) : Int) ≤ most then .ok (out ++ l, bitsOf more) else .error 5 := by
  unfold storedB
  have hdrop : (List.replicate 5 false ++ bitsOf ([UInt8.ofNat (l.length % 256), UInt8.ofNat (l.length / 256), UInt8.ofNat (255 - l.length % 256), UInt8.ofNat (255 - l.length / 256)] ++ (l ++ more))).length % 8 = 5 := by
    rw [List.length_append, List.length_replicate, bitsOf_length]; omega
  rw [hdrop, List.drop_left' (by simp), List.cons_append, List.cons_append, List.cons_append, List.cons_append, List.nil_append, bitsOf_cons, bitsOf_cons, takeB16]
  simp only []
  rw [bitsOf_cons, bitsOf_cons, takeB16]
  simp only []
  have e1 : (UInt8.ofNat (l.length % 256)).toNat = l.length % 256 := by simp
  have e2 : (UInt8.ofNat (l.length / 256)).toNat = l.length / 256 := by simp; omega
  have e3 : (UInt8.ofNat (255 - l.length % 256)).toNat = 255 - l.length % 256 := by simp; omega
  have e4 : (UInt8.ofNat (255 - l.length / 256)).toNat = 255 - l.length / 256 := by simp; omega
  rw [e1, e2, e3, e4, show l.length % 256 + 256 * (l.length / 256) = l.length by omega, show 255 - l.length % 256 + 256 * (255 - l.length / 256) = 65535 - l.length by omega, if_neg (by rw [xor_rest _ (by omega)]; simp), bitsOf_append]
  exact storedGo_bytes most (bitsOf more) l out hm
theorem infl_stored (most : Int) (more : List UInt8) : ∀ (f : Nat) (s out : List UInt8) (g : Nat), s.length ≤ 65535 * f → 0 < f → f ≤ g → (out.length : Int) ≤ most →
    inflGo most g out (bitsOf (storedP f s ++ more)) = if ((out.length + s.length : Nat) : Int) ≤ most then .ok (out ++ s, bitsOf more) else .error 5
  | 0, _, _, _, _, h, _, _ => by omega
  | f + 1, s, out, 0, _, _, h, _ => by omega
  | f + 1, s, out, g + 1, hs, _, hg, hm => by
    obtain ⟨l, hl⟩ : ∃ l, l = s.take 65535 := ⟨_, rfl⟩
    have hll : l.length = min s.length 65535 := by rw [hl, List.length_take, Nat.min_comm]
    have hform : storedP (f + 1) s ++ more = (if s.length ≤ 65535 then 1 else 0) :: ([UInt8.ofNat (l.length % 256), UInt8.ofNat (l.length / 256), UInt8.ofNat (255 - l.length % 256), UInt8.ofNat (255 - l.length / 256)] ++ (l ++ ((if s.length ≤ 65535 then [] else storedP f (s.drop 65535)) ++ more))) := by
      rw [storedP, hll, hl]; simp
    rw [hform, bitsOf_cons]
    by_cases hb : s.length ≤ 65535
    · rw [if_pos hb, if_pos hb, List.nil_append]
      have e : byteBits 1 = [true, false, false] ++ List.replicate 5 false := by decide
      rw [e, List.append_assoc, inflGo, inflOne]
      have e1 : ∀ r, takeB 1 ([true, false, false] ++ r) = .ok (1, [false, false] ++ r) := fun _ => rfl
      have e2 : ∀ r, takeB 2 ([false, false] ++ r) = .ok (0, r) := fun _ => rfl
      rw [e1]
      simp only []
      rw [e2]
      simp only []
      rw [if_pos trivial, storedB_block most out l more (by omega) hm, show l = s from by rw [hl, List.take_of_length_le hb]]
      by_cases hh : ((out.length + s.length : Nat) : Int) ≤ most
      · rw [if_pos hh]; rfl
      · rw [if_neg hh]
    · rw [if_neg hb, if_neg hb]
      have e : byteBits 0 = [false, false, false] ++ List.replicate 5 false := by decide
      rw [e, List.append_assoc, inflGo, inflOne]
      have e1 : ∀ r, takeB 1 ([false, false, false] ++ r) = .ok (0, [false, false] ++ r) := fun _ => rfl
      have e2 : ∀ r, takeB 2 ([false, false] ++ r) = .ok (0, r) := fun _ => rfl
      rw [e1]
      simp only []
      rw [e2]
      simp only []
      rw [if_pos trivial, storedB_block most out l _ (by omega) hm]
      by_cases hh : ((out.length + l.length : Nat) : Int) ≤ most
      · rw [if_pos hh]
        have ih := infl_stored most more f (s.drop 65535) (out ++ l) g (by rw [List.length_drop]; omega) (by omega) (by omega) (by rw [List.length_append]; exact hh)
        rw [List.append_assoc, show l ++ s.drop 65535 = s from by rw [hl, List.take_append_drop], show (out ++ l).length + (s.drop 65535).length = out.length + s.length by rw [List.length_append, List.length_drop]; omega] at ih
        exact ih
      · rw [if_neg hh, if_neg (by omega)]
theorem storedP_length : ∀ (f : Nat) (s : List UInt8), s.length ≤ 65535 * f → 0 < f → (storedP f s).length = s.length + 5 * blocksN s.length
  | 0, _, _, h => by omega
  | f + 1, s, hs, _ => by
    rw [storedP]
    simp only [List.length_append, List.length_cons, List.length_nil, List.length_take]
    by_cases hb : s.length ≤ 65535
    · rw [if_pos hb]
      unfold blocksN
      simp only [List.length_nil]
      omega
    · rw [if_neg hb, storedP_length f (s.drop 65535) (by rw [List.length_drop]; omega) (by omega), List.length_drop]
      unfold blocksN
      omega
/-- what was compressed comes again, whatever stands behind; with less room it is refused -/
theorem infl_back (s more : List UInt8) (most : Int) (hm : 0 ≤ most) : inflP (deflateP s ++ more) most = if (s.length : Int) ≤ most then .ok (s, (deflateP s).length) else .error 5 := by
  have hblk : s.length ≤ 65535 * blocksN s.length ∧ 0 < blocksN s.length := by unfold blocksN; omega
  unfold inflP
  by_cases hd : (shortP s).length < s.length + 5 * blocksN s.length
  · have e : deflateP s = shortP s := if_pos hd
    rw [e, infl_short s most more _ hm]
    by_cases hh : (s.length : Int) ≤ most
    · rw [if_pos hh, if_pos hh]
      simp only []
      rw [@List.length_append Bool, List.length_replicate, bitsOf_length, List.length_append, show (shortP s).length = ((shortBits s).length + 7) / 8 from packed_length _]
      congr 2
      omega
    · rw [if_neg hh, if_neg hh]
  · have e : deflateP s = storedP (blocksN s.length) s := if_neg hd
    have hlen := storedP_length _ s hblk.1 hblk.2
    rw [e, infl_stored most more _ s [] _ hblk.1 hblk.2 (by rw [List.length_append]; omega) hm, List.length_nil, Nat.zero_add, List.nil_append]
    by_cases hh : (s.length : Int) ≤ most
    · rw [if_pos hh, if_pos hh]
      simp only []
      rw [bitsOf_length, List.length_append]
      congr 2
      omega
    · rw [if_neg hh, if_neg hh]
end Go.Proofs.YtjielagabnkimaaDoor
