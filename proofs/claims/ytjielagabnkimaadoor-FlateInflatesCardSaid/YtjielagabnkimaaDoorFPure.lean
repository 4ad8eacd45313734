/- Plain facts: the search for what comes again; the spans; how many bits there are at most. -/
import Derived.Test.YtjielagabnkimaaDoorFDef
namespace Go.Proofs.YtjielagabnkimaaDoor
theorem lastN_spec (T : List (Nat × Nat)) (n : Nat) (h0 : (T.getD 0 (0, 0)).1 ≤ n) : ∀ m, 0 < m → lastN T n m < m ∧ (T.getD (lastN T n m) (0, 0)).1 ≤ n ∧ ∀ j, lastN T n m < j → j < m → n < (T.getD j (0, 0)).1
  | m + 1, _ => by
    rw [lastN]
    by_cases h : (T.getD m (0, 0)).1 ≤ n
    · rw [if_pos h]
      exact ⟨by omega, h, fun j h1 h2 => by omega⟩
    · rw [if_neg h]
      have hm : 0 < m := by
        apply Nat.pos_of_ne_zero
        rintro rfl
        omega
      obtain ⟨h1, h2, h3⟩ := lastN_spec T n h0 m hm
      refine ⟨by omega, h2, fun j hj hj2 => ?_⟩
      by_cases hjm : j = m
      · subst hjm; omega
      · exact h3 j hj (by omega)
theorem lens_step : ∀ k, k < 28 → (lensT.getD (k + 1) (0, 0)).1 ≤ (lensT.getD k (0, 0)).1 + 2 ^ (lensT.getD k (0, 0)).2 := by decide
theorem dist_step : ∀ k, k < 29 → (distT.getD (k + 1) (0, 0)).1 ≤ (distT.getD k (0, 0)).1 + 2 ^ (distT.getD k (0, 0)).2 := by decide
theorem lens_extra : ∀ k, (lensT.getD k (0, 0)).2 ≤ 5 := by
  intro k
  by_cases h : k < 29
  · exact (by decide : ∀ k, k < 29 → (lensT.getD k (0, 0)).2 ≤ 5) k h
  · rw [List.getD_eq_getElem?_getD, List.getElem?_eq_none (by simp [lensT]; omega)]; simp
theorem dist_extra : ∀ k, (distT.getD k (0, 0)).2 ≤ 13 := by
  intro k
  by_cases h : k < 30
  · exact (by decide : ∀ k, k < 30 → (distT.getD k (0, 0)).2 ≤ 13) k h
  · rw [List.getD_eq_getElem?_getD, List.getElem?_eq_none (by simp [distT]; omega)]; simp
theorem lenAt_ok (n : Nat) (h1 : 3 ≤ n) (h2 : n ≤ 258) : lenAt n < 29 ∧ (lensT.getD (lenAt n) (0, 0)).1 ≤ n ∧ n - (lensT.getD (lenAt n) (0, 0)).1 < 2 ^ (lensT.getD (lenAt n) (0, 0)).2 := by
  obtain ⟨a, b, c⟩ := lastN_spec lensT n (by simpa [lensT] using h1) 29 (by decide)
  refine ⟨a, b, ?_⟩
  change n - (lensT.getD (lastN lensT n 29) (0, 0)).1 < 2 ^ (lensT.getD (lastN lensT n 29) (0, 0)).2
  by_cases hk : lastN lensT n 29 < 28
  · have h3 := c (lastN lensT n 29 + 1) (by omega) (by omega)
    have h4 := lens_step _ hk
    omega
  · have hk : lastN lensT n 29 = 28 := by omega
    rw [hk] at b ⊢
    simp [lensT] at b ⊢
    omega
theorem distAt_ok (d : Nat) (h1 : 1 ≤ d) (h2 : d ≤ 32768) : distAt d < 30 ∧ (distT.getD (distAt d) (0, 0)).1 ≤ d ∧ d - (distT.getD (distAt d) (0, 0)).1 < 2 ^ (distT.getD (distAt d) (0, 0)).2 := by
  obtain ⟨a, b, c⟩ := lastN_spec distT d (by simpa [distT] using h1) 30 (by decide)
  refine ⟨a, b, ?_⟩
  change d - (distT.getD (lastN distT d 30) (0, 0)).1 < 2 ^ (distT.getD (lastN distT d 30) (0, 0)).2
  by_cases hk : lastN distT d 30 < 29
  · have h3 := c (lastN distT d 30 + 1) (by omega) (by omega)
    have h4 := dist_step _ hk
    omega
  · have hk : lastN distT d 30 = 29 := by omega
    rw [hk] at b ⊢
    simp [distT] at b ⊢
    omega
theorem litBits_length (x : Nat) : 7 ≤ (litBits x).length ∧ (litBits x).length ≤ 9 := by
  unfold litBits
  repeat' split
  all_goals simp only [high_length]; omega
theorem lenBits_length (n : Nat) : (lenBits n).length ≤ 14 := by
  have h1 := litBits_length (257 + lenAt n)
  have h2 := lens_extra (lenAt n)
  rw [lenBits, List.length_append, low_length]; omega
theorem distBits_length (d : Nat) : (distBits d).length ≤ 18 := by
  have h2 := dist_extra (distAt d)
  rw [distBits, List.length_append, high_length, low_length]; omega
theorem rest_length (s : List UInt8) : ∀ f i, (rest s f i).length ≤ 32 * f
  | 0, _ => by simp [rest]
  | f + 1, i => by
    have h1 := litBits_length (at8 s i)
    have h2 := litBits_length 256
    have h3 := lenBits_length (best s i).1
    have h4 := distBits_length (i - (best s i).2)
    have h5 := rest_length s f (i + 1)
    have h6 := rest_length s f (i + (best s i).1)
    rw [rest]
    repeat' split
    all_goals try simp only [List.length_append]
    all_goals omega
theorem shortBits_length (s : List UInt8) : (shortBits s).length ≤ 32 * s.length + 40 := by
  have := rest_length s (s.length + 1) 0
  rw [shortBits, List.length_append]; simp; omega
/-- the chain's head -/
theorem chain_head (s : List UInt8) (k : Nat) : ∀ i, chain s k i = [] ∨ ∃ a, a < i ∧ threeN s a = k ∧ chain s k i = a :: chain s k a
  | 0 => .inl rfl
  | i + 1 => by
    rw [chain]
    by_cases h : threeN s i = k
    · rw [if_pos h]; exact .inr ⟨i, by omega, h, rfl⟩
    · rw [if_neg h]
      rcases chain_head s k i with h1 | ⟨a, ha, hk, h1⟩
      · exact .inl h1
      · exact .inr ⟨a, by omega, hk, h1⟩
theorem three_inj {s : List UInt8} {a i : Nat} (h : threeN s a = threeN s i) : at8 s a = at8 s i ∧ at8 s (a + 1) = at8 s (i + 1) ∧ at8 s (a + 2) = at8 s (i + 2) := by
  have h1 := at8_lt s a
  have h2 := at8_lt s (a + 1)
  have h3 := at8_lt s (a + 2)
  have h4 := at8_lt s i
  have h5 := at8_lt s (i + 1)
  have h6 := at8_lt s (i + 2)
  unfold threeN at h
  omega
theorem at8_get {s : List UInt8} {a : Nat} (h : a < s.length) : at8 s a = (s[a]).toNat := by
  unfold at8
  rw [List.getD_eq_getElem?_getD, List.getElem?_eq_getElem h]; rfl
theorem alike_three {s : List UInt8} {a i : Nat} (h : threeN s a = threeN s i) (ha : a < i) (hi : i + 3 ≤ s.length) : 3 ≤ alikeN s a i := by
  obtain ⟨h1, h2, h3⟩ := three_inj h
  rw [at8_get (by omega), at8_get (by omega)] at h1 h2 h3
  have e1 := UInt8.toNat_inj.1 h1
  have e2 := UInt8.toNat_inj.1 h2
  have e3 := UInt8.toNat_inj.1 h3
  unfold alikeN
  rw [drop_cons (by omega : a < s.length), drop_cons (by omega : i < s.length), common, if_pos e1, drop_cons (by omega : a + 1 < s.length), drop_cons (by omega : i + 1 < s.length), common, if_pos e2,
    drop_cons (by omega : a + 1 + 1 < s.length), drop_cons (by omega : i + 1 + 1 < s.length), common, if_pos e3]
  omega
/-- what is found is good -/
def Good (s : List UInt8) (i : Nat) (b : Nat × Nat) : Prop := b = (0, 0) ∨ (3 ≤ b.1 ∧ b.1 ≤ 258 ∧ i + b.1 ≤ s.length ∧ b.2 < i ∧ i - b.2 ≤ 32768 ∧ b.1 = alikeN s b.2 i)
theorem alike_le (s : List UInt8) (j i : Nat) (hi : i ≤ s.length) : alikeN s j i ≤ 258 ∧ i + alikeN s j i ≤ s.length := by
  have := common_le 258 (s.drop j) (s.drop i)
  rw [List.length_drop] at this
  unfold alikeN
  omega
theorem good_step {s : List UInt8} {i a : Nat} {b : Nat × Nat} (hb : Good s i b) (h : threeN s a = threeN s i) (ha : a < i) (hi : i + 3 ≤ s.length) (hw : i - a ≤ 32768) : Good s i (if b.1 < alikeN s a i then (alikeN s a i, a) else b) := by
  split
  · have h1 := alike_three h ha hi
    have h2 := alike_le s a i (by omega)
    exact .inr ⟨h1, h2.1, h2.2, ha, hw, rfl⟩
  · exact hb
theorem scan_good {s : List UInt8} {i : Nat} (hi : i + 3 ≤ s.length) : ∀ (k j : Nat) (b : Nat × Nat), j ≤ i → Good s i b → Good s i (scan s i k (chain s (threeN s i) j) b)
  | 0, j, b, _, hb => by cases chain s (threeN s i) j <;> exact hb
  | k + 1, j, b, hj, hb => by
    rcases chain_head s (threeN s i) j with h | ⟨a, ha, hk, h⟩
    · rw [h]; exact hb
    · rw [h, scan]
      split
      · exact scan_good hi k a _ (by omega) (good_step hb hk (by omega) hi (by assumption))
      · exact hb
theorem best_good (s : List UInt8) (i : Nat) : Good s i (best s i) := by
  unfold best
  split
  · exact scan_good (by assumption) 64 i (0, 0) (Nat.le_refl _) (.inl rfl)
  · exact .inl rfl
end Go.Proofs.YtjielagabnkimaaDoor
