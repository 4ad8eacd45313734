/- Floats: the rungs, what they stand for, how numbers are rounded. -/
import Derived.Laws.FloatArith
set_option linter.unusedSimpArgs false
set_option linter.unusedVariables false
set_option exponentiation.threshold 3000
namespace Go.Proofs.Ytebniijkhjnbdaa
namespace Fl
open Ieee
abbrev F : Format := Ieee.double
theorem F_binade : F.binade = 4503599627370496 := by decide +kernel
theorem F_inf : F.infRung = 9218868437227405312 := by decide +kernel
theorem F_sign : F.signWeight = 9223372036854775808 := by decide +kernel
theorem F_least : F.leastPlace = -1074 := by decide +kernel
theorem F_frac : F.fractionBits = 52 := rfl
/-- to the nearest whole number, ties to even -/
def rhe (n g : Nat) : Nat := n / g + (decide (g < 2 * (n % g)) || (g == 2 * (n % g) && n / g % 2 == 1)).toNat
theorem lt_log2 (n : Nat) : n < 2 ^ (n.log2 + 1) := Nat.lt_log2_self
theorem cut_eq (neg : Bool) (n drop : Nat) : Toward.even.cut neg n drop = rhe n (2 ^ drop) := by
  unfold Toward.cut rhe
  simp only [Nat.one_shiftLeft]
  by_cases h : drop ≤ n.log2 + 2
  · rw [Nat.min_eq_left h]
  · rw [Nat.min_eq_right (by omega)]
    have h1 := lt_log2 n
    have e1 : 2 ^ (n.log2 + 2) = 2 * 2 ^ (n.log2 + 1) := by rw [Nat.pow_succ]; omega
    have e2 : 2 ^ (n.log2 + 2) ≤ 2 ^ drop := Nat.pow_le_pow_right (by decide) (by omega)
    have f : ∀ g, 2 * n < g → n / g + (decide (g < 2 * (n % g)) || (g == 2 * (n % g) && n / g % 2 == 1)).toNat = 0 := fun g hg => by
      have a : n / g = 0 := Nat.div_eq_of_lt (by omega)
      have b : n % g = n := Nat.mod_eq_of_lt (by omega)
      rw [a, b]
      have c : decide (g < 2 * n) = false := by simp; omega
      rw [c]
      simp
    rw [f _ (by omega), f _ (by omega)]
theorem rhe_le (n g : Nat) : rhe n g ≤ n / g + 1 := by
  unfold rhe
  have := Bool.toNat_le (decide (g < 2 * (n % g)) || (g == 2 * (n % g) && n / g % 2 == 1))
  omega
theorem le_rhe (n g : Nat) : n / g ≤ rhe n g := by unfold rhe; omega
theorem rhe_mono {n n' g : Nat} (hg : 0 < g) (h : n ≤ n') : rhe n g ≤ rhe n' g := by
  have hd : n / g ≤ n' / g := Nat.div_le_div_right h
  by_cases he : n / g = n' / g
  · unfold rhe
    have h1 := Nat.div_add_mod n g
    have h2 := Nat.div_add_mod n' g
    rw [he] at h1 ⊢
    have hm : n % g ≤ n' % g := by omega
    generalize n % g = r at hm ⊢
    generalize n' % g = r' at hm ⊢
    generalize n' / g = q
    apply Nat.add_le_add_left
    cases hb : (decide (g < 2 * r) || (g == 2 * r && q % 2 == 1)) with
    | false => simp
    | true =>
      have : (decide (g < 2 * r') || (g == 2 * r' && q % 2 == 1)) = true := by
        simp only [Bool.or_eq_true, Bool.and_eq_true, decide_eq_true_eq, beq_iff_eq] at hb ⊢
        omega
      rw [this]
      simp
  · have a := rhe_le n g
    have b := le_rhe n' g
    omega
theorem rhe_mul (n g : Nat) {c : Nat} (hc : 0 < c) : rhe (n * c) (g * c) = rhe n g := by
  unfold rhe
  rw [Nat.mul_div_mul_right _ _ hc, Nat.mul_mod_mul_right]
  have e1 : decide (g * c < 2 * (n % g * c)) = decide (g < 2 * (n % g)) := by
    rw [← Nat.mul_assoc]
    exact decide_eq_decide.2 ⟨fun h => Nat.lt_of_mul_lt_mul_right h, fun h => Nat.mul_lt_mul_of_pos_right h hc⟩
  have e2 : (g * c == 2 * (n % g * c)) = (g == 2 * (n % g)) := by
    rw [← Nat.mul_assoc, Bool.eq_iff_iff, beq_iff_eq, beq_iff_eq]
    exact ⟨fun h => Nat.eq_of_mul_eq_mul_right hc h, fun h => congrArg (· * c) h⟩
  rw [e1, e2]
theorem rhe_exact (q : Nat) {g : Nat} (hg : 0 < g) : rhe (q * g) g = q := by
  unfold rhe
  rw [Nat.mul_div_cancel _ hg, Nat.mul_mod_left]
  have : (decide (g < 2 * 0) || (g == 2 * 0 && q % 2 == 1)) = false := by
    have : (g == 2 * 0) = false := by simp; omega
    rw [this]; simp
  rw [this]; rfl
theorem le_rhe_of {k n g : Nat} (hg : 0 < g) (h : k * g ≤ n) : k ≤ rhe n g := by
  have := rhe_mono hg h
  rwa [rhe_exact k hg] at this
theorem rhe_le_of {k n g : Nat} (hg : 0 < g) (h : n ≤ k * g) : rhe n g ≤ k := by
  have := rhe_mono hg h
  rwa [rhe_exact k hg] at this
/-- the rung of M units of 2 ^ (-1074 - s) -/
def rgU (M s : Nat) : Nat := (max (M.log2 - 52) s - s) * 4503599627370496 + rhe M (2 ^ max (M.log2 - 52) s)
theorem log2_mono {a b : Nat} (h : a ≤ b) : a.log2 ≤ b.log2 := by
  by_cases ha : a = 0
  · rw [ha, Nat.log2_zero]; exact Nat.zero_le _
  · rw [Nat.le_log2 (by omega)]
    exact Nat.le_trans (Nat.log2_self_le ha) h
theorem rgU_mono {M M' : Nat} (s : Nat) (h : M ≤ M') : rgU M s ≤ rgU M' s := by
  unfold rgU
  have hl := log2_mono h
  generalize hL : max (M.log2 - 52) s = L
  generalize hL' : max (M'.log2 - 52) s = L'
  by_cases he : L = L'
  · rw [he]
    exact Nat.add_le_add_left (rhe_mono (Nat.two_pow_pos _) h) _
  · have hlt : L < L' := by omega
    have h0 : M' ≠ 0 := by
      intro e
      rw [e, Nat.log2_zero] at hL'
      omega
    have a1 : 4503599627370496 ≤ rhe M' (2 ^ L') := by
      refine le_rhe_of (Nat.two_pow_pos _) ?_
      have : 2 ^ M'.log2 ≤ M' := Nat.log2_self_le h0
      have e : M'.log2 = 52 + L' := by omega
      rw [e, Nat.pow_add] at this
      exact this
    have a2 : rhe M (2 ^ L) ≤ 9007199254740992 := by
      refine rhe_le_of (Nat.two_pow_pos _) ?_
      have h1 := lt_log2 M
      have : 2 ^ (M.log2 + 1) ≤ 2 ^ (53 + L) := Nat.pow_le_pow_right (by decide) (by omega)
      rw [Nat.pow_add 2 53] at this
      exact Nat.le_trans (Nat.le_of_lt h1) this
    omega
theorem log2_shift {m : Nat} (hm : m ≠ 0) (t : Nat) : (m * 2 ^ t).log2 = m.log2 + t := by
  have hp := Nat.two_pow_pos t
  have h0 : m * 2 ^ t ≠ 0 := Nat.mul_ne_zero hm (by omega)
  refine Nat.le_antisymm ?_ ?_
  · have : (m * 2 ^ t).log2 < m.log2 + t + 1 := by
      rw [Nat.log2_lt h0]
      have := lt_log2 m
      rw [show m.log2 + t + 1 = (m.log2 + 1) + t by omega, Nat.pow_add]
      exact Nat.mul_lt_mul_of_pos_right this hp
    omega
  · rw [Nat.le_log2 h0, Nat.pow_add]
    exact Nat.mul_le_mul_right _ (Nat.log2_self_le hm)
/-- the nearest word, by units -/
theorem near_eq (neg : Bool) {m : Nat} (hm : m ≠ 0) (s t : Nat) {place : Int} (hp : place = -1074 - (s : Int) + (t : Int)) : F.nearest neg m place = F.word neg (min (rgU (m * 2 ^ t) s) 9218868437227405312) := by
  unfold Format.nearest
  rw [if_neg hm]
  dsimp only
  rw [F_binade, F_inf, F_least, F_frac, cut_eq]
  unfold rgU
  rw [log2_shift hm]
  generalize hL : max (m.log2 + t - 52) s = L
  have hlast : max (place + (m.log2 : Int) - ((52 : Nat) : Int)) (-1074) = (L : Int) - (s : Int) - 1074 := by omega
  rw [hlast, show ((L : Int) - (s : Int) - 1074 - -1074).toNat = L - s by omega, show (place - ((L : Int) - (s : Int) - 1074)).toNat = t - L by omega, show ((L : Int) - (s : Int) - 1074 - place).toNat = L - t by omega, Nat.shiftLeft_eq]
  have : rhe (m * 2 ^ (t - L)) (2 ^ (L - t)) = rhe (m * 2 ^ t) (2 ^ L) := by
    by_cases h : L ≤ t
    · rw [← rhe_mul (m * 2 ^ (t - L)) (2 ^ (L - t)) (Nat.two_pow_pos L), Nat.mul_assoc, ← Nat.pow_add, ← Nat.pow_add, show t - L + L = t by omega, show L - t + L = L by omega]
    · rw [← rhe_mul (m * 2 ^ (t - L)) (2 ^ (L - t)) (Nat.two_pow_pos t), Nat.mul_assoc, ← Nat.pow_add, ← Nat.pow_add, show t - L + t = t by omega, show L - t + t = L by omega]
  rw [this]
theorem near_zero (neg : Bool) (place : Int) : F.nearest neg 0 place = F.word neg 0 := by unfold Format.nearest; rw [if_pos rfl]
/-- the significand and the place of a rung -/
def mg (r : Nat) : Nat := if r < 4503599627370496 then r else 4503599627370496 + r % 4503599627370496
def sh (r : Nat) : Nat := r / 4503599627370496 - 1
def rv (r : Nat) : Nat := mg r * 2 ^ sh r
theorem word_false (r : Nat) : F.word false r = r := rfl
theorem read_word {r : Nat} (neg : Bool) (h : r < 9218868437227405312) : F.read (F.word neg r) = .number neg (mg r) (-1074 + (sh r : Int)) := by
  unfold Format.read
  have e1 : (F.word neg r / F.signWeight % 2 == 1) = neg := by
    unfold Format.word
    rw [F_sign]
    cases neg
    · have : r / 9223372036854775808 = 0 := Nat.div_eq_of_lt (by omega)
      rw [if_neg (by decide), this]; rfl
    · have : (9223372036854775808 + r) / 9223372036854775808 = 1 := by omega
      rw [if_pos rfl, this]; rfl
  have e2 : F.word neg r % F.signWeight = r := by
    unfold Format.word
    rw [F_sign]
    cases neg
    · rw [if_neg (by decide)]; omega
    · rw [if_pos rfl]; omega
  dsimp only
  rw [e1, e2, F_binade, F_inf, F_least]
  unfold mg sh
  by_cases hb : r < 4503599627370496
  · rw [if_pos hb, if_pos hb]
    have : r / 4503599627370496 = 0 := Nat.div_eq_of_lt hb
    rw [this]; rfl
  · rw [if_neg hb, if_neg hb, if_pos h]
theorem read_inf (neg : Bool) : F.read (F.word neg 9218868437227405312) = .infinity neg := by cases neg <;> decide +kernel
/-- there and back -/
theorem rgU_rv (r s : Nat) : rgU (rv r * 2 ^ s) s = r := by
  unfold rv
  rw [Nat.mul_assoc, ← Nat.pow_add]
  by_cases h0 : mg r = 0
  · have : r = 0 := by
      unfold mg at h0
      split at h0 <;> omega
    subst this
    rw [h0, Nat.zero_mul]
    unfold rgU
    rw [Nat.log2_zero, show max (0 - 52) s = s by omega]
    have := rhe_exact 0 (Nat.two_pow_pos s)
    rw [Nat.zero_mul] at this
    rw [this]; omega
  · unfold rgU
    rw [log2_shift h0]
    by_cases hb : r < 4503599627370496
    · have e : mg r = r := if_pos hb
      have e2 : sh r = 0 := by
        unfold sh
        rw [Nat.div_eq_of_lt hb]
      have hl : r.log2 < 52 := (Nat.log2_lt (e ▸ h0)).2 hb
      rw [e, e2, show max (r.log2 + (0 + s) - 52) s = s by omega, Nat.zero_add, rhe_exact r (Nat.two_pow_pos s)]
      omega
    · have e : mg r = 4503599627370496 + r % 4503599627370496 := if_neg hb
      have hlt : r % 4503599627370496 < 4503599627370496 := Nat.mod_lt _ (by decide)
      have hl : (mg r).log2 = 52 := by
        rw [Nat.log2_eq_iff h0, e]
        constructor <;> omega
      have hd : 1 ≤ r / 4503599627370496 := by omega
      have hs : sh r = r / 4503599627370496 - 1 := rfl
      rw [hl, show max (52 + (sh r + s) - 52) s = sh r + s by omega, rhe_exact (mg r) (Nat.two_pow_pos _), e, hs]
      omega
theorem rv_lt {r r' : Nat} (h : r < r') : rv r < rv r' := by
  apply Classical.byContradiction
  intro hn
  have := rgU_mono 0 (Nat.mul_le_mul_right (2 ^ 0) (Nat.le_of_not_lt hn))
  rw [rgU_rv, rgU_rv] at this
  omega
theorem rv_le {r r' : Nat} (h : r ≤ r') : rv r ≤ rv r' := by
  rcases Nat.lt_or_ge r r' with h1 | h1
  · exact Nat.le_of_lt (rv_lt h1)
  · rw [Nat.le_antisymm h h1]; exact Nat.le_refl _
theorem rv_inj {r r' : Nat} (h : rv r = rv r') : r = r' := by
  rcases Nat.lt_trichotomy r r' with h1 | h1 | h1
  · have := rv_lt h1; omega
  · exact h1
  · have := rv_lt h1; omega
/-- what rounds to at least a rung, to at most a rung -/
theorem le_rgU {r M s : Nat} (h : rv r * 2 ^ s ≤ M) : r ≤ rgU M s := by
  have := rgU_mono s h
  rwa [rgU_rv] at this
theorem rgU_le {r M s : Nat} (h : M ≤ rv r * 2 ^ s) : rgU M s ≤ r := by
  have := rgU_mono s h
  rwa [rgU_rv] at this
/-! ## the operations -/
abbrev INF : Nat := 9218868437227405312
theorem read_nn {x : Nat} (h : x < INF) : F.read x = .number false (mg x) (-1074 + (sh x : Int)) := read_word false h
theorem mg_pos {x : Nat} (h : 0 < x) : mg x ≠ 0 := by unfold mg; split <;> omega
theorem nearest_word (neg : Bool) (m : Nat) (p : Int) : ∃ r, r ≤ INF ∧ F.nearest neg m p = F.word neg r := by
  unfold Format.nearest
  split
  · exact ⟨0, by decide, rfl⟩
  · exact ⟨_, by rw [F_inf]; exact Nat.min_le_right _ _, rfl⟩
theorem read_or {x : Nat} (neg : Bool) (h : x ≤ INF) : (∃ m p, F.read (F.word neg x) = .number neg m p) ∨ F.read (F.word neg x) = .infinity neg := by
  rcases Nat.lt_or_ge x INF with h1 | h1
  · exact .inl ⟨_, _, read_word neg h1⟩
  · rw [Nat.le_antisymm h h1]; exact .inr (read_inf neg)
theorem div_ok {x y : Nat} (hx : x ≤ INF) (hy : y < INF) (h0 : 0 < y) : ∃ r, F.div x y = some r ∧ r ≤ INF := by
  unfold Format.div
  rw [read_nn hy]
  rcases read_or false hx with ⟨m, p, h⟩ | h
  · rw [word_false] at h
    rw [h]
    unfold Datum.quotient
    simp only [if_neg (mg_pos h0), Option.map_some, Format.write, Bool.xor_false]
    obtain ⟨r, hr, e⟩ := nearest_word false (2 * (m <<< (F.fractionBits + 2 + (mg y).log2 - m.log2) / mg y) + (m <<< (F.fractionBits + 2 + (mg y).log2 - m.log2) % mg y != 0).toNat) (p - (-1074 + (sh y : Int)) - ((F.fractionBits + 2 + (mg y).log2 - m.log2 : Nat) : Int) - 1)
    exact ⟨_, rfl, by rw [e]; exact hr⟩
  · rw [word_false] at h
    rw [h]
    exact ⟨_, rfl, by decide +kernel⟩
theorem sub_ok {x y : Nat} (hx : x < INF) (hy : y ≤ INF) : ∃ neg r, F.sub x y = some (F.word neg r) ∧ r ≤ INF := by
  unfold Format.sub
  rw [read_nn hx]
  rcases read_or false hy with ⟨m, p, h⟩ | h
  · rw [word_false] at h
    rw [h]
    unfold Datum.opposite Datum.sum
    simp only [Option.map_some, Format.write]
    obtain ⟨r, hr, e⟩ := nearest_word (if signed false (mg x) (-1074 + (sh x : Int) - min (-1074 + (sh x : Int)) p).toNat + signed (!false) m (p - min (-1074 + (sh x : Int)) p).toNat = 0 then false && !false else decide (signed false (mg x) (-1074 + (sh x : Int) - min (-1074 + (sh x : Int)) p).toNat + signed (!false) m (p - min (-1074 + (sh x : Int)) p).toNat < 0)) (signed false (mg x) (-1074 + (sh x : Int) - min (-1074 + (sh x : Int)) p).toNat + signed (!false) m (p - min (-1074 + (sh x : Int)) p).toNat).natAbs (min (-1074 + (sh x : Int)) p)
    exact ⟨_, r, congrArg some e, hr⟩
  · rw [word_false] at h
    rw [h]
    exact ⟨true, INF, rfl, Nat.le_refl _⟩
theorem sq_ok (neg : Bool) {r : Nat} (h : r ≤ INF) : ∃ q, F.mul (F.word neg r) (F.word neg r) = some q ∧ q ≤ INF := by
  unfold Format.mul
  rcases read_or neg h with ⟨m, p, e⟩ | e
  · rw [e]
    unfold Datum.product
    simp only [Option.map_some, Format.write, Bool.xor_self]
    obtain ⟨q, hq, e2⟩ := nearest_word false (m * m) (p + p)
    exact ⟨q, congrArg some e2, hq⟩
  · rw [e]
    unfold Datum.product
    simp only [Option.map_some, Format.write, Bool.xor_self]
    exact ⟨_, rfl, by decide +kernel⟩
theorem add_ok {x y : Nat} (hx : x ≤ INF) (hy : y ≤ INF) : ∃ r, F.add x y = some r ∧ r ≤ INF := by
  unfold Format.add
  rcases read_or false hx with ⟨m, p, h⟩ | h <;> rcases read_or false hy with ⟨n, q, k⟩ | k <;> rw [word_false] at h k <;> rw [h, k]
  · unfold Datum.sum
    simp only [Option.map_some, Format.write]
    have h1 : ¬ (signed false m (p - min p q).toNat + signed false n (q - min p q).toNat < 0) := by
      exact Int.not_lt.2 (Int.add_nonneg (Int.natCast_nonneg _) (Int.natCast_nonneg _))
    have h2 : (if signed false m (p - min p q).toNat + signed false n (q - min p q).toNat = 0 then false && false else decide (signed false m (p - min p q).toNat + signed false n (q - min p q).toNat < 0)) = false := by
      rw [decide_eq_false h1]; simp
    rw [h2]
    obtain ⟨r, hr, e⟩ := nearest_word false (signed false m (p - min p q).toNat + signed false n (q - min p q).toNat).natAbs (min p q)
    exact ⟨r, congrArg some e, hr⟩
  · exact ⟨_, rfl, by decide +kernel⟩
  · exact ⟨_, rfl, by decide +kernel⟩
  · exact ⟨_, rfl, by decide +kernel⟩
theorem sqrt_ok {x : Nat} (hx : x ≤ INF) : ∃ r, F.sqrt x = some r ∧ r ≤ INF := by
  unfold Format.sqrt
  rcases read_or false hx with ⟨m, p, h⟩ | h <;> rw [word_false] at h <;> rw [h]
  · unfold Datum.root
    by_cases hm : m = 0
    · simp only [if_pos hm, Option.map_some, Format.write]
      obtain ⟨r, hr, e⟩ := nearest_word false m p
      exact ⟨r, congrArg some e, hr⟩
    · simp only [if_neg hm, Bool.false_eq_true, if_false, Option.map_some, Format.write]
      generalize hz : (2 * _ + _ : Nat) = z
      generalize hp : ((_ : Int) / 2 - 1) = pl
      obtain ⟨r, hr, e⟩ := nearest_word false z pl
      exact ⟨r, congrArg some e, hr⟩
  · exact ⟨_, rfl, by decide +kernel⟩
/-- a whole number -/
def fl (n : Nat) : Nat := F.nearest false n 0
theorem fl_le (n : Nat) : fl n ≤ INF := by
  obtain ⟨r, hr, e⟩ := nearest_word false n 0
  unfold fl
  rw [e]; exact hr
theorem fl_zero : fl 0 = 0 := near_zero false 0
theorem fl_eq {n : Nat} (h : n ≠ 0) : fl n = min (rgU (n * 2 ^ 1074) 0) INF := by
  unfold fl
  rw [near_eq false h 0 1074 (by omega), word_false]
theorem fl_pos {n : Nat} (h : n ≠ 0) : 0 < fl n := by
  rw [fl_eq h]
  have : 1 ≤ rgU (n * 2 ^ 1074) 0 := le_rgU (r := 1) (by
    have : rv 1 = 1 := by decide +kernel
    rw [this]
    have h1 : 1 ≤ n * 2 ^ 1074 := Nat.mul_pos (by omega) (Nat.two_pow_pos _)
    omega)
  exact Nat.lt_min.2 ⟨this, by decide⟩
theorem floatOfInt_nat (n : Nat) : floatOfInt .f64 (n : Int) = fl n := by
  show F.write (.number (decide ((n : Int) < 0)) ((n : Int)).natAbs 0) = _
  have : decide ((n : Int) < 0) = false := by simp
  rw [this, Int.natAbs_natCast]
  rfl
end Fl
end Go.Proofs.Ytebniijkhjnbdaa
