/- Joined: what these texts prove stands at the head of each part: LFloat, LFloat2, LPlain, LCost, LSq, LLookA, LSums, LFin. -/
import Derived.Test.YtfanfkogogijpaaGreatDoorOrd
import Derived.Test.YtfanfkogogijpaaGreatDoorSpec
import Derived.Test.YtfanfkogogijpaaGreatDoorGRows
import Derived.Test.YtfanfkogogijpaaGreatDoorProg
import Derived.Test.YtfanfkogogijpaaGreatDoorSmall
import Derived.Test.YtfanfkogogijpaaGreatDoorName
import Derived.Laws.FloatArith
import Derived.Maps.RangeWalk
import Derived.Maps.OwnSet
import Derived.Laws.Externs
import Derived.Laws.MakeOwn
import Derived.Carry
import Derived.Deep.DeepCutAuto
import Derived.Deep.CutBlock
set_option linter.unusedSimpArgs false
set_option linter.unusedVariables false
set_option exponentiation.threshold 3000
namespace Go.Proofs.YtfanfkogogijpaaGreatDoor
section
namespace Fl
open Ieee
abbrev F : Format := Ieee.double
theorem F_binade : F.binade = 4503599627370496 := by decide +kernel
theorem F_inf : F.infRung = 9218868437227405312 := by decide +kernel
theorem F_sign : F.signWeight = 9223372036854775808 := by decide +kernel
theorem F_least : F.leastPlace = -1074 := by decide +kernel
theorem F_frac : F.fractionBits = 52 := rfl
/-- to the nearest whole number, ties to even -/
def rhe (n g : Nat) : Nat := n / g + (decide (g < 2 * (n % g)) || (g == 2 * (n % g) && n / g % 2 == 1)).toNat
theorem lt_log2 (n : Nat) : n < 2 ^ (n.log2 + 1) := Nat.lt_log2_self
theorem cut_eq (neg : Bool) (n drop : Nat) : Toward.even.cut neg n drop = rhe n (2 ^ drop) := by
  unfold Toward.cut rhe
  simp only [Nat.one_shiftLeft]
  by_cases h : drop ≤ n.log2 + 2
  · rw [Nat.min_eq_left h]
  · rw [Nat.min_eq_right (by omega)]
    have h1 := lt_log2 n
    have e1 : 2 ^ (n.log2 + 2) = 2 * 2 ^ (n.log2 + 1) := by rw [Nat.pow_succ]; omega
    have e2 : 2 ^ (n.log2 + 2) ≤ 2 ^ drop := Nat.pow_le_pow_right (by decide) (by omega)
    have f : ∀ g, 2 * n < g → n / g + (decide (g < 2 * (n % g)) || (g == 2 * (n % g) && n / g % 2 == 1)).toNat = 0 := fun g hg => by
      have a : n / g = 0 := Nat.div_eq_of_lt (by omega)
      have b : n % g = n := Nat.mod_eq_of_lt (by omega)
      rw [a, b]
      have c : decide (g < 2 * n) = false := by simp; omega
      rw [c]
      simp
    rw [f _ (by omega), f _ (by omega)]
theorem rhe_le (n g : Nat) : rhe n g ≤ n / g + 1 := by
  unfold rhe
  have := Bool.toNat_le (decide (g < 2 * (n % g)) || (g == 2 * (n % g) && n / g % 2 == 1))
  omega
theorem le_rhe (n g : Nat) : n / g ≤ rhe n g := by unfold rhe; omega
theorem rhe_mono {n n' g : Nat} (hg : 0 < g) (h : n ≤ n') : rhe n g ≤ rhe n' g := by
  have hd : n / g ≤ n' / g := Nat.div_le_div_right h
  by_cases he : n / g = n' / g
  · unfold rhe
    have h1 := Nat.div_add_mod n g
    have h2 := Nat.div_add_mod n' g
    rw [he] at h1 ⊢
    have hm : n % g ≤ n' % g := by omega
    generalize n % g = r at hm ⊢
    generalize n' % g = r' at hm ⊢
    generalize n' / g = q
    apply Nat.add_le_add_left
    cases hb : (decide (g < 2 * r) || (g == 2 * r && q % 2 == 1)) with
    | false => simp
    | true =>
      have : (decide (g < 2 * r') || (g == 2 * r' && q % 2 == 1)) = true := by
        simp only [Bool.or_eq_true, Bool.and_eq_true, decide_eq_true_eq, beq_iff_eq] at hb ⊢
        omega
      rw [this]
      simp
  · have a := rhe_le n g
    have b := le_rhe n' g
    omega
theorem rhe_mul (n g : Nat) {c : Nat} (hc : 0 < c) : rhe (n * c) (g * c) = rhe n g := by
  unfold rhe
  rw [Nat.mul_div_mul_right _ _ hc, Nat.mul_mod_mul_right]
  have e1 : decide (g * c < 2 * (n % g * c)) = decide (g < 2 * (n % g)) := by
    rw [← Nat.mul_assoc]
    exact decide_eq_decide.2 ⟨fun h => Nat.lt_of_mul_lt_mul_right h, fun h => Nat.mul_lt_mul_of_pos_right h hc⟩
  have e2 : (g * c == 2 * (n % g * c)) = (g == 2 * (n % g)) := by
    rw [← Nat.mul_assoc, Bool.eq_iff_iff, beq_iff_eq, beq_iff_eq]
    exact ⟨fun h => Nat.eq_of_mul_eq_mul_right hc h, fun h => congrArg (· * c) h⟩
  rw [e1, e2]
theorem rhe_exact (q : Nat) {g : Nat} (hg : 0 < g) : rhe (q * g) g = q := by
  unfold rhe
  rw [Nat.mul_div_cancel _ hg, Nat.mul_mod_left]
  have : (decide (g < 2 * 0) || (g == 2 * 0 && q % 2 == 1)) = false := by
    have : (g == 2 * 0) = false := by simp; omega
    rw [this]; simp
  rw [this]; rfl
theorem le_rhe_of {k n g : Nat} (hg : 0 < g) (h : k * g ≤ n) : k ≤ rhe n g := by
  have := rhe_mono hg h
  rwa [rhe_exact k hg] at this
theorem rhe_le_of {k n g : Nat} (hg : 0 < g) (h : n ≤ k * g) : rhe n g ≤ k := by
  have := rhe_mono hg h
  rwa [rhe_exact k hg] at this
/-- the rung of M units of 2 ^ (-1074 - s) -/
def rgU (M s : Nat) : Nat := (max (M.log2 - 52) s - s) * 4503599627370496 + rhe M (2 ^ max (M.log2 - 52) s)
theorem log2_mono {a b : Nat} (h : a ≤ b) : a.log2 ≤ b.log2 := by
  by_cases ha : a = 0
  · rw [ha, Nat.log2_zero]; exact Nat.zero_le _
  · rw [Nat.le_log2 (by omega)]
    exact Nat.le_trans (Nat.log2_self_le ha) h
theorem rgU_mono {M M' : Nat} (s : Nat) (h : M ≤ M') : rgU M s ≤ rgU M' s := by
  unfold rgU
  have hl := log2_mono h
  generalize hL : max (M.log2 - 52) s = L
  generalize hL' : max (M'.log2 - 52) s = L'
  by_cases he : L = L'
  · rw [he]
    exact Nat.add_le_add_left (rhe_mono (Nat.two_pow_pos _) h) _
  · have hlt : L < L' := by omega
    have h0 : M' ≠ 0 := by
      intro e
      rw [e, Nat.log2_zero] at hL'
      omega
    have a1 : 4503599627370496 ≤ rhe M' (2 ^ L') := by
      refine le_rhe_of (Nat.two_pow_pos _) ?_
      have : 2 ^ M'.log2 ≤ M' := Nat.log2_self_le h0
      have e : M'.log2 = 52 + L' := by omega
      rw [e, Nat.pow_add] at this
      exact this
    have a2 : rhe M (2 ^ L) ≤ 9007199254740992 := by
      refine rhe_le_of (Nat.two_pow_pos _) ?_
      have h1 := lt_log2 M
      have : 2 ^ (M.log2 + 1) ≤ 2 ^ (53 + L) := Nat.pow_le_pow_right (by decide) (by omega)
      rw [Nat.pow_add 2 53] at this
      exact Nat.le_trans (Nat.le_of_lt h1) this
    omega
theorem log2_shift {m : Nat} (hm : m ≠ 0) (t : Nat) : (m * 2 ^ t).log2 = m.log2 + t := by
  have hp := Nat.two_pow_pos t
  have h0 : m * 2 ^ t ≠ 0 := Nat.mul_ne_zero hm (by omega)
  refine Nat.le_antisymm ?_ ?_
  · have : (m * 2 ^ t).log2 < m.log2 + t + 1 := by
      rw [Nat.log2_lt h0]
      have := lt_log2 m
      rw [show m.log2 + t + 1 = (m.log2 + 1) + t by omega, Nat.pow_add]
      exact Nat.mul_lt_mul_of_pos_right this hp
    omega
  · rw [Nat.le_log2 h0, Nat.pow_add]
    exact Nat.mul_le_mul_right _ (Nat.log2_self_le hm)
/-- the nearest word, by units -/
theorem near_eq (neg : Bool) {m : Nat} (hm : m ≠ 0) (s t : Nat) {place : Int} (hp : place = -1074 - (s : Int) + (t : Int)) : F.nearest neg m place = F.word neg (min (rgU (m * 2 ^ t) s) 9218868437227405312) := by
  unfold Format.nearest
  rw [if_neg hm]
  dsimp only
  rw [F_binade, F_inf, F_least, F_frac, cut_eq]
  unfold rgU
  rw [log2_shift hm]
  generalize hL : max (m.log2 + t - 52) s = L
  have hlast : max (place + (m.log2 : Int) - ((52 : Nat) : Int)) (-1074) = (L : Int) - (s : Int) - 1074 := by omega
  rw [hlast, show ((L : Int) - (s : Int) - 1074 - -1074).toNat = L - s by omega, show (place - ((L : Int) - (s : Int) - 1074)).toNat = t - L by omega, show ((L : Int) - (s : Int) - 1074 - place).toNat = L - t by omega, Nat.shiftLeft_eq]
  have : rhe (m * 2 ^ (t - L)) (2 ^ (L - t)) = rhe (m * 2 ^ t) (2 ^ L) := by
    by_cases h : L ≤ t
    · rw [← rhe_mul (m * 2 ^ (t - L)) (2 ^ (L - t)) (Nat.two_pow_pos L), Nat.mul_assoc, ← Nat.pow_add, ← Nat.pow_add, show t - L + L = t by omega, show L - t + L = L by omega]
    · rw [← rhe_mul (m * 2 ^ (t - L)) (2 ^ (L - t)) (Nat.two_pow_pos t), Nat.mul_assoc, ← Nat.pow_add, ← Nat.pow_add, show t - L + t = t by omega, show L - t + t = L by omega]
  rw [this]
theorem near_zero (neg : Bool) (place : Int) : F.nearest neg 0 place = F.word neg 0 := by unfold Format.nearest; rw [if_pos rfl]
/-- the significand and the place of a rung -/
def mg (r : Nat) : Nat := if r < 4503599627370496 then r else 4503599627370496 + r % 4503599627370496
def sh (r : Nat) : Nat := r / 4503599627370496 - 1
def rv (r : Nat) : Nat := mg r * 2 ^ sh r
theorem word_false (r : Nat) : F.word false r = r := rfl
theorem read_word {r : Nat} (neg : Bool) (h : r < 9218868437227405312) : F.read (F.word neg r) = .number neg (mg r) (-1074 + (sh r : Int)) := by
  unfold Format.read
  have e1 : (F.word neg r / F.signWeight % 2 == 1) = neg := by
    unfold Format.word
    rw [F_sign]
    cases neg
    · have : r / 9223372036854775808 = 0 := Nat.div_eq_of_lt (by omega)
      rw [if_neg (by decide), this]; rfl
    · have : (9223372036854775808 + r) / 9223372036854775808 = 1 := by omega
      rw [if_pos rfl, this]; rfl
  have e2 : F.word neg r % F.signWeight = r := by
    unfold Format.word
    rw [F_sign]
    cases neg
    · rw [if_neg (by decide)]; omega
    · rw [if_pos rfl]; omega
  dsimp only
  rw [e1, e2, F_binade, F_inf, F_least]
  unfold mg sh
  by_cases hb : r < 4503599627370496
  · rw [if_pos hb, if_pos hb]
    have : r / 4503599627370496 = 0 := Nat.div_eq_of_lt hb
    rw [this]; rfl
  · rw [if_neg hb, if_neg hb, if_pos h]
theorem read_inf (neg : Bool) : F.read (F.word neg 9218868437227405312) = .infinity neg := by cases neg <;> decide +kernel
/-- there and back -/
theorem rgU_rv (r s : Nat) : rgU (rv r * 2 ^ s) s = r := by
  unfold rv
  rw [Nat.mul_assoc, ← Nat.pow_add]
  by_cases h0 : mg r = 0
  · have : r = 0 := by
      unfold mg at h0
      split at h0 <;> omega
    subst this
    rw [h0, Nat.zero_mul]
    unfold rgU
    rw [Nat.log2_zero, show max (0 - 52) s = s by omega]
    have := rhe_exact 0 (Nat.two_pow_pos s)
    rw [Nat.zero_mul] at this
    rw [this]; omega
  · unfold rgU
    rw [log2_shift h0]
    by_cases hb : r < 4503599627370496
    · have e : mg r = r := if_pos hb
      have e2 : sh r = 0 := by
        unfold sh
        rw [Nat.div_eq_of_lt hb]
      have hl : r.log2 < 52 := (Nat.log2_lt (e ▸ h0)).2 hb
      rw [e, e2, show max (r.log2 + (0 + s) - 52) s = s by omega, Nat.zero_add, rhe_exact r (Nat.two_pow_pos s)]
      omega
    · have e : mg r = 4503599627370496 + r % 4503599627370496 := if_neg hb
      have hlt : r % 4503599627370496 < 4503599627370496 := Nat.mod_lt _ (by decide)
      have hl : (mg r).log2 = 52 := by
        rw [Nat.log2_eq_iff h0, e]
        constructor <;> omega
      have hd : 1 ≤ r / 4503599627370496 := by omega
      have hs : sh r = r / 4503599627370496 - 1 := rfl
      rw [hl, show max (52 + (sh r + s) - 52) s = sh r + s by omega, rhe_exact (mg r) (Nat.two_pow_pos _), e, hs]
      omega
theorem rv_lt {r r' : Nat} (h : r < r') : rv r < rv r' := by
  apply Classical.byContradiction
  intro hn
  have := rgU_mono 0 (Nat.mul_le_mul_right (2 ^ 0) (Nat.le_of_not_lt hn))
  rw [rgU_rv, rgU_rv] at this
  omega
theorem rv_le {r r' : Nat} (h : r ≤ r') : rv r ≤ rv r' := by
  rcases Nat.lt_or_ge r r' with h1 | h1
  · exact Nat.le_of_lt (rv_lt h1)
  · rw [Nat.le_antisymm h h1]; exact Nat.le_refl _
theorem rv_inj {r r' : Nat} (h : rv r = rv r') : r = r' := by
  rcases Nat.lt_trichotomy r r' with h1 | h1 | h1
  · have := rv_lt h1; omega
  · exact h1
  · have := rv_lt h1; omega
/-- what rounds to at least a rung, to at most a rung -/
theorem le_rgU {r M s : Nat} (h : rv r * 2 ^ s ≤ M) : r ≤ rgU M s := by
  have := rgU_mono s h
  rwa [rgU_rv] at this
theorem rgU_le {r M s : Nat} (h : M ≤ rv r * 2 ^ s) : rgU M s ≤ r := by
  have := rgU_mono s h
  rwa [rgU_rv] at this
/-! ## the operations -/
abbrev INF : Nat := 9218868437227405312
theorem read_nn {x : Nat} (h : x < INF) : F.read x = .number false (mg x) (-1074 + (sh x : Int)) := read_word false h
theorem mg_pos {x : Nat} (h : 0 < x) : mg x ≠ 0 := by unfold mg; split <;> omega
theorem nearest_word (neg : Bool) (m : Nat) (p : Int) : ∃ r, r ≤ INF ∧ F.nearest neg m p = F.word neg r := by
  unfold Format.nearest
  split
  · exact ⟨0, by decide, rfl⟩
  · exact ⟨_, by rw [F_inf]; exact Nat.min_le_right _ _, rfl⟩
theorem read_or {x : Nat} (neg : Bool) (h : x ≤ INF) : (∃ m p, F.read (F.word neg x) = .number neg m p) ∨ F.read (F.word neg x) = .infinity neg := by
  rcases Nat.lt_or_ge x INF with h1 | h1
  · exact .inl ⟨_, _, read_word neg h1⟩
  · rw [Nat.le_antisymm h h1]; exact .inr (read_inf neg)
theorem div_ok {x y : Nat} (hx : x ≤ INF) (hy : y < INF) (h0 : 0 < y) : ∃ r, F.div x y = some r ∧ r ≤ INF := by
  unfold Format.div
  rw [read_nn hy]
  rcases read_or false hx with ⟨m, p, h⟩ | h
  · rw [word_false] at h
    rw [h]
    unfold Datum.quotient
    simp only [if_neg (mg_pos h0), Option.map_some, Format.write, Bool.xor_false]
    obtain ⟨r, hr, e⟩ := nearest_word false (2 * (m <<< (F.fractionBits + 2 + (mg y).log2 - m.log2) / mg y) + (m <<< (F.fractionBits + 2 + (mg y).log2 - m.log2) % mg y != 0).toNat) (p - (-1074 + (sh y : Int)) - ((F.fractionBits + 2 + (mg y).log2 - m.log2 : Nat) : Int) - 1)
    exact ⟨_, rfl, by rw [e]; exact hr⟩
  · rw [word_false] at h
    rw [h]
    exact ⟨_, rfl, by decide +kernel⟩
theorem sub_ok {x y : Nat} (hx : x < INF) (hy : y ≤ INF) : ∃ neg r, F.sub x y = some (F.word neg r) ∧ r ≤ INF := by
  unfold Format.sub
  rw [read_nn hx]
  rcases read_or false hy with ⟨m, p, h⟩ | h
  · rw [word_false] at h
    rw [h]
    unfold Datum.opposite Datum.sum
    simp only [Option.map_some, Format.write]
    obtain ⟨r, hr, e⟩ := nearest_word (if signed false (mg x) (-1074 + (sh x : Int) - min (-1074 + (sh x : Int)) p).toNat + signed (!false) m (p - min (-1074 + (sh x : Int)) p).toNat = 0 then false && !false else decide (signed false (mg x) (-1074 + (sh x : Int) - min (-1074 + (sh x : Int)) p).toNat + signed (!false) m (p - min (-1074 + (sh x : Int)) p).toNat < 0)) (signed false (mg x) (-1074 + (sh x : Int) - min (-1074 + (sh x : Int)) p).toNat + signed (!false) m (p - min (-1074 + (sh x : Int)) p).toNat).natAbs (min (-1074 + (sh x : Int)) p)
    exact ⟨_, r, congrArg some e, hr⟩
  · rw [word_false] at h
    rw [h]
    exact ⟨true, INF, rfl, Nat.le_refl _⟩
theorem sq_ok (neg : Bool) {r : Nat} (h : r ≤ INF) : ∃ q, F.mul (F.word neg r) (F.word neg r) = some q ∧ q ≤ INF := by
  unfold Format.mul
  rcases read_or neg h with ⟨m, p, e⟩ | e
  · rw [e]
    unfold Datum.product
    simp only [Option.map_some, Format.write, Bool.xor_self]
    obtain ⟨q, hq, e2⟩ := nearest_word false (m * m) (p + p)
    exact ⟨q, congrArg some e2, hq⟩
  · rw [e]
    unfold Datum.product
    simp only [Option.map_some, Format.write, Bool.xor_self]
    exact ⟨_, rfl, by decide +kernel⟩
theorem add_ok {x y : Nat} (hx : x ≤ INF) (hy : y ≤ INF) : ∃ r, F.add x y = some r ∧ r ≤ INF := by
  unfold Format.add
  rcases read_or false hx with ⟨m, p, h⟩ | h <;> rcases read_or false hy with ⟨n, q, k⟩ | k <;> rw [word_false] at h k <;> rw [h, k]
  · unfold Datum.sum
    simp only [Option.map_some, Format.write]
    have h1 : ¬ (signed false m (p - min p q).toNat + signed false n (q - min p q).toNat < 0) := by
      exact Int.not_lt.2 (Int.add_nonneg (Int.natCast_nonneg _) (Int.natCast_nonneg _))
    have h2 : (if signed false m (p - min p q).toNat + signed false n (q - min p q).toNat = 0 then false && false else decide (signed false m (p - min p q).toNat + signed false n (q - min p q).toNat < 0)) = false := by
      rw [decide_eq_false h1]; simp
    rw [h2]
    obtain ⟨r, hr, e⟩ := nearest_word false (signed false m (p - min p q).toNat + signed false n (q - min p q).toNat).natAbs (min p q)
    exact ⟨r, congrArg some e, hr⟩
  · exact ⟨_, rfl, by decide +kernel⟩
  · exact ⟨_, rfl, by decide +kernel⟩
  · exact ⟨_, rfl, by decide +kernel⟩
theorem sqrt_ok {x : Nat} (hx : x ≤ INF) : ∃ r, F.sqrt x = some r ∧ r ≤ INF := by
  unfold Format.sqrt
  rcases read_or false hx with ⟨m, p, h⟩ | h <;> rw [word_false] at h <;> rw [h]
  · unfold Datum.root
    by_cases hm : m = 0
    · simp only [if_pos hm, Option.map_some, Format.write]
      obtain ⟨r, hr, e⟩ := nearest_word false m p
      exact ⟨r, congrArg some e, hr⟩
    · simp only [if_neg hm, Bool.false_eq_true, if_false, Option.map_some, Format.write]
      generalize hz : (2 * _ + _ : Nat) = z
      generalize hp : ((_ : Int) / 2 - 1) = pl
      obtain ⟨r, hr, e⟩ := nearest_word false z pl
      exact ⟨r, congrArg some e, hr⟩
  · exact ⟨_, rfl, by decide +kernel⟩
/-- a whole number -/
def fl (n : Nat) : Nat := F.nearest false n 0
theorem fl_le (n : Nat) : fl n ≤ INF := by
  obtain ⟨r, hr, e⟩ := nearest_word false n 0
  unfold fl
  rw [e]; exact hr
theorem fl_zero : fl 0 = 0 := near_zero false 0
theorem fl_eq {n : Nat} (h : n ≠ 0) : fl n = min (rgU (n * 2 ^ 1074) 0) INF := by
  unfold fl
  rw [near_eq false h 0 1074 (by omega), word_false]
theorem fl_pos {n : Nat} (h : n ≠ 0) : 0 < fl n := by
  rw [fl_eq h]
  have : 1 ≤ rgU (n * 2 ^ 1074) 0 := le_rgU (r := 1) (by
    have : rv 1 = 1 := by decide +kernel
    rw [this]
    have h1 : 1 ≤ n * 2 ^ 1074 := Nat.mul_pos (by omega) (Nat.two_pow_pos _)
    omega)
  exact Nat.lt_min.2 ⟨this, by decide⟩
theorem floatOfInt_nat (n : Nat) : floatOfInt .f64 (n : Int) = fl n := by
  show F.write (.number (decide ((n : Int) < 0)) ((n : Int)).natAbs 0) = _
  have : decide ((n : Int) < 0) = false := by simp
  rw [this, Int.natAbs_natCast]
  rfl
end Fl
end
end Go.Proofs.YtfanfkogogijpaaGreatDoor
namespace Go.Proofs.YtfanfkogogijpaaGreatDoor
section
namespace Fl
open Ieee
theorem rep {k : Nat} (hk : k < 9007199254740992) (j : Nat) : rv (rgU (k * 2 ^ j) 0) = k * 2 ^ j := by
  by_cases h0 : k = 0
  · subst h0
    rw [Nat.zero_mul]
    decide +kernel
  have hl : k.log2 < 53 := (Nat.log2_lt h0).2 hk
  unfold rgU
  rw [log2_shift h0]
  generalize hL : max (k.log2 + j - 52) 0 = L
  have hLj : L ≤ j := by omega
  have eM : k * 2 ^ j = (k * 2 ^ (j - L)) * 2 ^ L := by rw [Nat.mul_assoc, ← Nat.pow_add, show j - L + L = j by omega]
  have hq0 : k * 2 ^ (j - L) ≠ 0 := Nat.mul_ne_zero h0 (by have := Nat.two_pow_pos (j - L); omega)
  have hql : (k * 2 ^ (j - L)).log2 = k.log2 + (j - L) := log2_shift h0 _
  rw [eM, rhe_exact _ (Nat.two_pow_pos L)]
  generalize k * 2 ^ (j - L) = q at *
  have q1 := Nat.log2_self_le hq0
  have q2 := lt_log2 q
  unfold rv mg sh
  by_cases hs : L = 0
  · subst hs
    by_cases hb : q < 4503599627370496
    · rw [if_pos (by omega), Nat.div_eq_of_lt (by omega)]
      simp
    · have hlo : q.log2 = 52 := by
        have : q.log2 < 53 := by omega
        have h2 : 52 ≤ q.log2 := (Nat.le_log2 hq0).2 (by omega)
        omega
      rw [hlo] at q2
      rw [if_neg (by omega), show ((0 - 0) * 4503599627370496 + q) / 4503599627370496 = 1 by omega]
      omega
  · have hlo : q.log2 = 52 := by omega
    rw [hlo] at q1 q2
    rw [if_neg (by omega), show ((L - 0) * 4503599627370496 + q) / 4503599627370496 = L + 1 by omega, show 4503599627370496 + ((L - 0) * 4503599627370496 + q) % 4503599627370496 = q by omega]
    rfl
theorem fl_rv {n : Nat} (h : n < 9007199254740992) : rv (fl n) = n * 2 ^ 1074 ∧ fl n < INF := by
  by_cases h0 : n = 0
  · subst h0
    rw [fl_zero]
    decide +kernel
  · have hm : rgU (n * 2 ^ 1074) 0 ≤ rgU (9007199254740992 * 2 ^ 1074) 0 := rgU_mono 0 (Nat.mul_le_mul_right _ (Nat.le_of_lt h))
    have hc : rgU (9007199254740992 * 2 ^ 1074) 0 < INF := by decide +kernel
    have hlt := Nat.lt_of_le_of_lt hm hc
    rw [fl_eq h0, Nat.min_eq_left (Nat.le_of_lt hlt)]
    exact ⟨rep h _, hlt⟩
theorem fl_mono {a b : Nat} (h : a < b) (hb : b < 9007199254740992) : fl a < fl b := by
  have ha := (fl_rv (Nat.lt_trans h hb)).1
  have hb := (fl_rv hb).1
  have h1 : a * 2 ^ 1074 < b * 2 ^ 1074 := Nat.mul_lt_mul_of_pos_right h (Nat.two_pow_pos _)
  apply Classical.byContradiction
  intro hn
  have := rv_le (Nat.le_of_not_lt hn)
  rw [ha, hb] at this
  omega
theorem fl_norm {n : Nat} (h : n < 9007199254740992) (h0 : n ≠ 0) : 4503599627370496 ≤ mg (fl n) ∧ mg (fl n) < 9007199254740992 ∧ (mg (fl n)).log2 = 52 ∧ 1021 < sh (fl n) ∧ sh (fl n) ≤ 1074 ∧ mg (fl n) * 2 ^ sh (fl n) = n * 2 ^ 1074 := by
  obtain ⟨e, hlt⟩ := fl_rv h
  have hx : 4503599627370496 ≤ fl n := by
    apply Classical.byContradiction
    intro hn
    have hn := Nat.lt_of_not_le hn
    have h1 := rv_le (Nat.le_of_lt hn)
    rw [e] at h1
    have h2 : rv 4503599627370496 = 4503599627370496 := by decide +kernel
    have h3 : 1 * 2 ^ 1074 ≤ n * 2 ^ 1074 := Nat.mul_le_mul_right _ (by omega)
    have h4 : 4503599627370496 < 1 * 2 ^ 1074 := by decide +kernel
    omega
  have em : mg (fl n) = 4503599627370496 + fl n % 4503599627370496 := if_neg (by omega)
  have hr : fl n % 4503599627370496 < 4503599627370496 := Nat.mod_lt _ (by decide)
  have l1 : 4503599627370496 ≤ mg (fl n) := by omega
  have l2 : mg (fl n) < 9007199254740992 := by omega
  have e2 : mg (fl n) * 2 ^ sh (fl n) = n * 2 ^ 1074 := e
  refine ⟨l1, l2, ?_, ?_, ?_, e2⟩
  · rw [Nat.log2_eq_iff (by omega)]
    constructor <;> omega
  · apply Classical.byContradiction
    intro hn
    have h1 : 2 ^ sh (fl n) ≤ 2 ^ 1021 := Nat.pow_le_pow_right (by decide) (by omega)
    have h2 : mg (fl n) * 2 ^ sh (fl n) < 9007199254740992 * 2 ^ 1021 := Nat.lt_of_le_of_lt (Nat.mul_le_mul_left _ h1) (Nat.mul_lt_mul_of_pos_right l2 (Nat.two_pow_pos _))
    have h3 : 1 * 2 ^ 1074 ≤ n * 2 ^ 1074 := Nat.mul_le_mul_right _ (by omega)
    have h4 : 9007199254740992 * 2 ^ 1021 = 1 * 2 ^ 1074 := by decide +kernel
    omega
  · apply Classical.byContradiction
    intro hn
    have h1 : 2 ^ 1075 ≤ 2 ^ sh (fl n) := Nat.pow_le_pow_right (by decide) (by omega)
    have h2 : 4503599627370496 * 2 ^ 1075 ≤ mg (fl n) * 2 ^ sh (fl n) := Nat.mul_le_mul l1 h1
    have h3 : n * 2 ^ 1074 < 9007199254740992 * 2 ^ 1074 := Nat.mul_lt_mul_of_pos_right h (Nat.two_pow_pos _)
    have h4 : 9007199254740992 * 2 ^ 1074 ≤ 4503599627370496 * 2 ^ 1075 := by decide +kernel
    omega
/-! ## comparing -/
theorem icmp_lt {a b : Int} (h : a < b) : compare a b = .lt := by show compareOfLessAndEq a b = _; unfold compareOfLessAndEq; rw [if_pos h]
theorem icmp_eq {a : Int} : compare a a = .eq := by show compareOfLessAndEq a a = _; unfold compareOfLessAndEq; rw [if_neg (by omega), if_pos rfl]
theorem icmp_gt {a b : Int} (h : b < a) : compare a b = .gt := by show compareOfLessAndEq a b = _; unfold compareOfLessAndEq; rw [if_neg (by omega), if_neg (by omega)]
theorem order_cmp {x y : Nat} (hx : x < INF) (hy : y < INF) : F.order x y = some (compare x y) := by
  unfold Format.order
  rw [read_nn hx, read_nn hy]
  unfold Datum.order
  simp only [Option.some.injEq]
  have hb : min (-1074 + (sh x : Int)) (-1074 + (sh y : Int)) = -1074 + ((min (sh x) (sh y) : Nat) : Int) := by omega
  rw [hb, show (-1074 + (sh x : Int) - (-1074 + ((min (sh x) (sh y) : Nat) : Int))).toNat = sh x - min (sh x) (sh y) by omega, show (-1074 + (sh y : Int) - (-1074 + ((min (sh x) (sh y) : Nat) : Int))).toNat = sh y - min (sh x) (sh y) by omega]
  unfold signed
  simp only [Bool.false_eq_true, if_false, Nat.shiftLeft_eq]
  have e1 : rv x = mg x * 2 ^ (sh x - min (sh x) (sh y)) * 2 ^ min (sh x) (sh y) := by unfold rv; rw [Nat.mul_assoc, ← Nat.pow_add, show sh x - min (sh x) (sh y) + min (sh x) (sh y) = sh x by omega]
  have e2 : rv y = mg y * 2 ^ (sh y - min (sh x) (sh y)) * 2 ^ min (sh x) (sh y) := by unfold rv; rw [Nat.mul_assoc, ← Nat.pow_add, show sh y - min (sh x) (sh y) + min (sh x) (sh y) = sh y by omega]
  have hp := Nat.two_pow_pos (min (sh x) (sh y))
  generalize mg x * 2 ^ (sh x - min (sh x) (sh y)) = A at *
  generalize mg y * 2 ^ (sh y - min (sh x) (sh y)) = B at *
  generalize 2 ^ min (sh x) (sh y) = C at *
  rcases Nat.lt_trichotomy x y with h | h | h
  · have h1 := rv_lt h
    rw [e1, e2] at h1
    have h2 : A < B := Nat.lt_of_mul_lt_mul_right h1
    rw [Nat.compare_eq_lt.2 h, icmp_lt (Int.ofNat_lt.2 h2)]
  · subst h
    rw [e1] at e2
    have h2 : A = B := Nat.eq_of_mul_eq_mul_right hp e2
    rw [h2]
    rw [Nat.compare_eq_eq.2 rfl, icmp_eq]
  · have h1 := rv_lt h
    rw [e1, e2] at h1
    have h2 : B < A := Nat.lt_of_mul_lt_mul_right h1
    rw [Nat.compare_eq_gt.2 h, icmp_gt (Int.ofNat_lt.2 h2)]
/-! ## a quotient of whole numbers -/
theorem quo_lo {D n K : Nat} (hn : 0 < n) (h : K * n ≤ D) : 2 * K ≤ 2 * (D / n) + (D % n != 0).toNat := by
  have : K ≤ D / n := (Nat.le_div_iff_mul_le hn).2 h
  omega
theorem quo_hi {D n K : Nat} (hn : 0 < n) (h : D ≤ K * n) : 2 * (D / n) + (D % n != 0).toNat ≤ 2 * K := by
  have h1 : D / n ≤ K := by
    have := Nat.div_le_div_right (c := n) h
    rwa [Nat.mul_div_cancel _ hn] at this
  by_cases he : D / n = K
  · have h2 := Nat.div_add_mod D n
    rw [he, Nat.mul_comm] at h2
    have : D % n = 0 := by omega
    rw [this, he]
    simp
  · have := Bool.toNat_le (D % n != 0)
    omega
theorem div_zero_fl {n : Nat} (h : n < 9007199254740992) (h0 : n ≠ 0) : F.div 0 (fl n) = some 0 := by
  unfold Format.div
  rw [read_nn (fl_rv h).2]
  have e : F.read 0 = .number false 0 (-1074) := by decide +kernel
  rw [e]
  unfold Datum.quotient
  simp only [if_neg (mg_pos (fl_pos h0)), Option.map_some, Format.write, Bool.xor_false, Nat.zero_shiftLeft, Nat.zero_div, Nat.zero_mod, Nat.mul_zero]
  have : (0 != 0).toNat = 0 := rfl
  rw [this, Nat.add_zero, near_zero]
  rfl
theorem div_fl {T n : Nat} (hT : T < 9007199254740992) (hn : n < 9007199254740992) (h0 : n ≠ 0) : ∃ r, F.div (fl T) (fl n) = some r ∧ r ≤ INF ∧ (∀ lo, lo * n ≤ T → fl lo ≤ r) ∧ (∀ hi, T ≤ hi * n → hi < 9007199254740992 → r ≤ fl hi) ∧ (T ≠ 0 → 4368491638549381120 ≤ r) := by
  by_cases hT0 : T = 0
  · subst hT0
    rw [fl_zero]
    refine ⟨0, div_zero_fl hn h0, by decide, fun lo hlo => ?_, fun hi _ _ => Nat.zero_le _, fun h => absurd rfl h⟩
    have : lo = 0 := by
      rcases Nat.mul_eq_zero.1 (Nat.le_zero.1 hlo) with h | h
      · exact h
      · exact absurd h h0
    rw [this, fl_zero]
    exact Nat.le_refl _
  obtain ⟨x1, x2, x3, x4, x5, x6⟩ := fl_norm hT hT0
  obtain ⟨y1, y2, y3, y4, y5, y6⟩ := fl_norm hn h0
  unfold Format.div
  rw [read_nn (fl_rv hT).2, read_nn (fl_rv hn).2]
  generalize mg (fl T) = mx at *
  generalize mg (fl n) = mn at *
  generalize sh (fl T) = ax at *
  generalize sh (fl n) = an at *
  unfold Datum.quotient
  have hmn : mn ≠ 0 := by omega
  simp only [if_neg hmn, Option.map_some, Format.write, Bool.xor_false, x3, y3, F_frac, Nat.shiftLeft_eq]
  rw [show 52 + 2 + 52 - 52 = 54 by omega]
  generalize hq : 2 * (mx * 2 ^ 54 / mn) + (mx * 2 ^ 54 % mn != 0).toNat = q
  have hmn0 : 0 < mn := by omega
  have q0 : q ≠ 0 := by
    have : 1 * mn ≤ mx * 2 ^ 54 := by omega
    have := quo_lo hmn0 this
    omega
  rw [near_eq false q0 (an + 55) (ax + 1074) (by omega), word_false]
  have hp1 := Nat.two_pow_pos 1074
  refine ⟨_, rfl, Nat.min_le_right _ _, fun lo hlo => ?_, fun hi hhi hh => ?_, fun _ => ?_⟩
  · have hlT : lo < 9007199254740992 := by
      have : lo * 1 ≤ lo * n := Nat.mul_le_mul_left _ (by omega)
      omega
    obtain ⟨e, hf⟩ := fl_rv hlT
    refine Nat.le_min.2 ⟨le_rgU ?_, Nat.le_of_lt hf⟩
    rw [e]
    have key : lo * mn * 2 ^ an ≤ mx * 2 ^ ax := by
      rw [x6, Nat.mul_assoc, y6, ← Nat.mul_assoc]
      exact Nat.mul_le_mul_right _ hlo
    have goal : lo * 2 ^ (an + 55) ≤ q * 2 ^ ax := by
      by_cases hd : an ≤ ax
      · obtain ⟨dd, rfl⟩ : ∃ dd, ax = an + dd := ⟨ax - an, by omega⟩
        have k2 : lo * mn ≤ mx * 2 ^ dd := by
          rw [Nat.pow_add, ← Nat.mul_assoc, Nat.mul_right_comm mx] at key
          exact Nat.le_of_mul_le_mul_right key (Nat.two_pow_pos an)
        have k3 : lo * 2 ^ (54 - dd) * mn ≤ mx * 2 ^ 54 := by
          rw [Nat.mul_right_comm]
          refine Nat.le_trans (Nat.mul_le_mul_right _ k2) ?_
          rw [Nat.mul_assoc, ← Nat.pow_add, show dd + (54 - dd) = 54 by omega]
          exact Nat.le_refl _
        have k4 := quo_lo hmn0 k3
        rw [hq] at k4
        have k5 := Nat.mul_le_mul_right (2 ^ (an + dd)) k4
        refine Nat.le_trans (Nat.le_of_eq ?_) k5
        rw [show 2 * (lo * 2 ^ (54 - dd)) * 2 ^ (an + dd) = lo * (2 ^ 1 * 2 ^ (54 - dd) * 2 ^ (an + dd)) by rw [Nat.pow_one]; simp only [Nat.mul_comm, Nat.mul_left_comm, Nat.mul_assoc], ← Nat.pow_add, ← Nat.pow_add, show 1 + (54 - dd) + (an + dd) = an + 55 by omega]
      · obtain ⟨dd, rfl⟩ : ∃ dd, an = ax + dd := ⟨an - ax, by omega⟩
        have k2 : lo * mn * 2 ^ dd ≤ mx := by
          rw [Nat.pow_add, Nat.mul_comm (2 ^ ax), ← Nat.mul_assoc] at key
          exact Nat.le_of_mul_le_mul_right key (Nat.two_pow_pos ax)
        have k3 : lo * 2 ^ (dd + 54) * mn ≤ mx * 2 ^ 54 := by
          refine Nat.le_trans (Nat.le_of_eq ?_) (Nat.mul_le_mul_right _ k2)
          rw [Nat.pow_add]
          simp only [Nat.mul_comm, Nat.mul_left_comm, Nat.mul_assoc]
        have k4 := quo_lo hmn0 k3
        rw [hq] at k4
        have k5 := Nat.mul_le_mul_right (2 ^ ax) k4
        refine Nat.le_trans (Nat.le_of_eq ?_) k5
        rw [show 2 * (lo * 2 ^ (dd + 54)) * 2 ^ ax = lo * (2 ^ 1 * 2 ^ (dd + 54) * 2 ^ ax) by rw [Nat.pow_one]; simp only [Nat.mul_comm, Nat.mul_left_comm, Nat.mul_assoc], ← Nat.pow_add, ← Nat.pow_add, show 1 + (dd + 54) + ax = ax + dd + 55 by omega]
    rw [Nat.pow_add 2 ax, ← Nat.mul_assoc, Nat.mul_right_comm]
    exact Nat.mul_le_mul_right _ goal
  · obtain ⟨e, hf⟩ := fl_rv hh
    refine Nat.le_trans (Nat.min_le_left _ _) (rgU_le ?_)
    rw [e]
    have key : mx * 2 ^ ax ≤ hi * mn * 2 ^ an := by
      rw [x6, Nat.mul_assoc, y6, ← Nat.mul_assoc]
      exact Nat.mul_le_mul_right _ hhi
    have goal : q * 2 ^ ax ≤ hi * 2 ^ (an + 55) := by
      by_cases hd : an ≤ ax
      · obtain ⟨dd, rfl⟩ : ∃ dd, ax = an + dd := ⟨ax - an, by omega⟩
        have k2 : mx * 2 ^ dd ≤ hi * mn := by
          rw [Nat.pow_add, ← Nat.mul_assoc, Nat.mul_right_comm mx] at key
          exact Nat.le_of_mul_le_mul_right key (Nat.two_pow_pos an)
        have k3 : mx * 2 ^ 54 ≤ hi * 2 ^ (54 - dd) * mn := by
          rw [Nat.mul_right_comm]
          refine Nat.le_trans ?_ (Nat.mul_le_mul_right _ k2)
          rw [Nat.mul_assoc, ← Nat.pow_add, show dd + (54 - dd) = 54 by omega]
          exact Nat.le_refl _
        have k4 := quo_hi hmn0 k3
        rw [hq] at k4
        have k5 := Nat.mul_le_mul_right (2 ^ (an + dd)) k4
        refine Nat.le_trans k5 (Nat.le_of_eq ?_)
        rw [show 2 * (hi * 2 ^ (54 - dd)) * 2 ^ (an + dd) = hi * (2 ^ 1 * 2 ^ (54 - dd) * 2 ^ (an + dd)) by rw [Nat.pow_one]; simp only [Nat.mul_comm, Nat.mul_left_comm, Nat.mul_assoc], ← Nat.pow_add, ← Nat.pow_add, show 1 + (54 - dd) + (an + dd) = an + 55 by omega]
      · obtain ⟨dd, rfl⟩ : ∃ dd, an = ax + dd := ⟨an - ax, by omega⟩
        have k2 : mx ≤ hi * mn * 2 ^ dd := by
          rw [Nat.pow_add, Nat.mul_comm (2 ^ ax), ← Nat.mul_assoc] at key
          exact Nat.le_of_mul_le_mul_right key (Nat.two_pow_pos ax)
        have k3 : mx * 2 ^ 54 ≤ hi * 2 ^ (dd + 54) * mn := by
          refine Nat.le_trans (Nat.mul_le_mul_right _ k2) (Nat.le_of_eq ?_)
          rw [Nat.pow_add]
          simp only [Nat.mul_comm, Nat.mul_left_comm, Nat.mul_assoc]
        have k4 := quo_hi hmn0 k3
        rw [hq] at k4
        have k5 := Nat.mul_le_mul_right (2 ^ ax) k4
        refine Nat.le_trans k5 (Nat.le_of_eq ?_)
        rw [show 2 * (hi * 2 ^ (dd + 54)) * 2 ^ ax = hi * (2 ^ 1 * 2 ^ (dd + 54) * 2 ^ ax) by rw [Nat.pow_one]; simp only [Nat.mul_comm, Nat.mul_left_comm, Nat.mul_assoc], ← Nat.pow_add, ← Nat.pow_add, show 1 + (dd + 54) + ax = ax + dd + 55 by omega]
    rw [Nat.pow_add 2 ax, ← Nat.mul_assoc, Nat.mul_right_comm hi]
    exact Nat.mul_le_mul_right _ goal
  · refine Nat.le_min.2 ⟨le_rgU ?_, by decide⟩
    have e : rv 4368491638549381120 = 2 ^ 1021 := by decide +kernel
    rw [e, ← Nat.pow_add]
    have k3 : 9007199254740992 * mn ≤ mx * 2 ^ 54 := by omega
    have k4 := quo_lo hmn0 k3
    rw [hq] at k4
    have k5 : 2 ^ 54 * 2 ^ (ax + 1074) ≤ q * 2 ^ (ax + 1074) := Nat.mul_le_mul_right _ k4
    refine Nat.le_trans ?_ k5
    rw [← Nat.pow_add]
    exact Nat.pow_le_pow_right (by decide) (by omega)
theorem fine {y : Nat} (h : y = 0 ∨ 4368491638549381120 ≤ y) : 2 ^ 969 ∣ rv y := by
  rcases h with rfl | h
  · exact ⟨0, by decide +kernel⟩
  · unfold rv
    have : 969 ≤ sh y := by unfold sh; omega
    exact Nat.dvd_mul_left_of_dvd (Nat.pow_dvd_pow 2 this) _
theorem fine_fl {n : Nat} (h : n < 9007199254740992) : 2 ^ 969 ∣ rv (fl n) := by
  rw [(fl_rv h).1]
  exact Nat.dvd_mul_left_of_dvd (Nat.pow_dvd_pow 2 (by decide)) _
/-! ## a difference -/
theorem sub_fl {x y : Nat} (hx : x < INF) (hy : y < INF) : ∃ neg r, F.sub x y = some (F.word neg r) ∧ r ≤ INF ∧ (x = y → F.word neg r = 0) ∧ (∀ j ρ, 2 ^ j ∣ rv x → 2 ^ j ∣ rv y → x ≠ y → rv ρ ≤ 2 ^ j → ρ ≤ INF → ρ ≤ r) := by
  unfold Format.sub
  rw [read_nn hx, read_nn hy]
  unfold Datum.opposite Datum.sum
  simp only [Option.map_some, Format.write, Bool.not_false]
  have hb : min (-1074 + (sh x : Int)) (-1074 + (sh y : Int)) = -1074 + ((min (sh x) (sh y) : Nat) : Int) := by omega
  rw [hb, show (-1074 + (sh x : Int) - (-1074 + ((min (sh x) (sh y) : Nat) : Int))).toNat = sh x - min (sh x) (sh y) by omega, show (-1074 + (sh y : Int) - (-1074 + ((min (sh x) (sh y) : Nat) : Int))).toNat = sh y - min (sh x) (sh y) by omega]
  have e1 : rv x = mg x * 2 ^ (sh x - min (sh x) (sh y)) * 2 ^ min (sh x) (sh y) := by unfold rv; rw [Nat.mul_assoc, ← Nat.pow_add, show sh x - min (sh x) (sh y) + min (sh x) (sh y) = sh x by omega]
  have e2 : rv y = mg y * 2 ^ (sh y - min (sh x) (sh y)) * 2 ^ min (sh x) (sh y) := by unfold rv; rw [Nat.mul_assoc, ← Nat.pow_add, show sh y - min (sh x) (sh y) + min (sh x) (sh y) = sh y by omega]
  have hp := Nat.two_pow_pos (min (sh x) (sh y))
  have f1 : signed false (mg x) (sh x - min (sh x) (sh y)) = ((mg x * 2 ^ (sh x - min (sh x) (sh y)) : Nat) : Int) := by unfold signed; rw [if_neg (by decide), Nat.shiftLeft_eq]
  have f2 : signed true (mg y) (sh y - min (sh x) (sh y)) = -((mg y * 2 ^ (sh y - min (sh x) (sh y)) : Nat) : Int) := by unfold signed; rw [if_pos rfl, Nat.shiftLeft_eq]
  rw [f1, f2]
  clear f1 f2 hb
  generalize hc : min (sh x) (sh y) = c at *
  generalize mg x * 2 ^ (sh x - c) = A at *
  generalize mg y * 2 ^ (sh y - c) = B at *
  by_cases h0 : (A : Int) + -(B : Int) = 0
  · have hAB : A = B := by omega
    have hxy : x = y := rv_inj (by rw [e1, e2, hAB])
    rw [if_pos h0, h0]
    refine ⟨false, 0, congrArg some (near_zero _ _), by decide, fun _ => rfl, fun j ρ _ _ hne => absurd hxy hne⟩
  · rw [if_neg h0]
    have hn0 : ((A : Int) + -(B : Int)).natAbs ≠ 0 := by omega
    rw [near_eq _ hn0 0 c (by omega)]
    refine ⟨_, _, rfl, Nat.min_le_right _ _, fun e => ?_, fun j ρ d1 d2 hne hr hi => ?_⟩
    · exfalso
      subst e
      rw [e1] at e2
      have := Nat.eq_of_mul_eq_mul_right hp e2
      omega
    · refine Nat.le_min.2 ⟨le_rgU ?_, hi⟩
      rw [Nat.pow_zero, Nat.mul_one]
      refine Nat.le_trans hr ?_
      have e3 : ((A : Int) + -(B : Int)).natAbs * 2 ^ c = (rv x - rv y) + (rv y - rv x) := by
        rw [e1, e2]
        rcases Nat.lt_or_ge A B with h | h
        · rw [show ((A : Int) + -(B : Int)).natAbs = B - A by omega, Nat.sub_eq_zero_of_le (Nat.mul_le_mul_right _ (Nat.le_of_lt h)), Nat.zero_add, Nat.sub_mul]
        · rw [show ((A : Int) + -(B : Int)).natAbs = A - B by omega, Nat.sub_eq_zero_of_le (Nat.mul_le_mul_right (2 ^ c) h), Nat.add_zero, Nat.sub_mul]
      rw [e3]
      have hd : 2 ^ j ∣ (rv x - rv y) + (rv y - rv x) := Nat.dvd_add (Nat.dvd_sub d1 d2) (Nat.dvd_sub d2 d1)
      refine Nat.le_of_dvd ?_ hd
      have : rv x ≠ rv y := fun e => hne (rv_inj e)
      omega
/-! ## a square, a sum, a quotient, a root -/
theorem sq_fl (neg : Bool) {r : Nat} (h : r ≤ INF) : ∃ q, F.mul (F.word neg r) (F.word neg r) = some q ∧ q ≤ INF ∧ ∀ ρ, rv ρ * 2 ^ 1074 ≤ rv r * rv r → ρ ≤ INF → ρ ≤ q := by
  unfold Format.mul
  rcases Nat.lt_or_ge r INF with h1 | h1
  · rw [read_word neg h1]
    unfold Datum.product
    simp only [Option.map_some, Format.write, Bool.xor_self]
    by_cases h0 : mg r * mg r = 0
    · rw [h0, near_zero]
      refine ⟨0, rfl, by decide, fun ρ hr _ => ?_⟩
      have : rv r * rv r = 0 := by
        unfold rv
        rw [show mg r * 2 ^ sh r * (mg r * 2 ^ sh r) = mg r * mg r * (2 ^ sh r * 2 ^ sh r) by simp only [Nat.mul_comm, Nat.mul_left_comm, Nat.mul_assoc], h0, Nat.zero_mul]
      rw [this] at hr
      have h2 : rv ρ = 0 := by
        rcases Nat.mul_eq_zero.1 (Nat.le_zero.1 hr) with h | h
        · exact h
        · have := Nat.two_pow_pos 1074; omega
      have h3 : rv 0 = 0 := by decide +kernel
      rw [rv_inj (h2.trans h3.symm)]
      exact Nat.le_refl _
    · rw [near_eq false h0 1074 (sh r + sh r) (by omega), word_false]
      refine ⟨_, rfl, Nat.min_le_right _ _, fun ρ hr hi => Nat.le_min.2 ⟨le_rgU ?_, hi⟩⟩
      refine Nat.le_trans hr (Nat.le_of_eq ?_)
      unfold rv
      rw [Nat.pow_add]
      simp only [Nat.mul_comm, Nat.mul_left_comm, Nat.mul_assoc]
  · rw [Nat.le_antisymm h h1, read_inf]
    unfold Datum.product
    simp only [Option.map_some, Format.write, Bool.xor_self]
    exact ⟨_, rfl, by decide +kernel, fun ρ _ hi => Nat.le_trans hi (by decide +kernel)⟩
theorem add_fl {x y : Nat} (hx : x ≤ INF) (hy : y ≤ INF) : ∃ r, F.add x y = some r ∧ r ≤ INF ∧ x ≤ r ∧ y ≤ r := by
  unfold Format.add
  rcases Nat.lt_or_ge x INF with h1 | h1 <;> rcases Nat.lt_or_ge y INF with h2 | h2
  · rw [read_nn h1, read_nn h2]
    unfold Datum.sum
    simp only [Option.map_some, Format.write]
    have hb : min (-1074 + (sh x : Int)) (-1074 + (sh y : Int)) = -1074 + ((min (sh x) (sh y) : Nat) : Int) := by omega
    rw [hb, show (-1074 + (sh x : Int) - (-1074 + ((min (sh x) (sh y) : Nat) : Int))).toNat = sh x - min (sh x) (sh y) by omega, show (-1074 + (sh y : Int) - (-1074 + ((min (sh x) (sh y) : Nat) : Int))).toNat = sh y - min (sh x) (sh y) by omega]
    have e1 : rv x = mg x * 2 ^ (sh x - min (sh x) (sh y)) * 2 ^ min (sh x) (sh y) := by unfold rv; rw [Nat.mul_assoc, ← Nat.pow_add, show sh x - min (sh x) (sh y) + min (sh x) (sh y) = sh x by omega]
    have e2 : rv y = mg y * 2 ^ (sh y - min (sh x) (sh y)) * 2 ^ min (sh x) (sh y) := by unfold rv; rw [Nat.mul_assoc, ← Nat.pow_add, show sh y - min (sh x) (sh y) + min (sh x) (sh y) = sh y by omega]
    have f1 : signed false (mg x) (sh x - min (sh x) (sh y)) = ((mg x * 2 ^ (sh x - min (sh x) (sh y)) : Nat) : Int) := by unfold signed; rw [if_neg (by decide), Nat.shiftLeft_eq]
    have f2 : signed false (mg y) (sh y - min (sh x) (sh y)) = ((mg y * 2 ^ (sh y - min (sh x) (sh y)) : Nat) : Int) := by unfold signed; rw [if_neg (by decide), Nat.shiftLeft_eq]
    rw [f1, f2]
    clear f1 f2 hb
    generalize hc : min (sh x) (sh y) = c at *
    generalize mg x * 2 ^ (sh x - c) = A at *
    generalize mg y * 2 ^ (sh y - c) = B at *
    have e3 : ((A : Int) + (B : Int)).natAbs = A + B := by omega
    have e4 : (if (A : Int) + (B : Int) = 0 then false && false else decide ((A : Int) + (B : Int) < 0)) = false := by
      rw [decide_eq_false (by omega)]; simp
    rw [e4, e3]
    by_cases h0 : A + B = 0
    · rw [h0, near_zero]
      have a0 : A = 0 := by omega
      have b0 : B = 0 := by omega
      have h3 : rv 0 = 0 := by decide +kernel
      have x0 : x = 0 := rv_inj (by rw [e1, a0, Nat.zero_mul, h3])
      have y0 : y = 0 := rv_inj (by rw [e2, b0, Nat.zero_mul, h3])
      subst x0 y0
      exact ⟨0, rfl, by decide, Nat.le_refl _, Nat.le_refl _⟩
    · rw [near_eq false h0 0 c (by omega), word_false]
      refine ⟨_, rfl, Nat.min_le_right _ _, Nat.le_min.2 ⟨le_rgU ?_, hx⟩, Nat.le_min.2 ⟨le_rgU ?_, hy⟩⟩
      · rw [Nat.pow_zero, Nat.mul_one, e1]
        exact Nat.mul_le_mul_right _ (Nat.le_add_right _ _)
      · rw [Nat.pow_zero, Nat.mul_one, e2]
        exact Nat.mul_le_mul_right _ (Nat.le_add_left _ _)
  · have e : y = INF := Nat.le_antisymm hy h2
    have e2 : F.read y = .infinity false := by rw [e]; exact read_inf false
    rw [read_nn h1, e2]
    exact ⟨INF, rfl, Nat.le_refl _, hx, hy⟩
  · have e : x = INF := Nat.le_antisymm hx h1
    have e2 : F.read x = .infinity false := by rw [e]; exact read_inf false
    rw [e2, read_nn h2]
    exact ⟨INF, rfl, Nat.le_refl _, hx, hy⟩
  · have e : y = INF := Nat.le_antisymm hy h2
    have e2 : F.read y = .infinity false := by rw [e]; exact read_inf false
    have e3 : x = INF := Nat.le_antisymm hx h1
    have e4 : F.read x = .infinity false := by rw [e3]; exact read_inf false
    rw [e2, e4]
    exact ⟨INF, rfl, Nat.le_refl _, hx, hy⟩
theorem div_pos {s n : Nat} (hs : s ≤ INF) (h8 : 2 ^ 864 ≤ rv s) (hn : n < 9007199254740992) (h0 : n ≠ 0) : ∃ r, F.div s (fl n) = some r ∧ r ≤ INF ∧ 0 < r := by
  unfold Format.div
  obtain ⟨y1, y2, y3, y4, y5, y6⟩ := fl_norm hn h0
  rw [read_nn (fl_rv hn).2]
  generalize mg (fl n) = mn at *
  generalize sh (fl n) = an at *
  have hmn : mn ≠ 0 := by omega
  rcases Nat.lt_or_ge s INF with h1 | h1
  · rw [read_nn h1]
    unfold Datum.quotient
    simp only [if_neg hmn, Option.map_some, Format.write, Bool.xor_false, y3, F_frac, Nat.shiftLeft_eq]
    have hm0 : mg s ≠ 0 := fun e => by
      unfold rv at h8
      rw [e, Nat.zero_mul] at h8
      have := Nat.two_pow_pos 864
      omega
    have hl : 864 ≤ (mg s).log2 + sh s := by
      rw [← log2_shift hm0, Nat.le_log2 (Nat.mul_ne_zero hm0 (by have := Nat.two_pow_pos (sh s); omega))]
      exact h8
    have hlm : (mg s).log2 ≤ 52 := by
      have : (mg s).log2 < 53 := (Nat.log2_lt hm0).2 (by unfold mg; split <;> omega)
      omega
    have hself := Nat.log2_self_le hm0
    generalize mg s = m at *
    generalize sh s = a at *
    rw [show 52 + 2 + 52 - m.log2 = 106 - m.log2 by omega]
    generalize hq : 2 * (m * 2 ^ (106 - m.log2) / mn) + (m * 2 ^ (106 - m.log2) % mn != 0).toNat = q
    have k3 : 9007199254740992 * mn ≤ m * 2 ^ (106 - m.log2) := by
      have h3 : 2 ^ m.log2 * 2 ^ (106 - m.log2) ≤ m * 2 ^ (106 - m.log2) := Nat.mul_le_mul_right _ hself
      rw [← Nat.pow_add, show m.log2 + (106 - m.log2) = 106 by omega] at h3
      have h4 : 9007199254740992 * mn ≤ 2 ^ 106 := by omega
      exact Nat.le_trans h4 h3
    have k4 := quo_lo (by omega) k3
    rw [hq] at k4
    rw [near_eq false (show q ≠ 0 by omega) (an + (106 - m.log2) + 1) (a + 1074) (by omega), word_false]
    refine ⟨_, rfl, Nat.min_le_right _ _, Nat.lt_min.2 ⟨?_, by decide⟩⟩
    refine le_rgU (r := 1) ?_
    have e : rv 1 = 1 := by decide +kernel
    rw [e, Nat.one_mul]
    have k5 : 2 ^ 54 * 2 ^ (a + 1074) ≤ q * 2 ^ (a + 1074) := Nat.mul_le_mul_right _ k4
    refine Nat.le_trans ?_ k5
    rw [← Nat.pow_add]
    exact Nat.pow_le_pow_right (by decide) (by omega)
  · have e : s = INF := Nat.le_antisymm hs h1
    have e2 : F.read s = .infinity false := by rw [e]; exact read_inf false
    rw [e2]
    exact ⟨INF, rfl, Nat.le_refl _, by decide⟩
theorem sqrt_pos {x : Nat} (hx : x ≤ INF) (h0 : 0 < x) : ∃ r, F.sqrt x = some r ∧ r ≤ INF ∧ 0 < r := by
  unfold Format.sqrt
  rcases Nat.lt_or_ge x INF with h1 | h1
  · rw [read_nn h1]
    have hm := mg_pos h0
    have hl : (mg x).log2 ≤ 52 := by
      have : (mg x).log2 < 53 := (Nat.log2_lt hm).2 (by unfold mg; split <;> omega)
      omega
    unfold Datum.root
    simp only [if_neg hm, Bool.false_eq_true, if_false, Option.map_some, Format.write, F_frac, Nat.shiftLeft_eq]
    generalize hmo : 2 * (52 + 2) - (mg x).log2 = mo
    generalize hm1 : mo + ((-1074 + (sh x : Int) - (mo : Int)) % 2).toNat = m1
    have hm1b : m1 ≤ 110 := by omega
    have hz : mg x * 2 ^ m1 ≠ 0 := Nat.mul_ne_zero hm (by have := Nat.two_pow_pos m1; omega)
    generalize mg x * 2 ^ m1 = n at *
    generalize Datum.rootFrom n (n.log2 / 2 + 1) 0 = wh
    have hz2 : 2 * wh + (wh * wh != n).toNat ≠ 0 := by
      by_cases hw : wh = 0
      · subst hw
        have : (0 * 0 != n) = true := by simp; omega
        rw [this]; decide
      · omega
    generalize 2 * wh + (wh * wh != n).toNat = z at *
    generalize hpl : (-1074 + (sh x : Int) - (m1 : Int)) / 2 - 1 = pl
    rw [near_eq false hz2 0 (pl + 1074).toNat (by omega), word_false]
    refine ⟨_, rfl, Nat.min_le_right _ _, Nat.lt_min.2 ⟨?_, by decide⟩⟩
    refine le_rgU (r := 1) ?_
    have e : rv 1 = 1 := by decide +kernel
    rw [e]
    have : 1 ≤ z * 2 ^ (pl + 1074).toNat := Nat.mul_pos (by omega) (Nat.two_pow_pos _)
    omega
  · have e : x = INF := Nat.le_antisymm hx h1
    have e2 : F.read x = .infinity false := by rw [e]; exact read_inf false
    rw [e2]
    exact ⟨INF, rfl, Nat.le_refl _, by decide⟩
theorem sqrt_zero : F.sqrt 0 = some 0 := by decide +kernel
theorem mul_zero_w : F.mul 0 0 = some 0 := by decide +kernel
theorem add_zero_w : F.add 0 0 = some 0 := by decide +kernel
end Fl
end
end Go.Proofs.YtfanfkogogijpaaGreatDoor
namespace Go.Proofs.YtfanfkogogijpaaGreatDoor
section
/-- of a change what counts here: its path, whether it takes away, how many bytes it brings -/
structure Cw where
  p : List UInt8
  g : Bool
  n : Nat
structure Cost where
  t : Nat
  all : Nat
  now : Nat
/-- the program's map, as a list -/
abbrev CostM := List (List UInt8 × Cost)
def hits (d p : List UInt8) : Bool := decide (p = d) || belowP d p
def goneM (M : CostM) (d : List UInt8) : CostM := M.map fun x => if hits d x.1 = true then (x.1, ⟨x.2.t, x.2.all, 0⟩) else x
def getM (M : CostM) (p : List UInt8) : Option Cost := (M.find? (fun x => x.1 == p)).map (·.2)
def putM (M : CostM) (p : List UInt8) (n : Nat) : CostM := match getM M p with
  | none => M ++ [(p, ⟨1, n, n⟩)]
  | some _ => M.map fun x => if x.1 = p then (x.1, ⟨x.2.t + 1, x.2.all + n, n⟩) else x
def stepM (M : CostM) (c : Cw) : CostM := if c.g = true then goneM M c.p else putM M c.p c.n
def costsM (l : List Cw) : CostM := l.foldl stepM []
/-- of one path: how often, how many bytes, how many of them are there in the end -/
def timesF (l : List Cw) (p : List UInt8) : Nat := (l.filter fun c => !c.g && c.p == p).length
def allF (l : List Cw) (p : List UInt8) : Nat := ((l.filter fun c => !c.g && c.p == p).map (·.n)).sum
def nowStep (p : List UInt8) (a : Nat) (c : Cw) : Nat := if c.g = true then (if hits c.p p = true then 0 else a) else if c.p = p then c.n else a
def nowF (l : List Cw) (p : List UInt8) : Nat := l.foldl (nowStep p) 0
def costF (l : List Cw) (p : List UInt8) : Option Cost := if timesF l p = 0 then none else some ⟨timesF l p, allF l p, nowF l p⟩
theorem getM_gone (M : CostM) (d p : List UInt8) : getM (goneM M d) p = (getM M p).map fun c => if hits d p = true then ⟨c.t, c.all, 0⟩ else c := by
  induction M with
  | nil => rfl
  | cons x r ih =>
    unfold getM goneM at ih ⊢
    rw [List.map_cons, List.find?_cons, List.find?_cons]
    by_cases h : x.1 = p
    · subst h
      by_cases hh : hits d x.1 = true
      · simp [hh]
      · simp [hh]
    · by_cases hh : hits d x.1 = true
      · rw [if_pos hh]
        have e : (x.1 == p) = false := by simpa using h
        simp only [e]
        exact ih
      · rw [if_neg hh]
        have e : (x.1 == p) = false := by simpa using h
        simp only [e]
        exact ih
theorem getM_append (M : CostM) (y : List UInt8 × Cost) (p : List UInt8) : getM (M ++ [y]) p = (getM M p).or (if y.1 = p then some y.2 else none) := by
  unfold getM
  rw [List.find?_append]
  cases M.find? (fun x => x.1 == p) with
  | some z => rfl
  | none =>
    by_cases h : y.1 = p
    · rw [if_pos h]; simp [h]
    · rw [if_neg h]
      have e : (y.1 == p) = false := by simpa using h
      simp [e]
theorem getM_turn (M : CostM) (d p : List UInt8) (f : Cost → Cost) : getM (M.map fun x => if x.1 = d then (x.1, f x.2) else x) p = (getM M p).map fun c => if p = d then f c else c := by
  induction M with
  | nil => rfl
  | cons x r ih =>
    unfold getM at ih ⊢
    rw [List.map_cons, List.find?_cons, List.find?_cons]
    by_cases h : x.1 = p
    · subst h
      by_cases hh : x.1 = d
      · simp [hh]
      · simp [hh]
    · have e : (x.1 == p) = false := by simpa using h
      by_cases hh : x.1 = d
      · rw [if_pos hh]
        simp only [e]
        exact ih
      · rw [if_neg hh]
        simp only [e]
        exact ih
theorem timesF_snoc (l : List Cw) (c : Cw) (p : List UInt8) : timesF (l ++ [c]) p = timesF l p + (if c.g = false ∧ c.p = p then 1 else 0) := by
  unfold timesF
  rw [List.filter_append, List.length_append]
  by_cases h : c.g = false ∧ c.p = p
  · rw [if_pos h]; simp [h.1, h.2]
  · rw [if_neg h]
    have e : (!c.g && c.p == p) = false := by
      cases hg : c.g with
      | true => rfl
      | false => simpa using fun hp => h ⟨hg, hp⟩
    simp [e]
theorem allF_snoc (l : List Cw) (c : Cw) (p : List UInt8) : allF (l ++ [c]) p = allF l p + (if c.g = false ∧ c.p = p then c.n else 0) := by
  unfold allF
  rw [List.filter_append, List.map_append, List.sum_append]
  by_cases h : c.g = false ∧ c.p = p
  · rw [if_pos h]; simp [h.1, h.2]
  · rw [if_neg h]
    have e : (!c.g && c.p == p) = false := by
      cases hg : c.g with
      | true => rfl
      | false => simpa using fun hp => h ⟨hg, hp⟩
    simp [e]
theorem nowF_snoc (l : List Cw) (c : Cw) (p : List UInt8) : nowF (l ++ [c]) p = nowStep p (nowF l p) c := by
  unfold nowF; rw [List.foldl_append]; rfl
theorem snoc_ind {P : List Cw → Prop} (h0 : P []) (h1 : ∀ l a, P l → P (l ++ [a])) : ∀ l, P l := fun l => by
  have : ∀ l : List Cw, P l.reverse := fun l => by
    induction l with
    | nil => exact h0
    | cons x r ih => rw [List.reverse_cons]; exact h1 _ _ ih
  rw [← List.reverse_reverse l]
  exact this _
/-- the map holds of each path what it costs -/
theorem costs_get (p : List UInt8) : ∀ (l : List Cw), getM (costsM l) p = costF l p := by
  refine snoc_ind rfl fun l c ih => ?_
  · have e : costsM (l ++ [c]) = stepM (costsM l) c := by unfold costsM; rw [List.foldl_append]; rfl
    rw [e]
    unfold stepM costF
    rw [timesF_snoc, allF_snoc, nowF_snoc]
    unfold nowStep
    cases hg : c.g with
    | true =>
      rw [if_pos rfl, getM_gone, ih]
      unfold costF
      simp only [Bool.true_eq_false, false_and, if_false, Nat.add_zero, if_true]
      by_cases h0 : timesF l p = 0
      · rw [if_pos h0, if_pos h0]; rfl
      · rw [if_neg h0, if_neg h0]
        by_cases hh : hits c.p p = true
        · simp [hh]
        · simp [hh]
    | false =>
      rw [if_neg (by decide)]
      simp only [true_and, Bool.false_eq_true, if_false]
      unfold putM
      by_cases hp : c.p = p
      · subst hp
        rw [ih]
        unfold costF
        by_cases h0 : timesF l c.p = 0
        · rw [if_pos h0]
          simp only []
          rw [getM_append, ih]
          unfold costF
          rw [if_pos h0]
          have hz : allF l c.p = 0 := by
            unfold timesF at h0
            unfold allF
            rw [List.length_eq_zero_iff.1 h0]
            rfl
          simp [h0, hz]
        · rw [if_neg h0]
          simp only []
          rw [getM_turn (f := fun x => ⟨x.t + 1, x.all + c.n, c.n⟩), ih]
          unfold costF
          rw [if_neg h0]
          simp
      · have hp2 : ¬ p = c.p := fun x => hp x.symm
        simp only [if_neg hp, Nat.add_zero]
        cases hq : getM (costsM l) c.p with
        | none =>
          simp only []
          rw [getM_append, ih, if_neg hp]
          unfold costF
          simp
        | some y =>
          simp only []
          rw [getM_turn (f := fun x => ⟨x.t + 1, x.all + c.n, c.n⟩), ih]
          unfold costF
          by_cases h0 : timesF l p = 0
          · rw [if_pos h0]; rfl
          · rw [if_neg h0]; simp [hp2]
/-! ## the reference -/
def staysF (c : Cw) (r : List Cw) : Bool := !c.g && r.all fun x => !(x.p == c.p || (x.g && belowP x.p c.p))
def bringsF (c : Cw) : Nat := if c.g = true then 0 else c.n
def leastR : List Cw → Nat
  | [] => 0
  | c :: r => (if staysF c r = true then bringsF c else 0) + leastR r
def stayR (p : List UInt8) : List Cw → Nat
  | [] => 0
  | c :: r => (if c.p = p ∧ staysF c r = true then bringsF c else 0) + stayR p r
def lostR (p : List UInt8) : List Cw → Nat
  | [] => 0
  | c :: r => (if c.p = p ∧ staysF c r = false then bringsF c else 0) + lostR p r
theorem leastR_cons (c : Cw) (r : List Cw) : leastR (c :: r) = (if staysF c r = true then bringsF c else 0) + leastR r := rfl
theorem stayR_cons (p : List UInt8) (c : Cw) (r : List Cw) : stayR p (c :: r) = (if c.p = p ∧ staysF c r = true then bringsF c else 0) + stayR p r := rfl
theorem lostR_cons (p : List UInt8) (c : Cw) (r : List Cw) : lostR p (c :: r) = (if c.p = p ∧ staysF c r = false then bringsF c else 0) + lostR p r := rfl
theorem allF_cons (c : Cw) (r : List Cw) (p : List UInt8) : allF (c :: r) p = (if c.p = p then bringsF c else 0) + allF r p := by
  unfold allF bringsF
  rw [List.filter_cons]
  cases hg : c.g with
  | true => simp
  | false =>
    by_cases h : c.p = p
    · simp [h]
    · have e : (c.p == p) = false := by simpa using h
      simp [e, h]
theorem all_parts (p : List UInt8) : ∀ l : List Cw, stayR p l + lostR p l = allF l p
  | [] => rfl
  | c :: r => by
    rw [allF_cons, ← all_parts p r, stayR_cons, lostR_cons]
    by_cases h : c.p = p
    · cases hs : staysF c r <;> simp [h] <;> omega
    · simp [h]
def touches (p : List UInt8) (c : Cw) : Bool := c.p == p || (c.g && belowP c.p p)
theorem now_stay (p : List UInt8) : ∀ (l : List Cw) (a : Nat), l.foldl (nowStep p) a = if l.any (touches p) = true then stayR p l else a
  | [], a => rfl
  | c :: r, a => by
    rw [List.foldl_cons, now_stay p r, List.any_cons, stayR_cons]
    by_cases hr : r.any (touches p) = true
    · rw [if_pos hr, if_pos (by rw [hr]; simp)]
      have : ¬ (c.p = p ∧ staysF c r = true) := fun ⟨h1, h2⟩ => by
        unfold staysF at h2
        rw [Bool.and_eq_true] at h2
        obtain ⟨x, hx, hx2⟩ := List.any_eq_true.1 hr
        have := List.all_eq_true.1 h2.2 x hx
        unfold touches at hx2
        rw [h1, hx2] at this
        cases this
      rw [if_neg this, Nat.zero_add]
    · rw [if_neg hr]
      have hr0 : r.any (touches p) = false := by simpa using hr
      have hs : stayR p r = 0 := by
        clear hr
        induction r with
        | nil => rfl
        | cons x r ih =>
          rw [List.any_cons, Bool.or_eq_false_iff] at hr0
          rw [stayR_cons]
          have hx : ¬ x.p = p := fun e => by
            have := hr0.1
            unfold touches at this
            rw [e] at this
            simp at this
          rw [if_neg (fun h => hx h.1), ih hr0.2]
      rw [hs, hr0, Bool.or_false, Nat.add_zero]
      unfold nowStep bringsF
      have hst : c.p = p → c.g = false → staysF c r = true := fun h1 h2 => by
        unfold staysF
        rw [h2, Bool.and_eq_true]
        refine ⟨rfl, List.all_eq_true.2 fun x hx => ?_⟩
        have := List.any_eq_false.1 hr0 x hx
        unfold touches at this
        rw [h1]
        simp only [Bool.not_eq_true] at this
        rw [this]
        rfl
      cases hg : c.g with
      | true =>
        have hst2 : staysF c r = false := by unfold staysF; rw [hg]; rfl
        by_cases hh : hits c.p p = true
        · have ht : touches p c = true := by
            unfold hits at hh
            unfold touches
            rw [hg]
            simp only [Bool.or_eq_true, decide_eq_true_eq] at hh
            rcases hh with h | h
            · simp [h]
            · simp [h]
          rw [ht, if_pos rfl, if_pos hh, if_pos rfl, if_neg (fun h => by rw [hst2] at h; cases h.2)]
        · have ht : touches p c = false := by
            unfold hits at hh
            unfold touches
            rw [hg]
            simp only [Bool.or_eq_true, decide_eq_true_eq, not_or] at hh
            have h1 : (c.p == p) = false := by simpa using fun e => hh.1 e.symm
            have h2 : belowP c.p p = false := by simpa using hh.2
            rw [h1, h2]; rfl
          rw [ht, if_pos rfl, if_neg hh, if_neg (by decide)]
      | false =>
        rw [if_neg (by decide)]
        by_cases h : c.p = p
        · have hs2 := hst h hg
          have ht : touches p c = true := by unfold touches; simp [h]
          rw [if_pos h, ht, if_pos rfl, if_pos ⟨h, hs2⟩, if_neg (by decide)]
        · have ht : touches p c = false := by
            unfold touches
            have e : (c.p == p) = false := by simpa using h
            rw [e, hg]; rfl
          rw [if_neg h, ht, if_neg (by decide)]
theorem now_is (p : List UInt8) (l : List Cw) : nowF l p = stayR p l := by
  unfold nowF
  rw [now_stay]
  by_cases h : l.any (touches p) = true
  · rw [if_pos h]
  · rw [if_neg h]
    have h0 : l.any (touches p) = false := by simpa using h
    clear h
    induction l with
    | nil => rfl
    | cons x r ih =>
      rw [List.any_cons, Bool.or_eq_false_iff] at h0
      rw [stayR_cons]
      have hx : ¬ x.p = p := fun e => by
        have := h0.1
        unfold touches at this
        rw [e] at this
        simp at this
      rw [if_neg (fun h => hx h.1), ← ih h0.2]
/-- what is in vain at a path, as the reference says it -/
theorem lost_is (p : List UInt8) (l : List Cw) : nowF l p + lostR p l = allF l p := by rw [now_is, all_parts]
/-- what is there in the end: told by the paths of the map, and as the reference says it -/
theorem least_is : ∀ (l : List Cw) (K : List (List UInt8)), K.Nodup → (∀ c ∈ l, c.g = false → c.p ∈ K) → (K.map fun p => stayR p l).sum = leastR l
  | [], K, _, _ => by
    unfold leastR
    induction K with
    | nil => rfl
    | cons x r ih => 
      rename_i h _
      rw [List.map_cons, List.sum_cons, ih (List.nodup_cons.1 h).2 (fun c hc => by cases hc)]; rfl
  | c :: r, K, hK, hc => by
    rw [leastR_cons, ← least_is r K hK fun x hx => hc x (List.mem_cons_of_mem _ hx)]
    have key : ∀ (K : List (List UInt8)), K.Nodup → (K.map fun p => stayR p (c :: r)).sum = (if staysF c r = true ∧ c.p ∈ K then bringsF c else 0) + (K.map fun p => stayR p r).sum := by
      intro K
      induction K with
      | nil => intro _; simp
      | cons x k ih =>
        intro hn
        have hn2 := List.nodup_cons.1 hn
        rw [List.map_cons, List.sum_cons, List.map_cons, List.sum_cons, ih hn2.2]
        rw [stayR_cons]
        by_cases hs : staysF c r = true
        · by_cases hx : c.p = x
          · have : ¬ c.p ∈ k := by rw [hx]; exact hn2.1
            simp [hs, hx, this]
            have h3 : x ∉ k := hn2.1
            simp [h3]
            omega
          · simp [hs, hx]
            omega
        · simp [hs]
    rw [key K hK]
    by_cases hs : staysF c r = true
    · have hg : c.g = false := by
        unfold staysF at hs
        cases hg : c.g with
        | false => rfl
        | true => rw [hg] at hs; cases hs
      rw [if_pos hs, if_pos ⟨hs, hc c (List.mem_cons_self ..) hg⟩]
    · rw [if_neg hs, if_neg (fun h => hs h.1)]
/-! ## the worst first -/
structure LostN where
  p : List UInt8
  t : Nat
  b : Nat
def aheadB (a b : LostN) : Bool := if a.b = b.b then decide (compareP a.p b.p < 0) else decide (b.b < a.b)
theorem ahead_iff {a b : LostN} : aheadB a b = true ↔ b.b < a.b ∨ (a.b = b.b ∧ compareP a.p b.p < 0) := by
  unfold aheadB
  by_cases h : a.b = b.b
  · rw [if_pos h, decide_eq_true_eq]
    constructor
    · exact fun k => .inr ⟨h, k⟩
    · rintro (k | k)
      · omega
      · exact k.2
  · rw [if_neg h, decide_eq_true_eq]
    constructor
    · exact fun k => .inl k
    · rintro (k | k)
      · exact k
      · exact absurd k.1 h
theorem ahead_irrefl (a : LostN) : ¬ aheadB a a = true := fun h => by
  rcases ahead_iff.1 h with h | h
  · omega
  · exact compareP_irrefl _ h.2
theorem ahead_trans {a b c : LostN} (h : aheadB a b = true) (k : aheadB b c = true) : aheadB a c = true := by
  rw [ahead_iff] at h k ⊢
  rcases h with h | h <;> rcases k with k | k
  · exact .inl (by omega)
  · exact .inl (by omega)
  · exact .inl (by omega)
  · exact .inr ⟨by omega, compareP_trans h.2 k.2⟩
theorem ahead_total {a b : LostN} (hne : a.p ≠ b.p) (h : ¬ aheadB a b = true) : aheadB b a = true := by
  rw [ahead_iff] at h ⊢
  by_cases h1 : a.b < b.b
  · exact .inl h1
  · by_cases h2 : a.b = b.b
    · refine .inr ⟨h2.symm, ?_⟩
      rw [compareP_flip]
      have h3 : ¬ compareP a.p b.p < 0 := fun x => h (.inr ⟨h2, x⟩)
      have h4 : compareP a.p b.p ≠ 0 := fun x => hne (compareP_zero.1 x)
      omega
    · exact absurd (.inl (by omega)) h
/-- in order there is one list alone of the same things -/
theorem sorted_one : ∀ {A B : List LostN}, A.Pairwise (fun a b => aheadB a b = true) → B.Pairwise (fun a b => aheadB a b = true) → (∀ x, x ∈ A ↔ x ∈ B) → A = B
  | [], [], _, _, _ => rfl
  | [], b :: B, _, _, h => by have := (h b).2 (List.mem_cons_self ..); cases this
  | a :: A, [], _, _, h => by have := (h a).1 (List.mem_cons_self ..); cases this
  | a :: A, b :: B, hA, hB, h => by
    have hA2 := List.pairwise_cons.1 hA
    have hB2 := List.pairwise_cons.1 hB
    have e : a = b := by
      rcases List.mem_cons.1 ((h a).1 (List.mem_cons_self ..)) with e | h1
      · exact e
      · rcases List.mem_cons.1 ((h b).2 (List.mem_cons_self ..)) with e | h2
        · exact e.symm
        · exact absurd (ahead_trans (hA2.1 b h2) (hB2.1 a h1)) (ahead_irrefl _)
    subst e
    rw [sorted_one hA2.2 hB2.2 fun x => ?_]
    constructor
    · intro hx
      rcases List.mem_cons.1 ((h x).1 (List.mem_cons_of_mem _ hx)) with e | k
      · subst e; exact absurd (hA2.1 _ hx) (ahead_irrefl _)
      · exact k
    · intro hx
      rcases List.mem_cons.1 ((h x).2 (List.mem_cons_of_mem _ hx)) with e | k
      · subst e; exact absurd (hB2.1 _ hx) (ahead_irrefl _)
      · exact k
def insW : List LostN → LostN → List LostN
  | [], x => [x]
  | y :: w, x => if aheadB y x = true then y :: insW w x else x :: y :: w
theorem mem_insW {x z : LostN} : ∀ {w : List LostN}, z ∈ insW w x ↔ z = x ∨ z ∈ w
  | [] => by simp [insW]
  | y :: w => by
    unfold insW
    by_cases h : aheadB y x = true
    · rw [if_pos h, List.mem_cons, List.mem_cons, mem_insW]
      constructor
      · rintro (h | h | h)
        · exact .inr (.inl h)
        · exact .inl h
        · exact .inr (.inr h)
      · rintro (h | h | h)
        · exact .inr (.inl h)
        · exact .inl h
        · exact .inr (.inr h)
    · rw [if_neg h, List.mem_cons]
theorem sorted_ins {x : LostN} : ∀ {w : List LostN}, w.Pairwise (fun a b => aheadB a b = true) → (∀ y ∈ w, y.p ≠ x.p) → (insW w x).Pairwise (fun a b => aheadB a b = true)
  | [], _, _ => List.pairwise_singleton _ _
  | y :: w, hw, hne => by
    have hw2 := List.pairwise_cons.1 hw
    unfold insW
    by_cases h : aheadB y x = true
    · rw [if_pos h]
      refine List.pairwise_cons.2 ⟨fun z hz => ?_, sorted_ins hw2.2 fun z hz => hne z (List.mem_cons_of_mem _ hz)⟩
      rcases mem_insW.1 hz with e | hz
      · subst e; exact h
      · exact hw2.1 z hz
    · rw [if_neg h]
      have hx := ahead_total (hne y (List.mem_cons_self ..)) h
      refine List.pairwise_cons.2 ⟨fun z hz => ?_, hw⟩
      rcases List.mem_cons.1 hz with e | hz
      · subst e; exact hx
      · exact ahead_trans hx (hw2.1 z hz)
def lostN (l : List Cw) (p : List UInt8) : LostN := ⟨p, timesF l p, lostR p l⟩
/-- as the reference goes: at each path's first change -/
def worstGo (l : List Cw) : List (List UInt8) → List Cw → List LostN → List LostN
  | _, [], w => w
  | seen, c :: r, w => if c.p ∈ seen ∨ lostR c.p l = 0 then worstGo l (c.p :: seen) r w else worstGo l (c.p :: seen) r (insW w (lostN l c.p))
theorem worstGo_law (l : List Cw) : ∀ (r : List Cw) (seen : List (List UInt8)) (w : List LostN), w.Pairwise (fun a b => aheadB a b = true) → (∀ x, x ∈ w ↔ ∃ p ∈ seen, lostR p l ≠ 0 ∧ x = lostN l p) →
    (worstGo l seen r w).Pairwise (fun a b => aheadB a b = true) ∧ ∀ x, x ∈ worstGo l seen r w ↔ ∃ p, (p ∈ seen ∨ ∃ c ∈ r, c.p = p) ∧ lostR p l ≠ 0 ∧ x = lostN l p
  | [], seen, w, h1, h2 => ⟨h1, fun x => (h2 x).trans ⟨fun ⟨p, a, b⟩ => ⟨p, .inl a, b⟩, fun ⟨p, a, b⟩ => by
    rcases a with a | ⟨c, hc, _⟩
    · exact ⟨p, a, b⟩
    · cases hc⟩⟩
  | c :: r, seen, w, h1, h2 => by
    unfold worstGo
    have fin : ∀ x p, ((p ∈ c.p :: seen ∨ ∃ d ∈ r, d.p = p) ∧ lostR p l ≠ 0 ∧ x = lostN l p) ↔ ((p ∈ seen ∨ ∃ d ∈ c :: r, d.p = p) ∧ lostR p l ≠ 0 ∧ x = lostN l p) := fun x p => by
      refine and_congr_left fun _ => ?_
      rw [List.mem_cons]
      constructor
      · rintro ((h | h) | ⟨d, h, k⟩)
        · exact .inr ⟨c, List.mem_cons_self .., h.symm⟩
        · exact .inl h
        · exact .inr ⟨d, List.mem_cons_of_mem _ h, k⟩
      · rintro (h | ⟨d, h, k⟩)
        · exact .inl (.inr h)
        · rcases List.mem_cons.1 h with e | h
          · subst e; exact .inl (.inl k.symm)
          · exact .inr ⟨d, h, k⟩
    by_cases h : c.p ∈ seen ∨ lostR c.p l = 0
    · rw [if_pos h]
      obtain ⟨q1, q2⟩ := worstGo_law l r (c.p :: seen) w h1 (fun x => (h2 x).trans ⟨fun ⟨p, a, b⟩ => ⟨p, List.mem_cons_of_mem _ a, b⟩, fun ⟨p, a, b⟩ => by
        rcases List.mem_cons.1 a with e | a
        · subst e
          rcases h with h | h
          · exact ⟨_, h, b⟩
          · exact absurd h b.1
        · exact ⟨p, a, b⟩⟩)
      exact ⟨q1, fun x => (q2 x).trans (exists_congr fun p => fin x p)⟩
    · rw [if_neg h]
      rw [not_or] at h
      obtain ⟨q1, q2⟩ := worstGo_law l r (c.p :: seen) (insW w (lostN l c.p)) (sorted_ins h1 fun y hy => by
        obtain ⟨p, hp, _, e⟩ := (h2 y).1 hy
        subst e
        intro e
        exact h.1 ((show p = c.p from e) ▸ hp)) (fun x => by
        rw [mem_insW, h2 x]
        constructor
        · rintro (e | ⟨p, a, b⟩)
          · exact ⟨c.p, List.mem_cons_self .., h.2, e⟩
          · exact ⟨p, List.mem_cons_of_mem _ a, b⟩
        · rintro ⟨p, a, b⟩
          rcases List.mem_cons.1 a with e | a
          · subst e; exact .inl b.2
          · exact .inr ⟨p, a, b⟩)
      exact ⟨q1, fun x => (q2 x).trans (exists_congr fun p => fin x p)⟩
def worstR (l : List Cw) : List LostN := worstGo l [] l []
/-- what the reference lists -/
theorem worstR_law (l : List Cw) : (worstR l).Pairwise (fun a b => aheadB a b = true) ∧ ∀ x, x ∈ worstR l ↔ ∃ c ∈ l, lostR c.p l ≠ 0 ∧ x = lostN l c.p := by
  obtain ⟨q1, q2⟩ := worstGo_law l l [] [] List.Pairwise.nil (fun x => by simp)
  refine ⟨q1, fun x => (q2 x).trans ⟨?_, ?_⟩⟩
  · rintro ⟨p, a, b⟩
    rcases a with a | ⟨c, hc, e⟩
    · cases a
    · subst e; exact ⟨c, hc, b⟩
  · rintro ⟨c, hc, b⟩
    exact ⟨c.p, .inr ⟨c, hc, rfl⟩, b⟩
/-! ## the map's entries -/
theorem keys_gone (M : CostM) (d : List UInt8) : (goneM M d).map (·.1) = M.map (·.1) := by
  unfold goneM
  rw [List.map_map]
  refine List.map_congr_left fun x _ => ?_
  simp only [Function.comp_apply]
  split <;> rfl
theorem getM_none {M : CostM} {p : List UInt8} : getM M p = none ↔ p ∉ M.map (·.1) := by
  unfold getM
  rw [Option.map_eq_none_iff, List.find?_eq_none]
  constructor
  · intro h hp
    obtain ⟨x, hx, e⟩ := List.mem_map.1 hp
    exact absurd (by simpa using e) (h x hx)
  · intro h x hx e
    exact h (List.mem_map.2 ⟨x, hx, by simpa using e⟩)
theorem keys_put (M : CostM) (p : List UInt8) (n : Nat) : (putM M p n).map (·.1) = if p ∈ M.map (·.1) then M.map (·.1) else M.map (·.1) ++ [p] := by
  unfold putM
  cases h : getM M p with
  | none =>
    rw [if_neg (getM_none.1 h)]
    simp
  | some c =>
    have hp : p ∈ M.map (·.1) := by
      by_cases hp : p ∈ M.map (·.1)
      · exact hp
      · rw [getM_none.2 hp] at h; cases h
    rw [if_pos hp]
    simp only [List.map_map]
    refine List.map_congr_left fun x _ => ?_
    simp only [Function.comp_apply]
    split <;> rfl
theorem costs_keys : ∀ l : List Cw, ((costsM l).map (·.1)).Nodup ∧ ∀ p, p ∈ (costsM l).map (·.1) ↔ ∃ c ∈ l, c.g = false ∧ c.p = p := by
  refine snoc_ind ⟨List.nodup_nil, fun p => ⟨fun h => (by cases h), fun ⟨c, h, _⟩ => (by cases h)⟩⟩ fun l c ih => ?_
  have e : costsM (l ++ [c]) = stepM (costsM l) c := by unfold costsM; rw [List.foldl_append]; rfl
  rw [e]
  unfold stepM
  have ext : ∀ p, (∃ x ∈ l ++ [c], x.g = false ∧ x.p = p) ↔ (∃ x ∈ l, x.g = false ∧ x.p = p) ∨ (c.g = false ∧ c.p = p) := fun p => by
    constructor
    · rintro ⟨x, hx, h⟩
      rcases List.mem_append.1 hx with hx | hx
      · exact .inl ⟨x, hx, h⟩
      · rw [List.mem_singleton.1 hx] at h; exact .inr h
    · rintro (⟨x, hx, h⟩ | h)
      · exact ⟨x, List.mem_append_left _ hx, h⟩
      · exact ⟨c, List.mem_append_right _ (List.mem_singleton.2 rfl), h⟩
  cases hg : c.g with
  | true =>
    rw [if_pos rfl, keys_gone]
    refine ⟨ih.1, fun p => ?_⟩
    rw [ih.2 p, ext p, hg]
    simp
  | false =>
    rw [if_neg (by decide), keys_put]
    by_cases hm : c.p ∈ (costsM l).map (·.1)
    · rw [if_pos hm]
      refine ⟨ih.1, fun p => ?_⟩
      rw [ih.2 p, ext p]
      refine ⟨fun h => .inl h, ?_⟩
      rintro (h | ⟨_, h⟩)
      · exact h
      · subst h; exact (ih.2 c.p).1 hm
    · rw [if_neg hm]
      refine ⟨?_, fun p => ?_⟩
      · rw [List.nodup_append]
        refine ⟨ih.1, by simp, fun a ha b hb => ?_⟩
        rw [List.mem_singleton.1 hb]
        exact fun e => hm (e ▸ ha)
      · rw [List.mem_append, ih.2 p, ext p, List.mem_singleton]
        refine or_congr_right ⟨fun h => ⟨hg, h.symm⟩, fun h => h.2.symm⟩
theorem getM_mem {M : CostM} (hn : (M.map (·.1)).Nodup) {x : List UInt8 × Cost} (hx : x ∈ M) : getM M x.1 = some x.2 := by
  induction M with
  | nil => cases hx
  | cons y r ih =>
    have hn2 := List.nodup_cons.1 (show (y.1 :: r.map (·.1)).Nodup from hn)
    unfold getM
    rw [List.find?_cons]
    rcases List.mem_cons.1 hx with e | hx
    · subst e; simp
    · have hne : (y.1 == x.1) = false := by
        rw [beq_eq_false_iff_ne]
        exact fun e => hn2.1 (e ▸ List.mem_map.2 ⟨x, hx, rfl⟩)
      simp only [hne]
      exact ih hn2.2 hx
/-- each entry of the map -/
theorem costs_mem {l : List Cw} {x : List UInt8 × Cost} (hx : x ∈ costsM l) : x.2 = ⟨timesF l x.1, allF l x.1, nowF l x.1⟩ := by
  have h := getM_mem (costs_keys l).1 hx
  rw [costs_get] at h
  unfold costF at h
  by_cases h0 : timesF l x.1 = 0
  · rw [if_pos h0] at h; cases h
  · rw [if_neg h0] at h; exact (Option.some.inj h).symm
/-- the program's sum of what is there -/
theorem costs_least (l : List Cw) : ((costsM l).map fun x => x.2.now).sum = leastR l := by
  have h := costs_keys l
  rw [← least_is l ((costsM l).map (·.1)) h.1 (fun c hc hg => (h.2 c.p).2 ⟨c, hc, hg, rfl⟩), List.map_map]
  refine congrArg List.sum (List.map_congr_left fun x hx => ?_)
  rw [costs_mem hx]
  exact now_is _ _
/-- what the program sorts: the same things as the reference lists -/
theorem costs_worst (l : List Cw) (y : LostN) : y ∈ ((costsM l).filter fun x => decide (x.2.now < x.2.all)).map (fun x => ⟨x.1, x.2.t, x.2.all - x.2.now⟩) ↔ y ∈ worstR l := by
  have hk := costs_keys l
  rw [(worstR_law l).2 y]
  have one : ∀ x ∈ costsM l, x.2.all - x.2.now = lostR x.1 l := fun x hx => by
    have := costs_mem hx
    have h2 := lost_is x.1 l
    rw [this]
    simp only []
    omega
  have tim : ∀ x ∈ costsM l, x.2.t = timesF l x.1 := fun x hx => by rw [costs_mem hx]
  constructor
  · intro h
    obtain ⟨x, hx, e⟩ := List.mem_map.1 h
    obtain ⟨hx1, hx2⟩ := List.mem_filter.1 hx
    obtain ⟨c, hc, _, hp⟩ := (hk.2 x.1).1 (List.mem_map.2 ⟨x, hx1, rfl⟩)
    have h1 := one x hx1
    have h2 : x.2.now < x.2.all := by simpa using hx2
    refine ⟨c, hc, by rw [hp]; omega, ?_⟩
    rw [← e, hp]
    unfold lostN
    rw [h1, tim x hx1]
  · rintro ⟨c, hc, h0, e⟩
    have hg : ∃ d ∈ l, d.g = false ∧ d.p = c.p := by
      apply Classical.byContradiction
      intro hno
      apply h0
      have : ∀ (r : List Cw), (∀ d ∈ r, ¬ (d.g = false ∧ d.p = c.p)) → lostR c.p r = 0 := by
        intro r
        induction r with
        | nil => intro _; rfl
        | cons d r ih =>
          intro hr
          rw [lostR_cons, ih fun x hx => hr x (List.mem_cons_of_mem _ hx)]
          have := hr d (List.mem_cons_self ..)
          by_cases hd : d.p = c.p
          · have : d.g = true := by
              cases hg : d.g with
              | true => rfl
              | false => exact absurd ⟨hg, hd⟩ this
            unfold bringsF
            simp [this]
          · simp [hd]
      exact this l fun d hd hh => hno ⟨d, hd, hh⟩
    obtain ⟨x, hx, hxp⟩ := List.mem_map.1 ((hk.2 c.p).2 hg)
    have h1 := one x hx
    rw [hxp] at h1
    refine List.mem_map.2 ⟨x, List.mem_filter.2 ⟨hx, by simp; omega⟩, ?_⟩
    rw [e]
    unfold lostN
    rw [h1, tim x hx, hxp]
/-! ## the sums -/
def totalR (l : List Cw) : Nat := (l.map bringsF).sum
theorem lost_sum : ∀ (l : List Cw) (K : List (List UInt8)), K.Nodup → (∀ c ∈ l, c.g = false → c.p ∈ K) → (K.map fun p => lostR p l).sum + leastR l = totalR l
  | [], K, _, _ => by
    have : ∀ K : List (List UInt8), (K.map fun p => lostR p []).sum = 0 := fun K => by
      induction K with
      | nil => rfl
      | cons x r ih => rw [List.map_cons, List.sum_cons, ih]; rfl
    rw [this]; rfl
  | c :: r, K, hK, hc => by
    have ih := lost_sum r K hK fun x hx => hc x (List.mem_cons_of_mem _ hx)
    have key : ∀ (K : List (List UInt8)), K.Nodup → (K.map fun p => lostR p (c :: r)).sum = (if staysF c r = false ∧ c.p ∈ K then bringsF c else 0) + (K.map fun p => lostR p r).sum := by
      intro K
      induction K with
      | nil => intro _; simp
      | cons x k ih =>
        intro hn
        have hn2 := List.nodup_cons.1 hn
        rw [List.map_cons, List.sum_cons, List.map_cons, List.sum_cons, ih hn2.2]
        rw [lostR_cons]
        by_cases hs : staysF c r = false
        · by_cases hx : c.p = x
          · have h3 : x ∉ k := hn2.1
            simp [hs, hx, h3]
            omega
          · simp [hs, hx]
            omega
        · simp [hs]
    have ht : totalR (c :: r) = bringsF c + totalR r := by unfold totalR; rw [List.map_cons, List.sum_cons]
    rw [key K hK, leastR_cons, ht, ← ih]
    by_cases hs : staysF c r = false
    · have hl : (if staysF c r = true then bringsF c else 0) = 0 := if_neg (by rw [hs]; decide)
      rw [hl]
      by_cases hm : c.p ∈ K
      · rw [if_pos ⟨hs, hm⟩]; omega
      · rw [if_neg fun h => hm h.2]
        have hg : c.g = true := by
          cases hg : c.g with
          | true => rfl
          | false => exact absurd (hc c (List.mem_cons_self ..) hg) hm
        have : bringsF c = 0 := by unfold bringsF; rw [if_pos hg]
        omega
    · rw [if_neg fun h => hs h.1, if_pos (by simpa using hs)]; omega
/-- what is in vain and what is there are together all that is brought -/
theorem costs_sum (l : List Cw) : (((costsM l).filter fun x => decide (x.2.now < x.2.all)).map fun x => x.2.all - x.2.now).sum + leastR l = totalR l := by
  have h := costs_keys l
  rw [← lost_sum l ((costsM l).map (·.1)) h.1 (fun c hc hg => (h.2 c.p).2 ⟨c, hc, hg, rfl⟩), List.map_map]
  have e : (costsM l).map ((fun p => lostR p l) ∘ (·.1)) = (costsM l).map fun x => x.2.all - x.2.now := List.map_congr_left fun x hx => by
    have h2 := lost_is x.1 l
    rw [costs_mem hx]
    simp only [Function.comp_apply]
    omega
  rw [e]
  have drop : ∀ M : CostM, ((M.filter fun x => decide (x.2.now < x.2.all)).map fun x => x.2.all - x.2.now).sum = (M.map fun x => x.2.all - x.2.now).sum := fun M => by
    induction M with
    | nil => rfl
    | cons x r ih =>
      rw [List.filter_cons]
      by_cases hx : x.2.now < x.2.all
      · rw [if_pos (by simpa using hx), List.map_cons, List.sum_cons, List.map_cons, List.sum_cons, ih]
      · rw [if_neg (by simpa using hx), List.map_cons, List.sum_cons, ih]; omega
  rw [drop]
end
end Go.Proofs.YtfanfkogogijpaaGreatDoor
namespace Go.Proofs.YtfanfkogogijpaaGreatDoor
section
open Go.RowKit Go.Maps
theorem Tryz.wkeyed_str : Keyed Tryz.prog 9 := string_keyed Tryz.underlying9
theorem Tryz.zero_cost (w : World) : (zeroValue 50).run Tryz.prog w = .ok (.pointer none) w := by kernel_rfl
/-- a pointer as a map's element reads -/
def ptrE : Value → Option (DataW Nat × List MemPlace)
  | .pointer (some ⟨b, 0, none⟩) => some (.lit (.int .i64 (b : Int)), [])
  | .pointer none => some (.nil, [])
  | _ => none
def ptrV : Option Nat → Value
  | none => .pointer none
  | some b => .pointer (some ⟨b, 0, none⟩)
def ptrD : Option Nat → DataW Nat
  | none => .nil
  | some b => .lit (.int .i64 (b : Int))
theorem ptrE_v (o : Option Nat) : ptrE (ptrV o) = some (ptrD o, []) := by cases o <;> rfl
theorem ptrE_shape {v : Value} {y : DataW Nat × List MemPlace} (h : ptrE v = some y) : ∃ o, v = ptrV o ∧ y = (ptrD o, []) := by
  unfold ptrE at h
  split at h
  · exact ⟨some _, rfl, (Option.some.inj h).symm⟩
  · exact ⟨none, rfl, (Option.some.inj h).symm⟩
  · cases h
theorem ptrD_inj {a b : Option Nat} (h : ptrD a = ptrD b) : a = b := by
  cases a <;> cases b <;> simp [ptrD] at h ⊢
  omega
theorem ptrE_inv {v : Value} {o : Option Nat} {ps : List MemPlace} (h : ptrE v = some (ptrD o, ps)) : v = ptrV o := by
  obtain ⟨o', rfl, e⟩ := ptrE_shape h
  injection e with e1 _
  rw [ptrD_inj e1]
def costC (x : Cost) : Array Value := #[.int .i64 (x.t : Int), .int .i64 (x.all : Int), .int .i64 (x.now : Int)]
def costObj (x : Cost) : Obj := .cells (costC x) 53 (0, 0)
theorem wkey_text {c : ByteArray} (hc : c.size ≤ maxLen) : keyOf Tryz.prog 9 (.string c) = some (.string c.data.toList) := WideMaps.keyOf_string_mk Tryz.underlying9 hc
theorem key_inv {key : Value} {kl : Lit} (h : keyOf Tryz.prog 9 key = some kl) : ∃ x : ByteArray, key = .string x ∧ kl = .string x.data.toList ∧ x.size ≤ maxLen := by
  cases key <;> simp [keyOf, Tryz.underlying9, mapKey] at h
  rename_i s
  refine ⟨s, rfl, h.2.symm, ?_⟩
  have := h.1
  simpa [Lit.wf] using this
/-- what the map of costs reads as -/
structure CostD (D : DataW Nat) (bl : List UInt8 → Nat) (f : List UInt8 → Option Cost) : Prop where
  at_ : ∀ c, D.atKey (.string c) .nil = ptrD ((f c).map fun _ => bl c)
  has : ∀ k, Maps.has D k = true → ∃ c, k = .string c ∧ f c ≠ none
theorem CostD.conv {D : DataW Nat} {bl : List UInt8 → Nat} {f : List UInt8 → Option Cost} (h : CostD D bl f) {c : List UInt8} (hc : f c ≠ none) : Maps.has D (.string c) = true := by
  cases hh : Maps.has D (.string c) with
  | true => rfl
  | false =>
    have h1 := h.at_ c
    rw [Maps.atKey_of_not_has hh] at h1
    cases hf : f c with
    | none => exact absurd hf hc
    | some x => rw [hf] at h1; cases h1
theorem CostD.congr {D : DataW Nat} {bl : List UInt8 → Nat} {f g : List UInt8 → Option Cost} (h : CostD D bl f) (he : ∀ c, (g c = none ↔ f c = none)) : CostD D bl g := by
  refine ⟨fun c => ?_, fun k hk => ?_⟩
  · rw [h.at_ c]
    have := he c
    cases hf : f c <;> cases hg : g c
    · rfl
    · rw [hf, hg] at this; simp at this
    · rw [hf, hg] at this; simp at this
    · rfl
  · obtain ⟨c, h1, h2⟩ := h.has k hk
    exact ⟨c, h1, fun e => h2 ((he c).1 e)⟩
/-- the costs stand -/
structure CostsAt (w : World) (bm B n : Nat) (D : DataW Nat) (bl : List UInt8 → Nat) (f : List UInt8 → Option Cost) : Prop where
  map : w.ownsMap Tryz.prog 9 ptrE bm n D
  cd : CostD D bl f
  obj : ∀ c x, f c = some x → w.heap[bl c]? = some (costObj x)
  lo : ∀ c x, f c = some x → B ≤ bl c
  inj : ∀ c d x y, f c = some x → f d = some y → bl c = bl d → c = d
theorem ownsMap_block {w w' : World} {m n : Nat} {D : DataW Nat} (h : w.ownsMap Tryz.prog 9 ptrE m n D) (hb : w'.heap[m]? = w.heap[m]?) : w'.ownsMap Tryz.prog 9 ptrE m n D := by
  obtain ⟨es, clock, h1, h2⟩ := h
  exact ⟨es, clock, hb.trans h1, h2⟩
theorem CostsAt.keep {w w' : World} {bm B n : Nat} {D : DataW Nat} {bl : List UInt8 → Nat} {f : List UInt8 → Option Cost} (h : CostsAt w bm B n D bl f) (hb : ∀ b, b < w.heap.size → B ≤ b ∨ b = bm → w'.heap[b]? = w.heap[b]?) : CostsAt w' bm B n D bl f :=
  ⟨ownsMap_block h.map (hb bm h.map.lt (.inr rfl)), h.cd, fun c x hx => (hb _ (heap_lt (h.obj c x hx)) (.inl (h.lo c x hx))).trans (h.obj c x hx), h.lo, h.inj⟩
theorem CostsAt.below {w w' : World} {bm B n : Nat} {D : DataW Nat} {bl : List UInt8 → Nat} {f : List UInt8 → Option Cost} (h : CostsAt w bm B n D bl f) (hb : Below w.heap.size w w') : CostsAt w' bm B n D bl f := h.keep fun b hl _ => hb.block b hl
theorem CostsAt.look {w : World} {bm B n : Nat} {D : DataW Nat} {bl : List UInt8 → Nat} {f : List UInt8 → Option Cost} (h : CostsAt w bm B n D bl f) {c : ByteArray} (hc : c.size ≤ maxLen) :
    (Instr.lookup 46 (.map (some bm)) (.string c) false).run Tryz.prog w = .ok (ptrV ((f c.data.toList).map fun _ => bl c.data.toList)) w := by
  obtain ⟨v, ps, h1, h2⟩ := h.map.lookup Tryz.wkeyed_str Tryz.underlying46 (Tryz.zero_cost w) (zd := .nil) (zp := []) rfl (wkey_text hc)
  rw [h1]
  rw [h.cd.at_] at h2
  rw [ptrE_inv h2]
/-- the law of a look-up in such a map, for the walk -/
theorem wpList_lookup_cost {w : World} {ops : Array Oper} {rest : List Oper} {o : Oper} {a : Act} {Q : Exit → Act → World → Prop}
    (hg : o.guard = none) (m x : Operand) (hop : o.op = Op.lookup 46 m x false)
    (bm B n : Nat) (D : DataW Nat) (bl : List UInt8 → Nat) (f : List UInt8 → Option Cost) (hm : a.eval m = .map (some bm)) (h : CostsAt w bm B n D bl f) (c : ByteArray) (hx : a.eval x = .string c) (hc : c.size ≤ maxLen)
    (hK : wpList Tryz.prog ops Q rest (a.put o.dst (ptrV ((f c.data.toList).map fun _ => bl c.data.toList))) w) :
    wpList Tryz.prog ops Q (o :: rest) a w := by
  refine wpList_plain hg fun K' hK' => ?_
  unfold Oper.wp
  simp [execOp, hop, hm, hx, h.look hc, Result.andThen]
  exact hK' _ _ hK
/-- a new path -/
def fPut (f : List UInt8 → Option Cost) (q : List UInt8) (y : Cost) : List UInt8 → Option Cost := fun c => if c = q then some y else f c
def bPut (bl : List UInt8 → Nat) (q : List UInt8) (b : Nat) : List UInt8 → Nat := fun c => if c = q then b else bl c
theorem CostD.put {D : DataW Nat} {bl : List UInt8 → Nat} {f : List UInt8 → Option Cost} (h : CostD D bl f) (hD : Maps.IsMap D) (q : List UInt8) (y : Cost) (b : Nat) : CostD (D.put (.string q) (ptrD (some b))) (bPut bl q b) (fPut f q y) := by
  refine ⟨fun c => ?_, fun k hk => ?_⟩
  · unfold fPut bPut
    by_cases hc : c = q
    · subst hc
      rw [Maps.atKey_put_same hD (show WideAt.IsKeyLit (Lit.string c) from trivial), if_pos rfl, if_pos rfl]
      rfl
    · rw [Maps.atKey_put_other (by intro x; exact hc (by injection x)), if_neg hc, if_neg hc]
      exact h.at_ c
  · unfold fPut
    by_cases hc : k = .string q
    · exact ⟨_, hc, by rw [if_pos rfl]; simp⟩
    · rw [Maps.has_put_other hc] at hk
      obtain ⟨c, rfl, h2⟩ := h.has k hk
      exact ⟨c, rfl, by rw [if_neg (fun x => hc (by rw [x]))]; exact h2⟩
theorem CostsAt.isMap {w : World} {bm B n : Nat} {D : DataW Nat} {bl : List UInt8 → Nat} {f : List UInt8 → Option Cost} (h : CostsAt w bm B n D bl f) : Maps.IsMap D := by
  obtain ⟨es, rfl, _⟩ := h.map.entries Tryz.wkeyed_str
  exact ⟨es, rfl⟩
/-- a cost is written -/
theorem CostsAt.set {w w' : World} {bm B n : Nat} {D : DataW Nat} {bl : List UInt8 → Nat} {f : List UInt8 → Option Cost} (h : CostsAt w bm B n D bl f) {q : List UInt8} {x : Cost} (hq : f q = some x) (y : Cost)
    (hn : w'.heap[bl q]? = some (costObj y)) (hs : ∀ b, b < w.heap.size → b ≠ bl q → w'.heap[b]? = w.heap[b]?) : CostsAt w' bm B n D bl (fPut f q y) := by
  have hmne : bm ≠ bl q := fun e => by
    obtain ⟨es, clock, h1, _⟩ := h.map
    rw [e, h.obj q x hq] at h1
    cases h1
  refine ⟨ownsMap_block h.map (hs bm h.map.lt hmne), h.cd.congr fun c => ?_, fun c z hz => ?_, fun c z hz => ?_, fun c d z z' h1 h2 e => ?_⟩
  · unfold fPut
    by_cases hc : c = q
    · subst hc; rw [if_pos rfl, hq]; simp
    · rw [if_neg hc]
  · unfold fPut at hz
    by_cases hc : c = q
    · subst hc; rw [if_pos rfl] at hz; injection hz with hz; subst hz; exact hn
    · rw [if_neg hc] at hz
      rw [hs _ (heap_lt (h.obj c z hz)) (fun e => hc (h.inj c q z x hz hq e))]
      exact h.obj c z hz
  · unfold fPut at hz
    by_cases hc : c = q
    · subst hc; exact h.lo c x hq
    · rw [if_neg hc] at hz; exact h.lo c z hz
  · have key : ∀ c z, fPut f q y c = some z → ∃ z', f c = some z' := fun c z hz => by
      unfold fPut at hz
      by_cases hc : c = q
      · subst hc; exact ⟨x, hq⟩
      · rw [if_neg hc] at hz; exact ⟨z, hz⟩
    obtain ⟨z1, k1⟩ := key c z h1
    obtain ⟨z2, k2⟩ := key d z' h2
    exact h.inj c d z1 z2 k1 k2 e
/-- a new path is laid: its block, then the map -/
theorem CostsAt.add {w w1 w' : World} {bm B n : Nat} {D : DataW Nat} {bl : List UInt8 → Nat} {f : List UInt8 → Option Cost} (h : CostsAt w bm B n D bl f) {q : List UInt8} (hq : f q = none) (y : Cost) {b : Nat}
    (hb : w.heap.size ≤ b) (hB : B ≤ b) (hm : w'.ownsMap Tryz.prog 9 ptrE bm (n + 1) (D.put (.string q) (ptrD (some b))))
    (hn : w'.heap[b]? = some (costObj y)) (hs : ∀ k, k < w.heap.size → k ≠ bm → w'.heap[k]? = w.heap[k]?) : CostsAt w' bm B (n + 1) (D.put (.string q) (ptrD (some b))) (bPut bl q b) (fPut f q y) := by
  have hne : ∀ c x, f c = some x → bl c ≠ bm := fun c x hx e => by
    obtain ⟨es, clock, h1, _⟩ := h.map
    rw [← e, h.obj c x hx] at h1
    cases h1
  refine ⟨hm, h.cd.put h.isMap q y b, fun c z hz => ?_, fun c z hz => ?_, fun c d z z' h1 h2 e => ?_⟩
  · unfold fPut at hz
    unfold bPut
    by_cases hc : c = q
    · rw [if_pos hc] at hz ⊢; injection hz with hz; subst hz; exact hn
    · rw [if_neg hc] at hz ⊢
      rw [hs _ (heap_lt (h.obj c z hz)) (hne c z hz)]
      exact h.obj c z hz
  · unfold fPut at hz
    unfold bPut
    by_cases hc : c = q
    · rw [if_pos hc]; exact hB
    · rw [if_neg hc] at hz ⊢; exact h.lo c z hz
  · unfold fPut at h1 h2
    unfold bPut at e
    by_cases hc : c = q <;> by_cases hd : d = q
    · rw [hc, hd]
    · rw [if_neg hd] at h2
      rw [if_pos hc, if_neg hd] at e
      have := heap_lt (h.obj d z' h2)
      omega
    · rw [if_neg hc] at h1
      rw [if_neg hc, if_pos hd] at e
      have := heap_lt (h.obj c z h1)
      omega
    · rw [if_neg hc] at h1
      rw [if_neg hd] at h2
      rw [if_neg hc, if_neg hd] at e
      exact h.inj c d z z' h1 h2 e
/-- nothing but cost blocks has turned -/
structure Oth (w w' : World) (bl : List UInt8 → Nat) (f : List UInt8 → Option Cost) : Prop where
  os : w'.os = w.os
  tape : w'.tape = w.tape
  output : w'.output = w.output
  size : w.heap.size ≤ w'.heap.size
  block : ∀ b, b < w.heap.size → (∀ c x, f c = some x → bl c ≠ b) → w'.heap[b]? = w.heap[b]?
/-- while what is below d goes -/
structure GoneAt (w0 w : World) (bm B r n : Nat) (D : DataW Nat) (bl : List UInt8 → Nat) (f : List UInt8 → Option Cost) (d : List UInt8) (left : Lit → Bool) (cnt : Nat) : Prop where
  rg : w.ranges Tryz.prog 9 ptrE bm r n D left cnt
  r0 : w0.heap.size ≤ r
  bm0 : bm < w0.heap.size
  cd : CostD D bl f
  obj : ∀ c x, f c = some x → w.heap[bl c]? = some (costObj (if left (.string c) = false ∧ hits d c = true then ⟨x.t, x.all, 0⟩ else x))
  old : ∀ c x, f c = some x → bl c < w0.heap.size
  lo : ∀ c x, f c = some x → B ≤ bl c
  inj : ∀ c d x y, f c = some x → f d = some y → bl c = bl d → c = d
  oth : Oth w0 w bl f
def wgoneF (f : List UInt8 → Option Cost) (d : List UInt8) : List UInt8 → Option Cost := fun c => (f c).map fun x => if hits d c = true then ⟨x.t, x.all, 0⟩ else x
theorem GoneAt.start {w0 w : World} {bm B n : Nat} {D : DataW Nat} {bl : List UInt8 → Nat} {f : List UInt8 → Option Cost} (h : CostsAt w0 bm B n D bl f) (d : List UInt8) {cnt : Nat} (hr : w.ranges Tryz.prog 9 ptrE bm w0.heap.size n D (Maps.has D) cnt) (hg : w0.grownBy w none) : GoneAt w0 w bm B w0.heap.size n D bl f d (Maps.has D) cnt := by
  refine ⟨hr, Nat.le_refl _, h.map.lt, h.cd, fun c x hx => ?_, fun c x hx => heap_lt (h.obj c x hx), h.lo, h.inj, ⟨hg.os, hg.tape, hg.output, hg.size, fun b hb _ => hg.block b hb (by simp)⟩⟩
  rw [hg.block _ (heap_lt (h.obj c x hx)) (by simp), h.obj c x hx, if_neg]
  rintro ⟨h1, _⟩
  rw [h.cd.conv (by rw [hx]; simp)] at h1
  cases h1
theorem GoneAt.done {w0 w : World} {bm B r n : Nat} {D : DataW Nat} {bl : List UInt8 → Nat} {f : List UInt8 → Option Cost} {d : List UInt8} {left : Lit → Bool} {cnt : Nat} (h : GoneAt w0 w bm B r n D bl f d left cnt) (hl : ∀ kl, left kl = false) : CostsAt w bm B n D bl (wgoneF f d) := by
  have key : ∀ c z, wgoneF f d c = some z → ∃ x, f c = some x ∧ z = if hits d c = true then ⟨x.t, x.all, 0⟩ else x := fun c z hz => by
    unfold wgoneF at hz
    obtain ⟨x, h1, h2⟩ := Option.map_eq_some_iff.1 hz
    exact ⟨x, h1, h2.symm⟩
  refine ⟨h.rg.owns, h.cd.congr fun c => by unfold wgoneF; simp, fun c z hz => ?_, fun c z hz => ?_, fun c e z z' h1 h2 he => ?_⟩
  · obtain ⟨x, h1, rfl⟩ := key c z hz
    rw [h.obj c x h1]
    simp [hl]
  · obtain ⟨x, h1, _⟩ := key c z hz
    exact h.lo c x h1
  · obtain ⟨x, k1, _⟩ := key c z h1
    obtain ⟨y, k2, _⟩ := key e z' h2
    exact h.inj c e x y k1 k2 he
/-- an entry has come -/
theorem GoneAt.came {w0 w : World} {bm B r n : Nat} {D : DataW Nat} {bl : List UInt8 → Nat} {f : List UInt8 → Option Cost} {d : List UInt8} {left : Lit → Bool} {cnt : Nat} (h : GoneAt w0 w bm B r n D bl f d left cnt)
    {x : ByteArray} {o : Option Nat} {y : DataW Nat × List MemPlace} (hl : left (.string x.data.toList) = true) (hv : ptrE (ptrV o) = some y) (hat : ∀ zd, D.atKey (.string x.data.toList) zd = y.1) :
    ∃ c, f x.data.toList = some c ∧ o = some (bl x.data.toList) ∧ w.heap[bl x.data.toList]? = some (costObj c) := by
  have h1 := Maps.has_true_of_atKey hat
  obtain ⟨c, e, hc⟩ := h.cd.has _ h1
  injection e with e
  subst e
  cases hf : f x.data.toList with
  | none => exact absurd hf hc
  | some z =>
    have h2 := h.cd.at_ x.data.toList
    rw [hat, hf] at h2
    rw [ptrE_v] at hv
    injection hv with hv
    rw [← hv] at h2
    refine ⟨z, rfl, ptrD_inj h2, ?_⟩
    rw [h.obj _ z hf, if_neg]
    rintro ⟨h3, _⟩
    rw [hl] at h3
    cases h3
/-- .. and is passed -/
theorem GoneAt.step {w0 w w1 w2 : World} {bm B r n : Nat} {D : DataW Nat} {bl : List UInt8 → Nat} {f : List UInt8 → Option Cost} {d q : List UInt8} {left : Lit → Bool} {cnt cnt1 : Nat} (h : GoneAt w0 w bm B r n D bl f d left cnt)
    (hr : w1.ranges Tryz.prog 9 ptrE bm r n D (fun z => left z && !z.sameKey (.string q)) cnt1) (hg : w.grownBy w1 (some r)) {c : Cost} (hc : f q = some c) (hl : left (.string q) = true)
    (ho : w2.os = w1.os ∧ w2.tape = w1.tape ∧ w2.output = w1.output ∧ w1.heap.size ≤ w2.heap.size) (hs : ∀ b, b < w1.heap.size → b ≠ bl q → w2.heap[b]? = w1.heap[b]?)
    (hn : w2.heap[bl q]? = some (costObj (if hits d q = true then ⟨c.t, c.all, 0⟩ else c))) : GoneAt w0 w2 bm B r n D bl f d (fun z => left z && !z.sameKey (.string q)) cnt1 := by
  have ne1 : bm ≠ bl q := fun e => by
    obtain ⟨es, clock, h1, _⟩ := h.rg.owns
    rw [e, h.obj q c hc] at h1
    cases h1
  have ne2 : r ≠ bl q := fun e => by
    have := h.old q c hc
    have := h.r0
    omega
  have hr2 : w2.ranges Tryz.prog 9 ptrE bm r n D (fun z => left z && !z.sameKey (.string q)) cnt1 := by
    have g : w1.grownBy w2 (some (bl q)) := ⟨ho.1, ho.2.1, ho.2.2.1, ho.2.2.2, fun i hi hne => hs i hi (fun e => hne (by rw [e]))⟩
    exact hr.kept g (fun e => ne1 (Option.some.inj e)) (fun e => ne2 (Option.some.inj e))
  refine ⟨hr2, h.r0, h.bm0, h.cd, fun k x hx => ?_, h.old, h.lo, h.inj, ⟨ho.1.trans (hg.os.trans h.oth.os), ho.2.1.trans (hg.tape.trans h.oth.tape), ho.2.2.1.trans (hg.output.trans h.oth.output), Nat.le_trans h.oth.size (Nat.le_trans hg.size ho.2.2.2), fun b hb hne => ?_⟩⟩
  · by_cases hk : k = q
    · subst hk
      rw [hc] at hx
      injection hx with hx
      subst hx
      rw [hn]
      have : (left (.string k) && !(Lit.string k).sameKey (.string k)) = false := by
        rw [WideAt.sameKey_self (show WideAt.IsKeyLit (Lit.string k) from trivial)]
        simp
      simp [this]
    · have hbk : bl k ≠ bl q := fun e => hk (h.inj k q x c hx hc e)
      have hlt := h.old k x hx
      have hsz := h.oth.size
      have hrk : bl k ≠ r := fun e => by have := h.r0; omega
      rw [hs _ (Nat.lt_of_lt_of_le hlt (Nat.le_trans hsz hg.size)) hbk, hg.block _ (Nat.lt_of_lt_of_le hlt hsz) (fun e => hrk (Option.some.inj e)), h.obj k x hx]
      have : (Lit.string k).sameKey (.string q) = false := by
        cases hh : (Lit.string k).sameKey (.string q) with
        | false => rfl
        | true => have := WideAt.sameKey_eq hh; injection this with e; exact absurd e hk
      rw [this]
      simp
  · have hsz := h.oth.size
    rw [hs b (Nat.lt_of_lt_of_le hb (Nat.le_trans hsz hg.size)) (fun e => hne q c hc e.symm), hg.block b (Nat.lt_of_lt_of_le hb hsz) (fun e => by have := h.r0; have := Option.some.inj e; omega)]
    exact h.oth.block b hb hne
/-- a cost block's cells -/
theorem cost_cell {w : World} {b : Nat} {x : Cost} (h : w.heap[b]? = some (costObj x)) : w.cell? ⟨b, 0, none⟩ = some (.int .i64 (x.t : Int)) ∧ w.cell? ⟨b, 1, none⟩ = some (.int .i64 (x.all : Int)) ∧ w.cell? ⟨b, 2, none⟩ = some (.int .i64 (x.now : Int)) ∧ (∀ j, w.frozen? ⟨b, j, none⟩ = false) := by
  have e := h
  unfold costObj costC at e
  refine ⟨?_, ?_, ?_, fun j => ?_⟩
  · unfold World.cell?; rw [e]; rfl
  · unfold World.cell?; rw [e]; rfl
  · unfold World.cell?; rw [e]; rfl
  · unfold World.frozen?; rw [e]; simp
end
end Go.Proofs.YtfanfkogogijpaaGreatDoor
namespace Go.Proofs.YtfanfkogogijpaaGreatDoor
section
open Go.RowKit
/-- the bits of something that is no number -/
def NaNb (b : Nat) : Prop := ∃ s f, s < 2 ∧ f < 4503599627370495 ∧ b = s * 9223372036854775808 + 9218868437227405312 + 1 + f
theorem NaNb.read {b : Nat} (h : NaNb b) : ∃ s f, Fl.F.read b = .nan s f := by
  obtain ⟨s, f, hs, hf, rfl⟩ := h
  unfold Ieee.Format.read
  have e2 : (s * 9223372036854775808 + 9218868437227405312 + 1 + f) % Fl.F.signWeight = 9218868437227405312 + 1 + f := by rw [Fl.F_sign]; omega
  dsimp only
  rw [e2, Fl.F_binade, Fl.F_inf, if_neg (by omega), if_neg (by omega), if_neg (by omega)]
  exact ⟨_, _, rfl⟩
theorem NaNb.order {b : Nat} (h : NaNb b) (y : Nat) : Fl.F.order b y = none := by
  obtain ⟨s, f, e⟩ := h.read
  unfold Ieee.Format.order Ieee.Datum.order
  rw [e]
theorem NaNb.order2 {b : Nat} (h : NaNb b) (x : Nat) : Fl.F.order x b = none := by
  obtain ⟨s, f, e⟩ := h.read
  unfold Ieee.Format.order Ieee.Datum.order
  rw [e]
  cases Fl.F.read x <;> rfl
theorem NaNb.div {b : Nat} (h : NaNb b) (y : Nat) : Fl.F.div b y = none := by
  obtain ⟨s, f, e⟩ := h.read
  unfold Ieee.Format.div Ieee.Datum.quotient
  rw [e]; rfl
theorem NaNb.sqrt {b : Nat} (h : NaNb b) : Fl.F.sqrt b = none := by
  obtain ⟨s, f, e⟩ := h.read
  unfold Ieee.Format.sqrt Ieee.Datum.root
  rw [e]; rfl
theorem div_zero_zero : Fl.F.div 0 0 = none := by decide +kernel
theorem run_nan {P : Program} (w : World) (q : Question) (hq : ∀ t, NaNb (q.cut t)) (hf : q.forced = false) : ∃ b, NaNb b ∧ (choose q).run P w = .ok b w.drew := by
  refine ⟨_, hq (w.tape w.drawn q), ?_⟩
  simp only [choose, Sem.run, hf, Bool.false_eq_true, if_false]
  rfl
theorem nan_cut (x y t : Nat) : NaNb ((Question.nanBits .f64 x y).cut t) := by
  refine ⟨t % 2, (t / 2) % 4503599627370495, by omega, by omega, ?_⟩
  show (t % 2) * 2 ^ 63 + 0x7ff0000000000000 + 1 + (t / 2) % (2 ^ 52 - 1) = _
  rfl
theorem run_quo_nan {P : Program} (w : World) (t : TypeId) {x y : Nat} (h : Fl.F.div x y = none) : ∃ b, NaNb b ∧ (binOp .quo t (.float .f64 x) (.float .f64 y)).run P w = .ok (.float .f64 b) w.drew := by
  refine ⟨_, nan_cut x y (w.tape w.drawn (.nanBits .f64 x y)), ?_⟩
  have h' : FloatKind.f64.format.div x y = none := h
  simp [binOp, Op.floatArith, h', show (Question.nanBits .f64 x y).forced = false from rfl]
theorem sqrtE (x : Nat) : Extern.MathSqrt.sqrt #[.float .f64 x] = (match FloatKind.f64.format.sqrt x with | some r => pure (Value.float .f64 r) | none => (do pure (Value.float .f64 (← choose (.nanBits .f64 x x))))) := rfl
theorem sqrt_some {x r : Nat} (h : Fl.F.sqrt x = some r) (w : World) : Calls Tryz.prog 17 #[.float .f64 x] w fun e w' => e = .returned (.float .f64 r) ∧ w = w' := by
  have h' : FloatKind.f64.format.sqrt x = some r := h
  have hc : ∀ W, (callFunc 36 #[.float .f64 x]).run Tryz.prog W = .ok (.value (.float .f64 r)) W := fun W => by
    rw [@run_callFunc_extern Tryz.prog 36 _ Extern.MathSqrt.sqrt Tryz.func36 (by kernel_rfl) (by kernel_rfl) (by kernel_rfl) (by kernel_rfl)]
    rw [sqrtE]
    simp [h', Result.andThen]
  clear h h'
  go_enter Tryz.func17, Tryz.ntmps17
  go_wp2
  go_ret
  exact ⟨rfl, rfl⟩
theorem sqrt_nan {x : Nat} (h : Fl.F.sqrt x = none) (w : World) : Calls Tryz.prog 17 #[.float .f64 x] w fun e w' => ∃ b, NaNb b ∧ e = .returned (.float .f64 b) ∧ w' = w.drew := by
  have h' : FloatKind.f64.format.sqrt x = none := h
  obtain ⟨b, hb, hr⟩ : ∃ b, NaNb b ∧ b = (Question.nanBits .f64 x x).cut (w.tape w.drawn (.nanBits .f64 x x)) := ⟨_, nan_cut x x _, rfl⟩
  have hc : (callFunc 36 #[.float .f64 x]).run Tryz.prog w = .ok (.value (.float .f64 b)) w.drew := by
    rw [@run_callFunc_extern Tryz.prog 36 _ Extern.MathSqrt.sqrt Tryz.func36 (by kernel_rfl) (by kernel_rfl) (by kernel_rfl) (by kernel_rfl)]
    rw [hr]
    rw [sqrtE]
    simp [h', show (Question.nanBits .f64 x x).forced = false from rfl, Result.andThen]
  have Hb := Lib.hid hb
  clear h h' hr hb
  go_enter Tryz.func17, Tryz.ntmps17
  go_wp2
  go_ret
  exact ⟨_, Hb.out, rfl, rfl⟩
/-! ## changes -/
structure WChg where
  p : ByteArray
  g : Bool
  ep : ByteArray
  k : Int
  m : Int
  d : ByteArray
  l : ByteArray
def wchgC (c : WChg) : List Value := [.string c.p, .bool c.g, .string c.ep, .int .i64 c.k, .int .i64 c.m, .string c.d, .string c.l]
theorem wchgC_len (c : WChg) : (wchgC c).length = 7 := rfl
theorem chgC_one (c : WChg) : (wchgC c).toArray.all (·.oneCell') = true := by simp [wchgC, Value.oneCell']
abbrev WChgsAt (w : World) (v : Value) (L : List WChg) : Prop := ItemsAt wchgC 7 w v L
abbrev DeltasAt (w : World) (v : Value) (LL : List (List WChg)) : Prop := ListsAt wchgC 7 w v LL
def cwOf (c : WChg) : Cw := ⟨c.p.data.toList, c.g, c.d.size⟩
def flatC (LL : List (List WChg)) : List Cw := LL.flatten.map cwOf
def sizeC (L : List WChg) : Nat := totalR (L.map cwOf)
structure LostB where
  p : ByteArray
  t : Nat
  b : Nat
def lostC (x : LostB) : List Value := [.string x.p, .int .i64 (x.t : Int), .int .i64 (x.b : Int)]
theorem lostC_len (x : LostB) : (lostC x).length = 3 := rfl
def LostB.n (x : LostB) : LostN := ⟨x.p.data.toList, x.t, x.b⟩
def LostN.by (x : LostN) : LostB := ⟨bs x.p, x.t, x.b⟩
/-! ## the numbers -/
def flOne : Nat := 4607182418800017408
def dF (m x : Nat) : Nat := (Fl.F.sub (Fl.fl x) m).getD 0
def qF (m x : Nat) : Nat := (Fl.F.mul (dF m x) (dF m x)).getD 0
def sumStep (m s x : Nat) : Nat := (Fl.F.add s (qF m x)).getD 0
def sumF (m : Nat) (xs : List Nat) : Nat := xs.foldl (sumStep m) 0
theorem sumF_snoc (m : Nat) (xs : List Nat) (x : Nat) : sumF m (xs ++ [x]) = sumStep m (sumF m xs) x := by unfold sumF; rw [List.foldl_append]; rfl
theorem step_ok {m s x : Nat} (hm : m ≤ Fl.INF) (hx : x < 9007199254740992) (hs : s ≤ Fl.INF) : Fl.F.sub (Fl.fl x) m = some (dF m x) ∧ Fl.F.mul (dF m x) (dF m x) = some (qF m x) ∧ Fl.F.add s (qF m x) = some (sumStep m s x) ∧ sumStep m s x ≤ Fl.INF := by
  obtain ⟨neg, r, h1, h2⟩ := Fl.sub_ok (Fl.fl_rv hx).2 hm
  obtain ⟨q, h3, h4⟩ := Fl.sq_ok neg h2
  obtain ⟨t, h5, h6⟩ := Fl.add_ok hs h4
  have e1 : dF m x = Fl.F.word neg r := by unfold dF; rw [h1]; rfl
  have e2 : qF m x = q := by unfold qF; rw [e1, h3]; rfl
  have e3 : sumStep m s x = t := by unfold sumStep; rw [e2, h5]; rfl
  exact ⟨by rw [e1]; exact h1, by rw [e1, e2]; exact h3, by rw [e2, e3]; exact h5, by rw [e3]; exact h6⟩
theorem sumF_le {m : Nat} (hm : m ≤ Fl.INF) : ∀ (xs : List Nat), (∀ x ∈ xs, x < 9007199254740992) → sumF m xs ≤ Fl.INF := by
  have : ∀ (xs : List Nat) (s : Nat), s ≤ Fl.INF → (∀ x ∈ xs, x < 9007199254740992) → xs.foldl (sumStep m) s ≤ Fl.INF := by
    intro xs
    induction xs with
    | nil => exact fun s hs _ => hs
    | cons x r ih =>
      intro s hs hx
      rw [List.foldl_cons]
      exact ih _ (step_ok hm (hx x (List.mem_cons_self ..)) hs).2.2.2 fun y hy => hx y (List.mem_cons_of_mem _ hy)
  exact fun xs hx => this xs 0 (by decide) hx
/-- what the numbers of a look are -/
structure LookV (T least : Nat) (szs : List Nat) (sc me sp : Nat) : Prop where
  sc0 : T = 0 → sc = flOne
  sc1 : T ≠ 0 → Fl.F.div (Fl.fl least) (Fl.fl T) = some sc
  me0 : szs = [] → NaNb me
  me1 : szs ≠ [] → Fl.F.div (Fl.fl T) (Fl.fl szs.length) = some me
  sp0 : szs = [] → NaNb sp
  sp1 : szs ≠ [] → ∃ q, Fl.F.div (sumF me szs) (Fl.fl szs.length) = some q ∧ Fl.F.sqrt q = some sp
end
end Go.Proofs.YtfanfkogogijpaaGreatDoor
namespace Go.Proofs.YtfanfkogogijpaaGreatDoor
section
open Go.RowKit Go.Maps
open Go.Lib hiding intOf size_eq
theorem Tryz.infoLost : (Tryz.prog.info? 55).map (fun i => (i.zero, i.size, i.bytes)) = some (some (.agg #[.string ⟨#[]⟩, .int .i64 0, .int .i64 0]), 3, 32) := by kernel_rfl
theorem Tryz.infoF : (Tryz.prog.info? 34).map (fun i => (i.zero, i.size, i.bytes)) = some (some (Value.float FloatKind.f64 0), 1, 8) := by kernel_rfl
def floats (n : Nat) : Array Value := madeCells #[.float .f64 0] n
/-- the cells of a Waste -/
def wasC (tot least : Int) (sc me sp : Nat) (v : Value) : Array Value := #[.int .i64 tot, .int .i64 least, .float .f64 sc, .float .f64 me, .float .f64 sp, v]
def wasObj (tot least : Int) (sc me sp : Nat) (v : Value) : Obj := .cells (wasC tot least sc me sp v) 37 (0, 0)
/-- where the outer loop stands -/
structure LookI (w wr : World) (B n : Nat) (done : List Cw) (tot : Nat) (szs : List Nat) : Prop where
  bel : Below B w wr
  res : wr.heap[B]? = some (wasObj 0 0 0 0 0 (.slice none 0 0))
  cst : ∃ N D bl, CostsAt wr (B + 1) (B + 4) N D bl (getM (costsM done)) ∧ N ≤ done.length
  siz : ∃ cur : Array Value, wr.heap[B + 2]? = some (.cells cur 34 (0, 0)) ∧ cur.size = n ∧ ∀ (j x : Nat), szs[j]? = some x → cur[j]? = some (Value.float FloatKind.f64 (Fl.fl x))
  var : wr.heap[B + 3]? = some (wasObj tot 0 flOne 0 0 (.slice none 0 0))
/-- the world ahead of the loop -/
noncomputable def lookW (w : World) (n : Nat) : World := (((w.alloc (wasObj 0 0 0 0 0 (.slice none 0 0))).alloc (.map #[] 0)).alloc (.cells (floats n) 34)).alloc (wasObj 0 0 0 0 0 (.slice none 0 0))
theorem lookW_size (w : World) (n : Nat) : (lookW w n).heap.size = w.heap.size + 4 := by simp [lookW]
theorem lookW_var (w : World) (n : Nat) : (lookW w n).heap[w.heap.size + 1 + 1 + 1]? = some (wasObj 0 0 0 0 0 (.slice none 0 0)) := by
  have h := World.alloc_heap_new (((w.alloc (wasObj 0 0 0 0 0 (.slice none 0 0))).alloc (.map #[] 0)).alloc (.cells (floats n) 34)) (wasObj 0 0 0 0 0 (.slice none 0 0))
  rw [show (((w.alloc (wasObj 0 0 0 0 0 (.slice none 0 0))).alloc (.map #[] 0)).alloc (.cells (floats n) 34)).heap.size = w.heap.size + 1 + 1 + 1 by simp] at h
  exact h
theorem look_start (w : World) (n : Nat) : LookI w ((lookW w n).setRow (w.heap.size + 1 + 1 + 1) (wasC 0 0 flOne 0 0 (.slice none 0 0))) w.heap.size n [] 0 [] := by
  have hb : Below w.heap.size w (lookW w n) := ((((Below.refl _ _).alloc (Nat.le_refl _) _).alloc (by simp) _).alloc (by simp; omega) _).alloc (by simp; omega) _
  have other : ∀ k, k ≠ w.heap.size + 1 + 1 + 1 → ((lookW w n).setRow (w.heap.size + 1 + 1 + 1) (wasC 0 0 flOne 0 0 (.slice none 0 0))).heap[k]? = (lookW w n).heap[k]? := fun k hk => setRow_other _ _ k _ hk
  refine ⟨⟨hb.os, hb.tape, hb.output, by simpa using hb.size, fun k hk => (other k (by omega)).trans (hb.block k hk)⟩, ?_, ?_, ?_, ?_⟩
  · rw [other _ (by omega)]
    unfold lookW
    rw [gheap_old _ _ (by simp; omega), gheap_old _ _ (by simp; omega), gheap_old _ _ (by simp)]
    exact World.alloc_heap_new _ _
  · have hm : (lookW w n).ownsMap Tryz.prog 9 ptrE (w.heap.size + 1) 0 (.map []) := by
      have h0 := World.ownsMap_made (w.alloc (wasObj 0 0 0 0 0 (.slice none 0 0))) Tryz.prog 9 ptrE
      have := (h0.alloc (.cells (floats n) 34)).alloc (wasObj 0 0 0 0 0 (.slice none 0 0))
      simpa [lookW] using this
    refine ⟨0, .map [], fun _ => 0, ⟨ownsMap_block hm (other _ (by omega)), ⟨fun c => rfl, fun k hk => (by cases hk)⟩, fun c x hx => (by cases hx), fun c x hx => (by cases hx), fun c d x y hx => (by cases hx)⟩, Nat.zero_le _⟩
  · refine ⟨floats n, ?_, size_madeCells _ _, fun j x hx => by cases hx⟩
    rw [other _ (by omega)]
    unfold lookW
    rw [gheap_old _ _ (by simp)]
    have := World.alloc_heap_new ((w.alloc (wasObj 0 0 0 0 0 (.slice none 0 0))).alloc (.map #[] 0)) (.cells (floats n) 34)
    simpa using this
  · exact grow_at (lookW_var w n)
theorem LookI.below {w wr W : World} {B n : Nat} {done : List Cw} {tot : Nat} {szs : List Nat} (h : LookI w wr B n done tot szs) (hb : Below wr.heap.size wr W) : LookI w W B n done tot szs := by
  obtain ⟨N, D, bl, hc, hN⟩ := h.cst
  obtain ⟨cur, h1, h2, h3⟩ := h.siz
  have hs := hb.size
  refine ⟨⟨hb.os.trans h.bel.os, hb.tape.trans h.bel.tape, hb.output.trans h.bel.output, Nat.le_trans h.bel.size hb.size, fun k hk => ?_⟩, (hb.block _ (heap_lt h.res)).trans h.res, ⟨N, D, bl, hc.below hb, hN⟩, ⟨cur, (hb.block _ (heap_lt h1)).trans h1, h2, h3⟩, (hb.block _ (heap_lt h.var)).trans h.var⟩
  rcases Nat.lt_or_ge k wr.heap.size with h4 | h4
  · exact (hb.block k h4).trans (h.bel.block k hk)
  · have h5 := heap_lt h.res
    omega
theorem gone_get (l : List Cw) (c : Cw) (hg : c.g = true) : wgoneF (getM (costsM l)) c.p = getM (costsM (l ++ [c])) := by
  funext q
  have e : costsM (l ++ [c]) = stepM (costsM l) c := by unfold costsM; rw [List.foldl_append]; rfl
  rw [e]
  unfold stepM wgoneF
  rw [if_pos hg, getM_gone]
theorem LookI.gone {w w1 w2 : World} {B n r N : Nat} {D : DataW Nat} {bl : List UInt8 → Nat} {done : List Cw} {tot : Nat} {szs : List Nat} {left : Lit → Bool} {cnt : Nat} {c : Cw} (h : LookI w w1 B n done tot szs) (hB : B = w.heap.size) (hN : N ≤ done.length)
    (hg : GoneAt w1 w2 (B + 1) (B + 4) r N D bl (getM (costsM done)) c.p left cnt) (hl : ∀ kl, left kl = false) (hc : c.g = true) : LookI w w2 B n (done ++ [c]) tot szs := by
  obtain ⟨cur, h1, h2, h3⟩ := h.siz
  have hd := hg.done hl
  rw [gone_get done c hc] at hd
  have ne : ∀ k, k < B + 4 → ∀ q x, getM (costsM done) q = some x → bl q ≠ k := fun k hk q x hx e => by have := hg.lo q x hx; omega
  have keep : ∀ k, k < B + 4 → k < w1.heap.size → w2.heap[k]? = w1.heap[k]? := fun k hk hl => hg.oth.block k hl (ne k hk)
  refine ⟨⟨hg.oth.os.trans h.bel.os, hg.oth.tape.trans h.bel.tape, hg.oth.output.trans h.bel.output, Nat.le_trans h.bel.size hg.oth.size, fun k hk => ?_⟩, (keep _ (by omega) (heap_lt h.res)).trans h.res, ⟨N, D, bl, hd, by simp; omega⟩, ⟨cur, (keep _ (by omega) (heap_lt h1)).trans h1, h2, h3⟩, (keep _ (by omega) (heap_lt h.var)).trans h.var⟩
  have h5 := heap_lt h.res
  exact (keep k (by omega) (by omega)).trans (h.bel.block k hk)
theorem allF_le (l : List Cw) (p : List UInt8) : allF l p ≤ totalR l := by
  induction l with
  | nil => exact Nat.le_refl _
  | cons c r ih =>
    have ht : totalR (c :: r) = bringsF c + totalR r := by unfold totalR; rw [List.map_cons, List.sum_cons]
    rw [allF_cons, ht]
    split <;> omega
theorem timesF_le (l : List Cw) (p : List UInt8) : timesF l p ≤ l.length := List.length_filter_le _ _
theorem totalR_append (a b : List Cw) : totalR (a ++ b) = totalR a + totalR b := by unfold totalR; rw [List.map_append, List.sum_append]
theorem flatC_take {LL : List (List WChg)} {i : Nat} {L : List WChg} (h : LL[i]? = some L) : flatC (LL.take (i + 1)) = flatC (LL.take i) ++ L.map cwOf := by
  unfold flatC
  rw [← gtake h, List.flatten_append, List.map_append]
  simp
theorem flatC_split {LL : List (List WChg)} {i : Nat} {L : List WChg} (h : LL[i]? = some L) : ∃ R, flatC LL = flatC (LL.take i) ++ L.map cwOf ++ R := by
  refine ⟨flatC (LL.drop (i + 1)), ?_⟩
  rw [← flatC_take h]
  unfold flatC
  rw [← List.map_append, ← List.flatten_append, List.take_append_drop]
theorem cw_step {L : List WChg} {k : Nat} {c : WChg} (h : L[k]? = some c) : (L.take (k + 1)).map cwOf = (L.take k).map cwOf ++ [cwOf c] := by rw [← gtake h, List.map_append]; rfl
theorem sizeC_step {L : List WChg} {k : Nat} {c : WChg} (h : L[k]? = some c) : sizeC (L.take (k + 1)) = sizeC (L.take k) + (if c.g = true then 0 else c.d.size) := by
  unfold sizeC
  rw [cw_step h, totalR_append]
  unfold totalR bringsF cwOf
  simp
theorem key_of {l : List Cw} {p : List UInt8} {y : Cost} (h : getM (costsM l) p = some y) : ∃ c ∈ l, c.p = p := by
  have hk : p ∈ (costsM l).map (·.1) := by
    by_cases hp : p ∈ (costsM l).map (·.1)
    · exact hp
    · rw [getM_none.2 hp] at h; cases h
  obtain ⟨c, hc, _, e⟩ := ((costs_keys l).2 p).1 hk
  exact ⟨c, hc, e⟩
theorem done_sub {LL : List (List WChg)} {i k : Nat} {L : List WChg} (h : LL[i]? = some L) {y : Cw} (hy : y ∈ flatC (LL.take i) ++ (L.take k).map cwOf) : y ∈ flatC LL := by
  obtain ⟨R, hR⟩ := flatC_split h
  rw [hR]
  rcases List.mem_append.1 hy with h1 | h1
  · exact List.mem_append_left _ (List.mem_append_left _ h1)
  · refine List.mem_append_left _ (List.mem_append_right _ ?_)
    obtain ⟨c, hc, rfl⟩ := List.mem_map.1 h1
    exact List.mem_map.2 ⟨c, List.mem_of_mem_take hc, rfl⟩
theorem done_len {LL : List (List WChg)} {i k : Nat} {L : List WChg} (h : LL[i]? = some L) : (flatC (LL.take i) ++ (L.take k).map cwOf).length ≤ (flatC LL).length := by
  obtain ⟨R, hR⟩ := flatC_split h
  rw [hR]
  simp
  omega
theorem totalR_take (L : List WChg) (k : Nat) : totalR ((L.take k).map cwOf) ≤ totalR (L.map cwOf) := by
  conv => rhs; rw [← List.take_append_drop k L, List.map_append, totalR_append]
  omega
theorem done_tot {LL : List (List WChg)} {i k : Nat} {L : List WChg} (h : LL[i]? = some L) : totalR (flatC (LL.take i) ++ (L.take k).map cwOf) ≤ totalR (flatC LL) := by
  obtain ⟨R, hR⟩ := flatC_split h
  have := totalR_take L k
  rw [hR, totalR_append, totalR_append, totalR_append]
  omega
theorem mem_flatC {LL : List (List WChg)} {y : Cw} (h : y ∈ flatC LL) : ∃ L ∈ LL, ∃ c ∈ L, y = cwOf c := by
  obtain ⟨c, hc, rfl⟩ := List.mem_map.1 h
  obtain ⟨L, hL, hc⟩ := List.mem_flatten.1 hc
  exact ⟨L, hL, c, hc, rfl⟩
theorem GoneAt.still {w0 w w' : World} {bm B r n : Nat} {D : DataW Nat} {bl : List UInt8 → Nat} {f : List UInt8 → Option Cost} {d : List UInt8} {left : Lit → Bool} {cnt : Nat} (h : GoneAt w0 w bm B r n D bl f d left cnt) (hc : CostsAt w0 bm B n D bl f) (hg : w.grownBy w' (some r))
    {k : Nat} {cs : Array Value} {t : TypeId} (hk : w0.heap[k]? = some (.cells cs t (0, 0))) (ht : t ≠ 53) : w'.heap[k]? = some (.cells cs t (0, 0)) := by
  have hlt := heap_lt hk
  have h0 := h.r0
  have hs := h.oth.size
  rw [hg.block k (by omega) (fun e => by have := Option.some.inj e; omega), h.oth.block k hlt (fun c x hx e => ?_)]
  · exact hk
  · have := hc.obj c x hx
    rw [e, hk] at this
    injection this with this
    injection this with _ e2 _
    exact ht e2
theorem zero_at {W : World} {b : Nat} {y : Cost} (h : W.heap[b]? = some (costObj y)) : (W.setCell ⟨b, 2, none⟩ (.int .i64 0)).heap[b]? = some (costObj ⟨y.t, y.all, 0⟩) := by
  have h1 := block_set (j := 2) (show W.heap[b]? = some (.cells (costC y) 53 (0, 0)) from h) (.int .i64 0)
  refine h1.trans ?_
  unfold costObj costC
  simp
theorem hits_eq {d p : ByteArray} (h : (p.toList == d.toList) = true) : hits d.data.toList p.data.toList = true := by
  rw [Lib.toList_data, Lib.toList_data] at h
  unfold hits
  simp [(show p.data.toList = d.data.toList by simpa using h)]
theorem hits_ne {d p : ByteArray} (h : (p.toList == d.toList) = false) : hits d.data.toList p.data.toList = belowP d.data.toList p.data.toList := by
  rw [Lib.toList_data, Lib.toList_data] at h
  unfold hits
  simp [(show ¬ p.data.toList = d.data.toList by simpa using h)]
/-- a cost that is put -/
theorem put_get (l : List Cw) (c : Cw) (hg : c.g = false) (y : Cost) (hy : (getM (costsM l) c.p).getD ⟨0, 0, 0⟩ = y) : fPut (getM (costsM l)) c.p ⟨y.t + 1, y.all + c.n, c.n⟩ = getM (costsM (l ++ [c])) := by
  funext q
  have e : costsM (l ++ [c]) = stepM (costsM l) c := by unfold costsM; rw [List.foldl_append]; rfl
  have e2 : stepM (costsM l) c = putM (costsM l) c.p c.n := by unfold stepM; rw [if_neg (by rw [hg]; decide)]
  rw [e, e2]
  unfold fPut putM
  cases h : getM (costsM l) c.p with
  | none =>
    rw [h] at hy
    simp only []
    rw [getM_append]
    by_cases hq : q = c.p
    · subst hq
      rw [if_pos rfl, h, if_pos rfl, ← hy]
      simp
    · rw [if_neg hq, if_neg (fun e => hq e.symm)]
      simp
  | some z =>
    rw [h] at hy
    simp only [Option.getD_some] at hy
    subst hy
    simp only []
    rw [getM_turn (f := fun x => ⟨x.t + 1, x.all + c.n, c.n⟩)]
    by_cases hq : q = c.p
    · subst hq; rw [if_pos rfl, h]; simp
    · rw [if_neg hq]; simp [hq]
theorem fPut_put (f : List UInt8 → Option Cost) (q : List UInt8) (x y : Cost) : fPut (fPut f q x) q y = fPut f q y := by
  funext c
  unfold fPut
  split <;> rfl
/-- a file is counted: at a path that is there -/
theorem LookI.laid {w w1 w2 : World} {B n N : Nat} {D : DataW Nat} {bl : List UInt8 → Nat} {done : List Cw} {tot : Nat} {szs : List Nat} {c : Cw} (h : LookI w w1 B n done tot szs) (hB : B = w.heap.size) (hN : N ≤ done.length + 1)
    (hc : CostsAt w2 (B + 1) (B + 4) N D bl (getM (costsM (done ++ [c])))) (ho : w2.os = w1.os ∧ w2.tape = w1.tape ∧ w2.output = w1.output ∧ w1.heap.size ≤ w2.heap.size) (hs : ∀ k, k < w1.heap.size → k < B + 4 → k ≠ B + 1 → w2.heap[k]? = w1.heap[k]?) : LookI w w2 B n (done ++ [c]) tot szs := by
  obtain ⟨cur, h1, h2, h3⟩ := h.siz
  refine ⟨⟨ho.1.trans h.bel.os, ho.2.1.trans h.bel.tape, ho.2.2.1.trans h.bel.output, Nat.le_trans h.bel.size ho.2.2.2, fun k hk => ?_⟩, (hs _ (heap_lt h.res) (by omega) (by omega)).trans h.res, ⟨N, D, bl, hc, by simp; omega⟩, ⟨cur, (hs _ (heap_lt h1) (by omega) (by omega)).trans h1, h2, h3⟩, (hs _ (heap_lt h.var) (by omega) (by omega)).trans h.var⟩
  have h5 := heap_lt h.res
  exact (hs k (by omega) (by omega) (by omega)).trans (h.bel.block k hk)
/-- a cost block behind its three stores -/
def bump (W : World) (b : Nat) (y : Cost) (m : Nat) : World := ((W.setCell ⟨b, 0, none⟩ (.int .i64 ((y.t : Int) + 1))).setCell ⟨b, 1, none⟩ (.int .i64 ((y.all : Int) + (m : Int)))).setCell ⟨b, 2, none⟩ (.int .i64 (m : Int))
theorem bump_at {W : World} {b : Nat} {y : Cost} (h : W.heap[b]? = some (costObj y)) (m : Nat) : (bump W b y m).heap[b]? = some (costObj ⟨y.t + 1, y.all + m, m⟩) := by
  have h1 := block_set (j := 0) (show W.heap[b]? = some (.cells (costC y) 53 (0, 0)) from h) (.int .i64 ((y.t : Int) + 1))
  have h2 := block_set (j := 1) h1 (.int .i64 ((y.all : Int) + (m : Int)))
  have h3 := block_set (j := 2) h2 (.int .i64 (m : Int))
  refine h3.trans ?_
  unfold costObj costC
  simp
theorem bump_other (W : World) (b : Nat) (y : Cost) (m k : Nat) (h : k ≠ b) : (bump W b y m).heap[k]? = W.heap[k]? := by
  unfold bump
  rw [Below.heap_setCell _ _ _ _ h, Below.heap_setCell _ _ _ _ h, Below.heap_setCell _ _ _ _ h]
theorem bump_size (W : World) (b : Nat) (y : Cost) (m : Nat) : (bump W b y m).heap.size = W.heap.size := by unfold bump; simp
/-- a change in a block of its own -/
noncomputable def boxC (w : World) (c : WChg) : World := w.alloc (.cells #[.string c.p, .bool c.g, .string c.ep, .int .i64 c.k, .int .i64 c.m, .string c.d, .string c.l] 49)
theorem boxC_at (w : World) (c : WChg) : (boxC w c).heap[w.heap.size]? = some (.cells #[.string c.p, .bool c.g, .string c.ep, .int .i64 c.k, .int .i64 c.m, .string c.d, .string c.l] 49 (0, 0)) := World.alloc_heap_new w _
theorem boxC_below (w : World) (c : WChg) : Below w.heap.size w (boxC w c) := (Below.refl w.heap.size w).alloc (Nat.le_refl _) _
theorem boxC_size (w : World) (c : WChg) : (boxC w c).heap.size = w.heap.size + 1 := by simp [boxC]
/-- a new cost's block -/
noncomputable def boxN (w : World) : World := w.alloc (.cells #[.int .i64 0, .int .i64 0, .int .i64 0] 53)
theorem boxN_at (w : World) : (boxN w).heap[w.heap.size]? = some (costObj ⟨0, 0, 0⟩) := World.alloc_heap_new w _
theorem boxN_below (w : World) : Below w.heap.size w (boxN w) := (Below.refl w.heap.size w).alloc (Nat.le_refl _) _
/-- behind the map's store and the three stores: a new path -/
theorem CostsAt.fresh {w1 w2 w3 : World} {bm B n : Nat} {D : DataW Nat} {bl : List UInt8 → Nat} {l : List Cw} {c : Cw} (h : CostsAt w1 bm B n D bl (getM (costsM l))) (hB : B ≤ w1.heap.size) (hg : c.g = false) (hf : getM (costsM l) c.p = none) (hb2 : Below w1.heap.size w1 w2) (h2 : w2.heap[w1.heap.size]? = some (costObj ⟨0, 0, 0⟩))
    (hm : w3.ownsMap Tryz.prog 9 ptrE bm (n + 1) (D.put (.string c.p) (ptrD (some w1.heap.size)))) (hg3 : w2.grownBy w3 (some bm)) (hn : bm ≠ w1.heap.size) :
    w3.heap[w1.heap.size]? = some (costObj ⟨0, 0, 0⟩) ∧ CostsAt (bump w3 w1.heap.size ⟨0, 0, 0⟩ c.n) bm B (n + 1) (D.put (.string c.p) (ptrD (some w1.heap.size))) (bPut bl c.p w1.heap.size) (getM (costsM (l ++ [c]))) := by
  have e3 : w3.heap[w1.heap.size]? = some (costObj ⟨0, 0, 0⟩) := by
    rw [hg3.block _ (heap_lt h2) (fun e => hn (Option.some.inj e).symm)]
    exact h2
  refine ⟨e3, ?_⟩
  have h4 := h.add (w1 := w1) hf ⟨0, 0, 0⟩ (Nat.le_refl _) hB hm e3 fun k hk hne => (hg3.block k (Nat.lt_of_lt_of_le hk hb2.size) (fun e => hne (Option.some.inj e))).trans (hb2.block k hk)
  have hq : fPut (getM (costsM l)) c.p ⟨0, 0, 0⟩ c.p = some ⟨0, 0, 0⟩ := by unfold fPut; rw [if_pos rfl]
  have eb : bPut bl c.p w1.heap.size c.p = w1.heap.size := by unfold bPut; rw [if_pos rfl]
  have h5 := h4.set (w' := bump w3 w1.heap.size ⟨0, 0, 0⟩ c.n) hq ⟨0 + 1, 0 + c.n, c.n⟩ (by rw [eb]; exact bump_at e3 c.n) (fun k _ hk => bump_other _ _ _ _ _ (by rw [eb] at hk; exact hk))
  rw [fPut_put] at h5
  rw [← put_get l c hg ⟨0, 0, 0⟩ (by rw [hf]; rfl)]
  exact h5
/-- .. a path that is there -/
theorem CostsAt.again {w1 : World} {bm B n : Nat} {D : DataW Nat} {bl : List UInt8 → Nat} {l : List Cw} {c : Cw} {y : Cost} (h : CostsAt w1 bm B n D bl (getM (costsM l))) (hg : c.g = false) (hf : getM (costsM l) c.p = some y) : CostsAt (bump w1 (bl c.p) y c.n) bm B n D bl (getM (costsM (l ++ [c]))) := by
  have h5 := h.set (w' := bump w1 (bl c.p) y c.n) hf ⟨y.t + 1, y.all + c.n, c.n⟩ (bump_at (h.obj _ _ hf) c.n) (fun k _ hk => bump_other _ _ _ _ _ hk)
  rw [put_get l c hg y (by rw [hf]; rfl)] at h5
  exact h5
theorem bump_new (W : World) (b m : Nat) : bump W b ⟨0, 0, 0⟩ m = ((W.setCell ⟨b, 0, none⟩ (.int .i64 1)).setCell ⟨b, 1, none⟩ (.int .i64 (m : Int))).setCell ⟨b, 2, none⟩ (.int .i64 (m : Int)) := by unfold bump; simp
theorem size_le {LL : List (List WChg)} {i k : Nat} {L : List WChg} {c : WChg} (h : LL[i]? = some L) (hc : L[k]? = some c) (hg : c.g = false) : sizeC (L.take k) + c.d.size ≤ totalR (flatC LL) := by
  have h1 := sizeC_step hc
  rw [hg] at h1
  have h2 := done_tot (k := k + 1) h
  rw [totalR_append] at h2
  have h3 : totalR ((L.take (k + 1)).map cwOf) = sizeC (L.take (k + 1)) := rfl
  simp at h1
  omega
theorem sizes_le {LL : List (List WChg)} {i : Nat} {L : List WChg} (h : LL[i]? = some L) : totalR (flatC (LL.take i)) + sizeC L ≤ totalR (flatC LL) := by
  obtain ⟨R, hR⟩ := flatC_split h
  rw [hR, totalR_append, totalR_append]
  have h3 : totalR (L.map cwOf) = sizeC L := rfl
  omega
/-- a layer is told -/
theorem LookI.layer {w wr : World} {B n tot s : Nat} {done : List Cw} {szs : List Nat} (h : LookI w wr B n done tot szs) (hB : B = w.heap.size) (hi : szs.length < n) :
    LookI w ((wr.setCell ⟨B + 2, szs.length, none⟩ (.float .f64 (floatOfInt .f64 (s : Int)))).setCell ⟨B + 3, 0, none⟩ (.int .i64 ((tot : Int) + (s : Int)))) B n done (tot + s) (szs ++ [s]) := by
  obtain ⟨N, D, bl, hc, hN⟩ := h.cst
  obtain ⟨cur, h1, h2, h3⟩ := h.siz
  have other : ∀ k, k ≠ B + 2 → k ≠ B + 3 → ((wr.setCell ⟨B + 2, szs.length, none⟩ (.float .f64 (floatOfInt .f64 (s : Int)))).setCell ⟨B + 3, 0, none⟩ (.int .i64 ((tot : Int) + (s : Int)))).heap[k]? = wr.heap[k]? := fun k h4 h5 => by
    rw [Below.heap_setCell _ _ _ _ h5, Below.heap_setCell _ _ _ _ h4]
  refine ⟨⟨h.bel.os, h.bel.tape, h.bel.output, by simpa using h.bel.size, fun k hk => (other k (by omega) (by omega)).trans (h.bel.block k hk)⟩, (other _ (by omega) (by omega)).trans h.res, ⟨N, D, bl, hc.keep fun b _ hb => other b (by omega) (by omega), hN⟩, ⟨cur.setIfInBounds szs.length (.float .f64 (floatOfInt .f64 (s : Int))), ?_, by simpa using h2, fun j x hx => ?_⟩, ?_⟩
  · rw [Below.heap_setCell _ _ _ _ (by show B + 2 ≠ B + 3; omega)]
    exact block_set h1 _
  · rw [Array.getElem?_setIfInBounds]
    by_cases hj : szs.length = j
    · rw [if_pos hj, if_pos (by omega)]
      subst hj
      rw [List.getElem?_append_right (Nat.le_refl _)] at hx
      simp at hx
      rw [← hx, Fl.floatOfInt_nat]
    · rw [if_neg hj]
      by_cases hj2 : j < szs.length
      · rw [List.getElem?_append_left hj2] at hx
        exact h3 j x hx
      · rw [List.getElem?_append_right (by omega), List.getElem?_eq_none (by simp; omega)] at hx
        cases hx
  · have h4 : (wr.setCell ⟨B + 2, szs.length, none⟩ (.float .f64 (floatOfInt .f64 (s : Int)))).heap[B + 3]? = some (.cells (wasC tot 0 flOne 0 0 (.slice none 0 0)) 37 (0, 0)) := by
      rw [Below.heap_setCell _ _ _ _ (by show B + 3 ≠ B + 2; omega)]
      exact h.var
    refine (block_set (j := 0) h4 _).trans ?_
    unfold wasObj wasC
    simp
end
end Go.Proofs.YtfanfkogogijpaaGreatDoor
namespace Go.Proofs.YtfanfkogogijpaaGreatDoor
section
open Go.RowKit Go.Maps
def leastV (f : List UInt8 → Option Cost) (V : List (List UInt8)) : Nat := (V.map fun c => ((f c).getD ⟨0, 0, 0⟩).now).sum
def lostOne (f : List UInt8 → Option Cost) (c : List UInt8) : List LostB := match f c with
  | none => []
  | some x => if x.now < x.all then [⟨bs c, x.t, x.all - x.now⟩] else []
def lostV (f : List UInt8 → Option Cost) (V : List (List UInt8)) : List LostB := V.flatMap (lostOne f)
theorem leastV_snoc {f : List UInt8 → Option Cost} {V : List (List UInt8)} {c : List UInt8} {x : Cost} (h : f c = some x) : leastV f (V ++ [c]) = leastV f V + x.now := by
  unfold leastV
  rw [List.map_append, List.sum_append]
  simp [h]
theorem lostV_snoc {f : List UInt8 → Option Cost} {V : List (List UInt8)} {c : List UInt8} {x : Cost} (h : f c = some x) : lostV f (V ++ [c]) = lostV f V ++ (if x.now < x.all then [⟨bs c, x.t, x.all - x.now⟩] else []) := by
  unfold lostV
  rw [List.flatMap_append, List.flatMap_singleton]
  unfold lostOne
  rw [h]
theorem lostV_le (f : List UInt8 → Option Cost) (V : List (List UInt8)) : (lostV f V).length ≤ V.length := by
  unfold lostV
  induction V with
  | nil => exact Nat.le_refl _
  | cons c r ih =>
    rw [List.flatMap_cons, List.length_append, List.length_cons]
    have : (lostOne f c).length ≤ 1 := by
      unfold lostOne
      split
      · simp
      · split <;> simp
    omega
theorem ranges_blocks {w w' : World} {b r n : Nat} {D : DataW Nat} {left : Lit → Bool} {cnt : Nat} (h : w.ranges Tryz.prog 9 ptrE b r n D left cnt) (h1 : w'.heap[b]? = w.heap[b]?) (h2 : w'.heap[r]? = w.heap[r]?) : w'.ranges Tryz.prog 9 ptrE b r n D left cnt := by
  obtain ⟨es, clock, since, seen, c0, hb, F, hs, hD, hr, rest⟩ := h
  exact ⟨es, clock, since, seen, c0, h1.trans hb, F, hs, hD, h2.trans hr, rest⟩
/-- while the costs are summed -/
structure SumJ (w w0 W : World) (B n r : Nat) (bl : List UInt8 → Nat) (f : List UInt8 → Option Cost) (tot : Nat) (szs : List Nat) (le : Nat) (vw : Value) (R : List LostB) : Prop where
  b4 : B + 4 ≤ w0.heap.size
  r0 : w0.heap.size ≤ r
  r1 : r < W.heap.size
  bel : Below B w W
  res : W.heap[B]? = some (wasObj 0 0 0 0 0 (.slice none 0 0))
  obj : ∀ c x, f c = some x → W.heap[bl c]? = some (costObj x) ∧ B + 4 ≤ bl c ∧ bl c < w0.heap.size
  siz : ∃ cur : Array Value, W.heap[B + 2]? = some (.cells cur 34 (0, 0)) ∧ cur.size = n ∧ ∀ (j x : Nat), szs[j]? = some x → cur[j]? = some (Value.float FloatKind.f64 (Fl.fl x))
  var : W.heap[B + 3]? = some (wasObj tot le flOne 0 0 vw)
  row : W.ownsRow (r + 1) 55 3 vw R.length (R.flatMap lostC)
  nil : R.length = 0 → vw = .slice none 0 0
theorem SumJ.start {w w0 w1 : World} {B n tot N : Nat} {D : DataW Nat} {bl : List UInt8 → Nat} {done : List Cw} {szs : List Nat} {cnt : Nat} (h : LookI w w0 B n done tot szs) (hc : CostsAt w0 (B + 1) (B + 4) N D bl (getM (costsM done)))
    (hr : w1.ranges Tryz.prog 9 ptrE (B + 1) w0.heap.size N D (Maps.has D) cnt) (hg : w0.grownBy w1 none) (hs : w1.heap.size = w0.heap.size + 1) : SumJ w w0 w1 B n w0.heap.size bl (getM (costsM done)) tot szs 0 (.slice none 0 0) [] := by
  obtain ⟨cur, h1, h2, h3⟩ := h.siz
  have keep : ∀ k o, w0.heap[k]? = some o → w1.heap[k]? = some o := fun k o hk => (hg.block k (heap_lt hk) (by simp)).trans hk
  refine ⟨heap_lt h.var, Nat.le_refl _, by omega, ⟨hg.os.trans h.bel.os, hg.tape.trans h.bel.tape, hg.output.trans h.bel.output, Nat.le_trans h.bel.size hg.size, fun k hk => ?_⟩, keep _ _ h.res, fun c x hx => ⟨keep _ _ (hc.obj c x hx), hc.lo c x hx, heap_lt (hc.obj c x hx)⟩, ⟨cur, keep _ _ h1, h2, h3⟩, keep _ _ h.var, World.ownsRow_nil _ _ _ _, fun _ => rfl⟩
  have h5 := heap_lt h.res
  exact (hg.block k (by omega) (by simp)).trans (h.bel.block k hk)
theorem SumJ.step {w w0 W W' : World} {B n r : Nat} {bl : List UInt8 → Nat} {f : List UInt8 → Option Cost} {tot le le' : Nat} {szs : List Nat} {vw vw' : Value} {R R' : List LostB} (h : SumJ w w0 W B n r bl f tot szs le vw R)
    (ho : W'.os = W.os ∧ W'.tape = W.tape ∧ W'.output = W.output ∧ W.heap.size ≤ W'.heap.size) (hs : ∀ k, k < W.heap.size → k < r → k ≠ B + 3 → W'.heap[k]? = W.heap[k]?)
    (hv : W'.heap[B + 3]? = some (wasObj tot le' flOne 0 0 vw')) (hrow : W'.ownsRow (r + 1) 55 3 vw' R'.length (R'.flatMap lostC)) (hnil : R'.length = 0 → vw' = .slice none 0 0) : SumJ w w0 W' B n r bl f tot szs le' vw' R' := by
  obtain ⟨cur, h1, h2, h3⟩ := h.siz
  have b4 := h.b4
  have r0 := h.r0
  refine ⟨h.b4, h.r0, Nat.lt_of_lt_of_le h.r1 ho.2.2.2, ⟨ho.1.trans h.bel.os, ho.2.1.trans h.bel.tape, ho.2.2.1.trans h.bel.output, Nat.le_trans h.bel.size ho.2.2.2, fun k hk => ?_⟩, (hs _ (heap_lt h.res) (by omega) (by omega)).trans h.res, fun c x hx => ?_, ⟨cur, (hs _ (heap_lt h1) (by omega) (by omega)).trans h1, h2, h3⟩, hv, hrow, hnil⟩
  · have h5 := heap_lt h.res
    exact (hs k (by omega) (by omega) (by omega)).trans (h.bel.block k hk)
  · obtain ⟨e1, e2, e3⟩ := h.obj c x hx
    exact ⟨(hs _ (heap_lt e1) (by omega) (by omega)).trans e1, e2, e3⟩
theorem row_keepG {W W' : World} {base size n : Nat} {e : TypeId} {v : Value} {xs : List Value} (h : W.ownsRow base e size v n xs) (hk : ∀ k, base ≤ k → k < W.heap.size → W'.heap[k]? = W.heap[k]?) : W'.ownsRow base e size v n xs := by
  obtain ⟨h1, h2⟩ := h
  refine ⟨h1, ?_⟩
  rcases h2 with h2 | ⟨g, cap, cur, a, b, c, d⟩
  · exact .inl h2
  · exact .inr ⟨g, cap, cur, a, b, (hk g b (heap_lt c)).trans c, d⟩
/-- nothing but the iterator has turned -/
theorem SumJ.passed {w w0 W W' : World} {B n r : Nat} {bl : List UInt8 → Nat} {f : List UInt8 → Option Cost} {tot le : Nat} {szs : List Nat} {vw : Value} {R : List LostB} (h : SumJ w w0 W B n r bl f tot szs le vw R) (hg : W.grownBy W' (some r)) : SumJ w w0 W' B n r bl f tot szs le vw R := by
  have b4 := h.b4
  have r0 := h.r0
  have keep : ∀ k, k < W.heap.size → k ≠ r → W'.heap[k]? = W.heap[k]? := fun k hk hne => hg.block k hk (fun e => hne (Option.some.inj e))
  exact h.step ⟨hg.os, hg.tape, hg.output, hg.size⟩ (fun k hk hr _ => keep k hk (by omega)) ((keep _ (heap_lt h.var) (by omega)).trans h.var) (row_keepG h.row fun k hk hl => keep k hl (by omega)) h.nil
theorem SumJ.drew {w w0 W : World} {B n r : Nat} {bl : List UInt8 → Nat} {f : List UInt8 → Option Cost} {tot le : Nat} {szs : List Nat} {vw : Value} {R : List LostB} (h : SumJ w w0 W B n r bl f tot szs le vw R) : SumJ w w0 W.drew B n r bl f tot szs le vw R :=
  h.step ⟨rfl, rfl, rfl, Nat.le_refl _⟩ (fun k _ _ _ => rfl) h.var h.row h.nil
theorem SumJ.least {w w0 W : World} {B n r : Nat} {bl : List UInt8 → Nat} {f : List UInt8 → Option Cost} {tot le : Nat} {szs : List Nat} {vw : Value} {R : List LostB} (h : SumJ w w0 W B n r bl f tot szs le vw R) (m : Nat) : SumJ w w0 (W.setCell ⟨B + 3, 1, none⟩ (.int .i64 ((le : Int) + (m : Int)))) B n r bl f tot szs (le + m) vw R := by
  have b4 := h.b4
  have r0 := h.r0
  refine h.step ⟨rfl, rfl, rfl, by simp⟩ (fun k _ _ hk => Below.heap_setCell _ _ _ _ hk) ?_ (row_keepG h.row fun k hk _ => Below.heap_setCell _ _ _ _ (by show k ≠ B + 3; omega)) h.nil
  refine (block_set (j := 1) h.var _).trans ?_
  unfold wasObj wasC
  simp
theorem SumJ.app {w w0 W W' : World} {B n r : Nat} {bl : List UInt8 → Nat} {f : List UInt8 → Option Cost} {tot le : Nat} {szs : List Nat} {vw v' : Value} {R : List LostB} (h : SumJ w w0 W B n r bl f tot szs le vw R) {x : LostB} (o : Obj)
    (hrow : W'.ownsRow (r + 1) 55 3 v' (R.length + 1) (R.flatMap lostC ++ lostC x)) (hg : (W.alloc o).grownBy W' vw.ownBlock) : SumJ w w0 (W'.setCell ⟨B + 3, 5, none⟩ v') B n r bl f tot szs le v' (R ++ [x]) := by
  have b4 := h.b4
  have r0 := h.r0
  have own : ∀ k, k ≤ r → some k ≠ vw.ownBlock := fun k hk e => by
    have := (World.ownsRow.lt h.row k e.symm).1
    omega
  have hsz : W.heap.size ≤ W'.heap.size := Nat.le_trans (by simp) hg.size
  have keep : ∀ k, k < W.heap.size → k ≤ r → W'.heap[k]? = W.heap[k]? := fun k hk hr => (hg.block k (by simp; omega) (own k hr)).trans (Below.heap_alloc W o k hk)
  refine h.step ⟨hg.os, hg.tape, hg.output, by simpa using hsz⟩ (fun k hk hr hne => (Below.heap_setCell _ _ _ _ hne).trans (keep k hk (by omega))) ?_ ?_ (fun e => by simp at e)
  · refine (block_set (j := 5) ((keep _ (heap_lt h.var) (by omega)).trans h.var) v').trans ?_
    unfold wasObj wasC
    simp
  · rw [List.length_append, List.length_singleton, List.flatMap_append, List.flatMap_singleton]
    exact row_keepG hrow fun k hk _ => Below.heap_setCell _ _ _ _ (by show k ≠ B + 3; omega)
theorem SumJ.appCell {w w0 W W' : World} {B n r : Nat} {bl : List UInt8 → Nat} {f : List UInt8 → Option Cost} {tot le : Nat} {szs : List Nat} {vw : Value} {R : List LostB} (h : SumJ w w0 W B n r bl f tot szs le vw R) {o : Obj} (hg : (W.alloc o).grownBy W' vw.ownBlock) :
    W'.cell? ⟨B + 3, 5, none⟩ = some vw ∧ W'.frozen? ⟨B + 3, 5, none⟩ = false ∧ ∀ k, k ≤ r → k < W.heap.size → W'.heap[k]? = W.heap[k]? := by
  have b4 := h.b4
  have r0 := h.r0
  have own : ∀ k, k ≤ r → some k ≠ vw.ownBlock := fun k hk e => by
    have := (World.ownsRow.lt h.row k e.symm).1
    omega
  have keep : ∀ k, k ≤ r → k < W.heap.size → W'.heap[k]? = W.heap[k]? := fun k hr hk => (hg.block k (by simp; omega) (own k hr)).trans (Below.heap_alloc W o k hk)
  have hv := (keep _ (by omega) (heap_lt h.var)).trans h.var
  unfold wasObj at hv
  exact ⟨block_cell hv rfl, block_frozen hv 5, keep⟩
theorem row_formG {W : World} {base n size : Nat} {e : TypeId} {v : Value} {xs : List Value} (h : W.ownsRow base e size v n xs) : ∃ o c, v = .slice o n c := by
  obtain ⟨_, h2⟩ := h
  rcases h2 with ⟨rfl, rfl⟩ | ⟨g, cap, cur, rfl, _⟩
  · exact ⟨_, _, rfl⟩
  · exact ⟨_, _, rfl⟩
/-- an entry has come -/
theorem cost_came {D : DataW Nat} {bl : List UInt8 → Nat} {f : List UInt8 → Option Cost} (h : CostD D bl f) {x : ByteArray} {o : Option Nat} {y : DataW Nat × List MemPlace} (hv : ptrE (ptrV o) = some y) (hat : ∀ zd, D.atKey (.string x.data.toList) zd = y.1) :
    ∃ c, f x.data.toList = some c ∧ o = some (bl x.data.toList) := by
  have h1 := Maps.has_true_of_atKey hat
  obtain ⟨c, e, hc⟩ := h.has _ h1
  injection e with e
  subst e
  cases hf : f x.data.toList with
  | none => exact absurd hf hc
  | some z =>
    have h2 := h.at_ x.data.toList
    rw [hat, hf] at h2
    rw [ptrE_v] at hv
    injection hv with hv
    rw [← hv] at h2
    exact ⟨z, rfl, ptrD_inj h2⟩
theorem sub_sum {α : Type} [BEq α] [LawfulBEq α] (g : α → Nat) : ∀ (V K : List α), V.Nodup → (∀ x ∈ V, x ∈ K) → (V.map g).sum ≤ (K.map g).sum
  | [], K, _, _ => Nat.zero_le _
  | a :: V, K, hn, hs => by
    have hn2 := List.nodup_cons.1 hn
    have ha := hs a (List.mem_cons_self ..)
    have e : (K.map g).sum = g a + ((K.erase a).map g).sum := by
      rw [((List.perm_cons_erase ha).map g).sum_nat, List.map_cons, List.sum_cons]
    have ih := sub_sum g V (K.erase a) hn2.2 fun x hx => (List.mem_erase_of_ne (fun e => by subst e; exact hn2.1 hx)).2 (hs x (List.mem_cons_of_mem _ hx))
    rw [List.map_cons, List.sum_cons, e]
    omega
theorem sub_length {α : Type} [BEq α] [LawfulBEq α] (V K : List α) (h : V.Nodup) (hs : ∀ x ∈ V, x ∈ K) : V.length ≤ K.length := by
  have := sub_sum (fun _ => 1) V K h hs
  have e : ∀ L : List α, (L.map fun _ => 1).sum = L.length := fun L => by
    induction L with
    | nil => rfl
    | cons a r ih => rw [List.map_cons, List.sum_cons, ih, List.length_cons]; omega
  rwa [e, e] at this
/-- what has been passed -/
structure SeenV (f : List UInt8 → Option Cost) (left : Lit → Bool) (V : List (List UInt8)) : Prop where
  nod : V.Nodup
  mem : ∀ c, c ∈ V ↔ f c ≠ none ∧ left (.string c) = false
theorem SeenV.start {D : DataW Nat} {bl : List UInt8 → Nat} {f : List UInt8 → Option Cost} (h : CostD D bl f) : SeenV f (Maps.has D) [] :=
  ⟨List.nodup_nil, fun c => ⟨fun h => (by cases h), fun ⟨a, b⟩ => by rw [h.conv a] at b; cases b⟩⟩
theorem SeenV.step {f : List UInt8 → Option Cost} {left : Lit → Bool} {V : List (List UInt8)} (h : SeenV f left V) {q : List UInt8} {x : Cost} (hq : f q = some x) (hl : left (.string q) = true) : SeenV f (fun z => left z && !z.sameKey (.string q)) (V ++ [q]) := by
  have hqV : q ∉ V := fun hm => by rw [((h.mem q).1 hm).2] at hl; cases hl
  refine ⟨?_, fun c => ?_⟩
  · rw [List.nodup_append]
    exact ⟨h.nod, by simp, fun a ha b hb => by rw [List.mem_singleton.1 hb]; exact fun e => hqV (e ▸ ha)⟩
  · rw [List.mem_append, List.mem_singleton, h.mem c]
    by_cases hc : c = q
    · subst hc
      have : (Lit.string c).sameKey (.string c) = true := WideAt.sameKey_self (show WideAt.IsKeyLit (Lit.string c) from trivial)
      simp [this, hq]
    · have : (Lit.string c).sameKey (.string q) = false := by
        cases hh : (Lit.string c).sameKey (.string q) with
        | false => rfl
        | true => have := WideAt.sameKey_eq hh; injection this with e; exact absurd e hc
      simp [this, hc]
theorem SeenV.le {l : List Cw} {left : Lit → Bool} {V : List (List UInt8)} (h : SeenV (getM (costsM l)) left V) : V.length ≤ l.length := by
  have hs : ∀ c ∈ V, c ∈ l.map (·.p) := fun c hc => by
    have := (h.mem c).1 hc
    cases hf : getM (costsM l) c with
    | none => exact absurd hf this.1
    | some y =>
      obtain ⟨z, hz, e⟩ := key_of hf
      exact List.mem_map.2 ⟨z, hz, e⟩
  have := sub_length _ _ h.nod hs
  simpa using this
theorem SeenV.perm {l : List Cw} {left : Lit → Bool} {V : List (List UInt8)} (h : SeenV (getM (costsM l)) left V) (hl : ∀ k, left k = false) : V.Perm ((costsM l).map (·.1)) := by
  refine (List.perm_ext_iff_of_nodup h.nod (costs_keys l).1).2 fun c => ?_
  rw [h.mem c]
  constructor
  · rintro ⟨h1, _⟩
    by_cases hp : c ∈ (costsM l).map (·.1)
    · exact hp
    · exact absurd (getM_none.2 hp) h1
  · intro hp
    exact ⟨fun e => getM_none.1 e hp, hl _⟩
theorem leastV_of {l : List Cw} {V : List (List UInt8)} (h : V.Perm ((costsM l).map (·.1))) : leastV (getM (costsM l)) V = leastR l := by
  unfold leastV
  rw [(h.map _).sum_nat, List.map_map, ← costs_least]
  refine congrArg List.sum (List.map_congr_left fun x hx => ?_)
  have := getM_mem (costs_keys l).1 hx
  simp [this]
theorem leastV_le {l : List Cw} {left : Lit → Bool} {V : List (List UInt8)} {q : List UInt8} {x : Cost} (h : SeenV (getM (costsM l)) left V) (hq : getM (costsM l) q = some x) (hl : left (.string q) = true) : leastV (getM (costsM l)) V + x.now ≤ totalR l := by
  have h2 := h.step hq hl
  rw [← leastV_snoc hq]
  have hsub : ∀ c ∈ V ++ [q], c ∈ (costsM l).map (·.1) := fun c hc => by
    have := ((h2.mem c).1 hc).1
    by_cases hp : c ∈ (costsM l).map (·.1)
    · exact hp
    · exact absurd (getM_none.2 hp) this
  have e2 : leastV (getM (costsM l)) ((costsM l).map (·.1)) = leastR l := leastV_of (List.Perm.refl _)
  have e3 : leastV (getM (costsM l)) (V ++ [q]) ≤ leastV (getM (costsM l)) ((costsM l).map (·.1)) := sub_sum _ _ _ h2.nod hsub
  have e4 := costs_sum l
  omega
end
end Go.Proofs.YtfanfkogogijpaaGreatDoor
namespace Go.Proofs.YtfanfkogogijpaaGreatDoor
section
open Go.RowKit Go.Maps
theorem mem_lostV {f : List UInt8 → Option Cost} {V : List (List UInt8)} {y : LostN} : y ∈ (lostV f V).map LostB.n ↔ ∃ c ∈ V, ∃ x, f c = some x ∧ x.now < x.all ∧ y = ⟨c, x.t, x.all - x.now⟩ := by
  rw [List.mem_map]
  unfold lostV
  constructor
  · rintro ⟨z, hz, rfl⟩
    obtain ⟨c, hc, hz⟩ := List.mem_flatMap.1 hz
    unfold lostOne at hz
    cases hf : f c with
    | none => rw [hf] at hz; cases hz
    | some x =>
      rw [hf] at hz
      simp only at hz
      split at hz
      · rename_i hlt
        rw [List.mem_singleton.1 hz]
        exact ⟨c, hc, x, hf, hlt, rfl⟩
      · cases hz
  · rintro ⟨c, hc, x, hf, hlt, rfl⟩
    refine ⟨⟨bs c, x.t, x.all - x.now⟩, List.mem_flatMap.2 ⟨c, hc, ?_⟩, rfl⟩
    unfold lostOne
    rw [hf]
    simp only
    rw [if_pos hlt]
    exact List.mem_singleton.2 rfl
/-- sorted, they are as the reference lists them -/
theorem sorted_is {l : List Cw} {V : List (List UInt8)} (hV : V.Perm ((costsM l).map (·.1))) {R : List LostB} (hR : R.Perm (lostV (getM (costsM l)) V)) (hs : (R.map LostB.n).Pairwise (fun a b => aheadB a b = true)) : R = (worstR l).map LostN.by := by
  have e : R.map LostB.n = worstR l := by
    refine sorted_one hs (worstR_law l).1 fun y => ?_
    rw [← costs_worst l y, (hR.map LostB.n).mem_iff, mem_lostV]
    constructor
    · rintro ⟨c, hc, x, hf, hlt, rfl⟩
      obtain ⟨z, hz, rfl⟩ := List.mem_map.1 (hV.mem_iff.1 hc)
      have := getM_mem (costs_keys l).1 hz
      rw [hf] at this
      injection this with this
      subst this
      exact List.mem_map.2 ⟨z, List.mem_filter.2 ⟨hz, by simpa using hlt⟩, rfl⟩
    · intro hy
      obtain ⟨z, hz, rfl⟩ := List.mem_map.1 hy
      obtain ⟨hz1, hz2⟩ := List.mem_filter.1 hz
      exact ⟨z.1, hV.mem_iff.2 (List.mem_map.2 ⟨z, hz1, rfl⟩), z.2, getM_mem (costs_keys l).1 hz1, by simpa using hz2, rfl⟩
  rw [← e, List.map_map]
  have : ∀ x : LostB, (LostN.by ∘ LostB.n) x = x := fun x => by
    show (⟨bs x.p.data.toList, x.t, x.b⟩ : LostB) = x
    rw [bs_of]
  rw [List.map_congr_left (g := id) fun x _ => this x, List.map_id]
theorem lostV_apart {l : List Cw} {V : List (List UInt8)} (h : V.Nodup) : (lostV (getM (costsM l)) V).Pairwise (fun a b => a.p ≠ b.p) := by
  unfold lostV
  induction V with
  | nil => exact List.Pairwise.nil
  | cons c V ih =>
    have hn := List.nodup_cons.1 h
    rw [List.flatMap_cons, List.pairwise_append]
    have one : ∀ c z, z ∈ lostOne (getM (costsM l)) c → z.p = bs c := fun c z hz => by
      unfold lostOne at hz
      split at hz
      · cases hz
      · split at hz
        · rw [List.mem_singleton.1 hz]
        · cases hz
    refine ⟨?_, ih hn.2, fun a ha b hb e => ?_⟩
    · unfold lostOne
      split
      · exact List.Pairwise.nil
      · split
        · exact List.pairwise_singleton _ _
        · exact List.Pairwise.nil
    · obtain ⟨d, hd, hb⟩ := List.mem_flatMap.1 hb
      rw [one c a ha, one d b hb] at e
      have : c = d := by rw [← bs_toList c, ← bs_toList d, e]
      exact hn.1 (this ▸ hd)
/-- the end of a look -/
structure FinJ (w W : World) (B n : Nat) (szs : List Nat) (tot le : Int) (sc me sp : Nat) (vw : Value) (R : List LostB) : Prop where
  bel : Below B w W
  res : W.heap[B]? = some (wasObj 0 0 0 0 0 (.slice none 0 0))
  siz : ∃ cur : Array Value, W.heap[B + 2]? = some (.cells cur 34 (0, 0)) ∧ cur.size = n ∧ ∀ (j x : Nat), szs[j]? = some x → cur[j]? = some (Value.float FloatKind.f64 (Fl.fl x))
  var : W.heap[B + 3]? = some (wasObj tot le sc me sp vw)
  row : W.ownsRow (B + 4) 55 3 vw R.length (R.flatMap lostC)
  nil : R.length = 0 → vw = .slice none 0 0
theorem row_baseG {W : World} {base base' n size : Nat} {e : TypeId} {v : Value} {xs : List Value} (h : W.ownsRow base e size v n xs) (hb : base' ≤ base) : W.ownsRow base' e size v n xs := by
  obtain ⟨h1, h2⟩ := h
  refine ⟨h1, ?_⟩
  rcases h2 with h2 | ⟨g, cap, cur, a, b, c⟩
  · exact .inl h2
  · exact .inr ⟨g, cap, cur, a, Nat.le_trans hb b, c⟩
/-- behind the sort -/
theorem SumJ.sorted {w w0 W W' : World} {B n r : Nat} {bl : List UInt8 → Nat} {f : List UInt8 → Option Cost} {tot le : Nat} {szs : List Nat} {vw : Value} {R R' : List LostB} (h : SumJ w w0 W B n r bl f tot szs le vw R) (hg : W.grownBy W' vw.ownBlock)
    (hrow : W'.ownsRow (r + 1) 55 3 vw R'.length (R'.flatMap lostC)) : FinJ w W' B n szs tot le flOne 0 0 vw R' := by
  obtain ⟨cur, h1, h2, h3⟩ := h.siz
  have b4 := h.b4
  have r0 := h.r0
  have own : ∀ k, k ≤ r → some k ≠ vw.ownBlock := fun k hk e => by
    have := (World.ownsRow.lt h.row k e.symm).1
    omega
  have keep : ∀ k, k ≤ r → k < W.heap.size → W'.heap[k]? = W.heap[k]? := fun k hr hk => hg.block k hk (own k hr)
  refine ⟨⟨hg.os.trans h.bel.os, hg.tape.trans h.bel.tape, hg.output.trans h.bel.output, Nat.le_trans h.bel.size hg.size, fun k hk => ?_⟩, (keep _ (by omega) (heap_lt h.res)).trans h.res, ⟨cur, (keep _ (by omega) (heap_lt h1)).trans h1, h2, h3⟩, (keep _ (by omega) (heap_lt h.var)).trans h.var, row_baseG hrow (by omega), fun e => ?_⟩
  rotate_left
  · obtain ⟨o1, c1, e1⟩ := row_formG h.row
    obtain ⟨o2, c2, e2⟩ := row_formG hrow
    refine h.nil ?_
    rw [e1] at e2
    injection e2 with _ e2 _
    omega
  have h5 := heap_lt h.res
  exact (keep k (by omega) (by omega)).trans (h.bel.block k hk)
theorem FinJ.drew {w W : World} {B n : Nat} {szs : List Nat} {tot le : Int} {sc me sp : Nat} {vw : Value} {R : List LostB} (h : FinJ w W B n szs tot le sc me sp vw R) : FinJ w W.drew B n szs tot le sc me sp vw R :=
  ⟨⟨h.bel.os, h.bel.tape, h.bel.output, h.bel.size, h.bel.block⟩, h.res, h.siz, h.var, row_keepG (W' := W.drew) h.row fun _ _ _ => rfl, h.nil⟩
theorem FinJ.put {w W : World} {B n j : Nat} {szs : List Nat} {tot le : Int} {sc me sp sc' me' sp' : Nat} {vw v : Value} {R : List LostB} (h : FinJ w W B n szs tot le sc me sp vw R) (hc : (wasC tot le sc me sp vw).setIfInBounds j v = wasC tot le sc' me' sp' vw) : FinJ w (W.setCell ⟨B + 3, j, none⟩ v) B n szs tot le sc' me' sp' vw R := by
  obtain ⟨cur, h1, h2, h3⟩ := h.siz
  have other : ∀ k, k ≠ B + 3 → (W.setCell ⟨B + 3, j, none⟩ v).heap[k]? = W.heap[k]? := fun k hk => Below.heap_setCell _ _ _ _ hk
  refine ⟨⟨h.bel.os, h.bel.tape, h.bel.output, by simpa using h.bel.size, fun k hk => (other k (by omega)).trans (h.bel.block k hk)⟩, (other _ (by omega)).trans h.res, ⟨cur, (other _ (by omega)).trans h1, h2, h3⟩, ?_, row_keepG h.row fun k hk _ => other k (by omega), h.nil⟩
  refine (block_set (j := j) h.var v).trans ?_
  rw [hc]
  rfl
theorem FinJ.cells {w W : World} {B n : Nat} {szs : List Nat} {tot le : Int} {sc me sp : Nat} {vw : Value} {R : List LostB} (h : FinJ w W B n szs tot le sc me sp vw R) :
    W.cell? ⟨B + 1 + 1 + 1, 0, none⟩ = some (.int .i64 tot) ∧ W.cell? ⟨B + 1 + 1 + 1, 1, none⟩ = some (.int .i64 le) ∧ W.cell? ⟨B + 1 + 1 + 1, 2, none⟩ = some (.float .f64 sc) ∧ W.cell? ⟨B + 1 + 1 + 1, 3, none⟩ = some (.float .f64 me) ∧ W.cell? ⟨B + 1 + 1 + 1, 4, none⟩ = some (.float .f64 sp) ∧
      W.frozen? ⟨B + 1 + 1 + 1, 2, none⟩ = false ∧ W.frozen? ⟨B + 1 + 1 + 1, 3, none⟩ = false ∧ W.frozen? ⟨B + 1 + 1 + 1, 4, none⟩ = false := by
  have hv : W.heap[B + 1 + 1 + 1]? = some (.cells (wasC tot le sc me sp vw) 37 (0, 0)) := h.var
  exact ⟨block_cell hv rfl, block_cell hv rfl, block_cell hv rfl, block_cell hv rfl, block_cell hv rfl, block_frozen hv _, block_frozen hv _, block_frozen hv _⟩
theorem FinJ.size {w W : World} {B n : Nat} {szs : List Nat} {tot le : Int} {sc me sp : Nat} {vw : Value} {R : List LostB} (h : FinJ w W B n szs tot le sc me sp vw R) {j x : Nat} (hx : szs[j]? = some x) : W.cell? ⟨B + 1 + 1, j, none⟩ = some (.float .f64 (Fl.fl x)) := by
  obtain ⟨cur, h1, h2, h3⟩ := h.siz
  exact block_cell (b := B + 1 + 1) h1 (h3 j x hx)
/-- the answer's cell is written -/
theorem FinJ.out {w W : World} {B n : Nat} {szs : List Nat} {tot le : Int} {sc me sp : Nat} {vw : Value} {R : List LostB} (h : FinJ w W B n szs tot le sc me sp vw R) (hB : B = w.heap.size) (cs : Array Value) : (W.setRow B cs).ownsRow B 55 3 vw R.length (R.flatMap lostC) ∧ Below w.heap.size w (W.setRow B cs) ∧ (R.length = 0 → vw = .slice none 0 0) := by
  subst hB
  refine ⟨row_baseG (row_keepG h.row fun k hk _ => setRow_other _ _ k _ (by omega)) (by omega), ⟨h.bel.os, h.bel.tape, h.bel.output, by simpa using h.bel.size, fun k hk => (setRow_other _ _ k _ (by omega)).trans (h.bel.block k hk)⟩, h.nil⟩
end
end Go.Proofs.YtfanfkogogijpaaGreatDoor
