/- Floats: what comes of the operations, how it lies. -/
import Derived.Test.YtebniijkhjnbdaaLFloat
set_option linter.unusedSimpArgs false
set_option linter.unusedVariables false
set_option exponentiation.threshold 3000
namespace Go.Proofs.Ytebniijkhjnbdaa
namespace Fl
open Ieee
theorem rep {k : Nat} (hk : k < 9007199254740992) (j : Nat) : rv (rgU (k * 2 ^ j) 0) = k * 2 ^ j := by
  by_cases h0 : k = 0
  · subst h0
    rw [Nat.zero_mul]
    decide +kernel
  have hl : k.log2 < 53 := (Nat.log2_lt h0).2 hk
  unfold rgU
  rw [log2_shift h0]
  generalize hL : max (k.log2 + j - 52) 0 = L
  have hLj : L ≤ j := by omega
  have eM : k * 2 ^ j = (k * 2 ^ (j - L)) * 2 ^ L := by rw [Nat.mul_assoc, ← Nat.pow_add, show j - L + L = j by omega]
  have hq0 : k * 2 ^ (j - L) ≠ 0 := Nat.mul_ne_zero h0 (by have := Nat.two_pow_pos (j - L); omega)
  have hql : (k * 2 ^ (j - L)).log2 = k.log2 + (j - L) := log2_shift h0 _
  rw [eM, rhe_exact _ (Nat.two_pow_pos L)]
  generalize k * 2 ^ (j - L) = q at *
  have q1 := Nat.log2_self_le hq0
  have q2 := lt_log2 q
  unfold rv mg sh
  by_cases hs : L = 0
  · subst hs
    by_cases hb : q < 4503599627370496
    · rw [if_pos (by omega), Nat.div_eq_of_lt (by omega)]
      simp
    · have hlo : q.log2 = 52 := by
        have : q.log2 < 53 := by omega
        have h2 : 52 ≤ q.log2 := (Nat.le_log2 hq0).2 (by omega)
        omega
      rw [hlo] at q2
      rw [if_neg (by omega), show ((0 - 0) * 4503599627370496 + q) / 4503599627370496 = 1 by omega]
      omega
  · have hlo : q.log2 = 52 := by omega
    rw [hlo] at q1 q2
    rw [if_neg (by omega), show ((L - 0) * 4503599627370496 + q) / 4503599627370496 = L + 1 by omega, show 4503599627370496 + ((L - 0) * 4503599627370496 + q) % 4503599627370496 = q by omega]
    rfl
theorem fl_rv {n : Nat} (h : n < 9007199254740992) : rv (fl n) = n * 2 ^ 1074 ∧ fl n < INF := by
  by_cases h0 : n = 0
  · subst h0
    rw [fl_zero]
    decide +kernel
  · have hm : rgU (n * 2 ^ 1074) 0 ≤ rgU (9007199254740992 * 2 ^ 1074) 0 := rgU_mono 0 (Nat.mul_le_mul_right _ (Nat.le_of_lt h))
    have hc : rgU (9007199254740992 * 2 ^ 1074) 0 < INF := by decide +kernel
    have hlt := Nat.lt_of_le_of_lt hm hc
    rw [fl_eq h0, Nat.min_eq_left (Nat.le_of_lt hlt)]
    exact ⟨rep h _, hlt⟩
theorem fl_mono {a b : Nat} (h : a < b) (hb : b < 9007199254740992) : fl a < fl b := by
  have ha := (fl_rv (Nat.lt_trans h hb)).1
  have hb := (fl_rv hb).1
  have h1 : a * 2 ^ 1074 < b * 2 ^ 1074 := Nat.mul_lt_mul_of_pos_right h (Nat.two_pow_pos _)
  apply Classical.byContradiction
  intro hn
  have := rv_le (Nat.le_of_not_lt hn)
  rw [ha, hb] at this
  omega
theorem fl_norm {n : Nat} (h : n < 9007199254740992) (h0 : n ≠ 0) : 4503599627370496 ≤ mg (fl n) ∧ mg (fl n) < 9007199254740992 ∧ (mg (fl n)).log2 = 52 ∧ 1021 < sh (fl n) ∧ sh (fl n) ≤ 1074 ∧ mg (fl n) * 2 ^ sh (fl n) = n * 2 ^ 1074 := by
  obtain ⟨e, hlt⟩ := fl_rv h
  have hx : 4503599627370496 ≤ fl n := by
    apply Classical.byContradiction
    intro hn
    have hn := Nat.lt_of_not_le hn
    have h1 := rv_le (Nat.le_of_lt hn)
    rw [e] at h1
    have h2 : rv 4503599627370496 = 4503599627370496 := by decide +kernel
    have h3 : 1 * 2 ^ 1074 ≤ n * 2 ^ 1074 := Nat.mul_le_mul_right _ (by omega)
    have h4 : 4503599627370496 < 1 * 2 ^ 1074 := by decide +kernel
    omega
  have em : mg (fl n) = 4503599627370496 + fl n % 4503599627370496 := if_neg (by omega)
  have hr : fl n % 4503599627370496 < 4503599627370496 := Nat.mod_lt _ (by decide)
  have l1 : 4503599627370496 ≤ mg (fl n) := by omega
  have l2 : mg (fl n) < 9007199254740992 := by omega
  have e2 : mg (fl n) * 2 ^ sh (fl n) = n * 2 ^ 1074 := e
  refine ⟨l1, l2, ?_, ?_, ?_, e2⟩
  · rw [Nat.log2_eq_iff (by omega)]
    constructor <;> omega
  · apply Classical.byContradiction
    intro hn
    have h1 : 2 ^ sh (fl n) ≤ 2 ^ 1021 := Nat.pow_le_pow_right (by decide) (by omega)
    have h2 : mg (fl n) * 2 ^ sh (fl n) < 9007199254740992 * 2 ^ 1021 := Nat.lt_of_le_of_lt (Nat.mul_le_mul_left _ h1) (Nat.mul_lt_mul_of_pos_right l2 (Nat.two_pow_pos _))
    have h3 : 1 * 2 ^ 1074 ≤ n * 2 ^ 1074 := Nat.mul_le_mul_right _ (by omega)
    have h4 : 9007199254740992 * 2 ^ 1021 = 1 * 2 ^ 1074 := by decide +kernel
    omega
  · apply Classical.byContradiction
    intro hn
    have h1 : 2 ^ 1075 ≤ 2 ^ sh (fl n) := Nat.pow_le_pow_right (by decide) (by omega)
    have h2 : 4503599627370496 * 2 ^ 1075 ≤ mg (fl n) * 2 ^ sh (fl n) := Nat.mul_le_mul l1 h1
    have h3 : n * 2 ^ 1074 < 9007199254740992 * 2 ^ 1074 := Nat.mul_lt_mul_of_pos_right h (Nat.two_pow_pos _)
    have h4 : 9007199254740992 * 2 ^ 1074 ≤ 4503599627370496 * 2 ^ 1075 := by decide +kernel
    omega
/-! ## comparing -/
theorem icmp_lt {a b : Int} (h : a < b) : compare a b = .lt := by show compareOfLessAndEq a b = _; unfold compareOfLessAndEq; rw [if_pos h]
theorem icmp_eq {a : Int} : compare a a = .eq := by show compareOfLessAndEq a a = _; unfold compareOfLessAndEq; rw [if_neg (by omega), if_pos rfl]
theorem icmp_gt {a b : Int} (h : b < a) : compare a b = .gt := by show compareOfLessAndEq a b = _; unfold compareOfLessAndEq; rw [if_neg (by omega), if_neg (by omega)]
theorem order_cmp {x y : Nat} (hx : x < INF) (hy : y < INF) : F.order x y = some (compare x y) := by
  unfold Format.order
  rw [read_nn hx, read_nn hy]
  unfold Datum.order
  simp only [Option.some.injEq]
  have hb : min (-1074 + (sh x : Int)) (-1074 + (sh y : Int)) = -1074 + ((min (sh x) (sh y) : Nat) : Int) := by omega
  rw [hb, show (-1074 + (sh x : Int) - (-1074 + ((min (sh x) (sh y) : Nat) : Int))).toNat = sh x - min (sh x) (sh y) by omega, show (-1074 + (sh y : Int) - (-1074 + ((min (sh x) (sh y) : Nat) : Int))).toNat = sh y - min (sh x) (sh y) by omega]
  unfold signed
  simp only [Bool.false_eq_true, if_false, Nat.shiftLeft_eq]
  have e1 : rv x = mg x * 2 ^ (sh x - min (sh x) (sh y)) * 2 ^ min (sh x) (sh y) := by unfold rv; rw [Nat.mul_assoc, ← Nat.pow_add, show sh x - min (sh x) (sh y) + min (sh x) (sh y) = sh x by omega]
  have e2 : rv y = mg y * 2 ^ (sh y - min (sh x) (sh y)) * 2 ^ min (sh x) (sh y) := by unfold rv; rw [Nat.mul_assoc, ← Nat.pow_add, show sh y - min (sh x) (sh y) + min (sh x) (sh y) = sh y by omega]
  have hp := Nat.two_pow_pos (min (sh x) (sh y))
  generalize mg x * 2 ^ (sh x - min (sh x) (sh y)) = A at *
  generalize mg y * 2 ^ (sh y - min (sh x) (sh y)) = B at *
  generalize 2 ^ min (sh x) (sh y) = C at *
  rcases Nat.lt_trichotomy x y with h | h | h
  · have h1 := rv_lt h
    rw [e1, e2] at h1
    have h2 : A < B := Nat.lt_of_mul_lt_mul_right h1
    rw [Nat.compare_eq_lt.2 h, icmp_lt (Int.ofNat_lt.2 h2)]
  · subst h
    rw [e1] at e2
    have h2 : A = B := Nat.eq_of_mul_eq_mul_right hp e2
    rw [h2]
    rw [Nat.compare_eq_eq.2 rfl, icmp_eq]
  · have h1 := rv_lt h
    rw [e1, e2] at h1
    have h2 : B < A := Nat.lt_of_mul_lt_mul_right h1
    rw [Nat.compare_eq_gt.2 h, icmp_gt (Int.ofNat_lt.2 h2)]
/-! ## a quotient of whole numbers -/
theorem quo_lo {D n K : Nat} (hn : 0 < n) (h : K * n ≤ D) : 2 * K ≤ 2 * (D / n) + (D % n != 0).toNat := by
  have : K ≤ D / n := (Nat.le_div_iff_mul_le hn).2 h
  omega
theorem quo_hi {D n K : Nat} (hn : 0 < n) (h : D ≤ K * n) : 2 * (D / n) + (D % n != 0).toNat ≤ 2 * K := by
  have h1 : D / n ≤ K := by
    have := Nat.div_le_div_right (c := n) h
    rwa [Nat.mul_div_cancel _ hn] at this
  by_cases he : D / n = K
  · have h2 := Nat.div_add_mod D n
    rw [he, Nat.mul_comm] at h2
    have : D % n = 0 := by omega
    rw [this, he]
    simp
  · have := Bool.toNat_le (D % n != 0)
    omega
theorem div_zero_fl {n : Nat} (h : n < 9007199254740992) (h0 : n ≠ 0) : F.div 0 (fl n) = some 0 := by
  unfold Format.div
  rw [read_nn (fl_rv h).2]
  have e : F.read 0 = .number false 0 (-1074) := by decide +kernel
  rw [e]
  unfold Datum.quotient
  simp only [if_neg (mg_pos (fl_pos h0)), Option.map_some, Format.write, Bool.xor_false, Nat.zero_shiftLeft, Nat.zero_div, Nat.zero_mod, Nat.mul_zero]
  have : (0 != 0).toNat = 0 := rfl
  rw [this, Nat.add_zero, near_zero]
  rfl
theorem div_fl {T n : Nat} (hT : T < 9007199254740992) (hn : n < 9007199254740992) (h0 : n ≠ 0) : ∃ r, F.div (fl T) (fl n) = some r ∧ r ≤ INF ∧ (∀ lo, lo * n ≤ T → fl lo ≤ r) ∧ (∀ hi, T ≤ hi * n → hi < 9007199254740992 → r ≤ fl hi) ∧ (T ≠ 0 → 4368491638549381120 ≤ r) := by
  by_cases hT0 : T = 0
  · subst hT0
    rw [fl_zero]
    refine ⟨0, div_zero_fl hn h0, by decide, fun lo hlo => ?_, fun hi _ _ => Nat.zero_le _, fun h => absurd rfl h⟩
    have : lo = 0 := by
      rcases Nat.mul_eq_zero.1 (Nat.le_zero.1 hlo) with h | h
      · exact h
      · exact absurd h h0
    rw [this, fl_zero]
    exact Nat.le_refl _
  obtain ⟨x1, x2, x3, x4, x5, x6⟩ := fl_norm hT hT0
  obtain ⟨y1, y2, y3, y4, y5, y6⟩ := fl_norm hn h0
  unfold Format.div
  rw [read_nn (fl_rv hT).2, read_nn (fl_rv hn).2]
  generalize mg (fl T) = mx at *
  generalize mg (fl n) = mn at *
  generalize sh (fl T) = ax at *
  generalize sh (fl n) = an at *
  unfold Datum.quotient
  have hmn : mn ≠ 0 := by omega
  simp only [if_neg hmn, Option.map_some, Format.write, Bool.xor_false, x3, y3, F_frac, Nat.shiftLeft_eq]
  rw [show 52 + 2 + 52 - 52 = 54 by omega]
  generalize hq : 2 * (mx * 2 ^ 54 / mn) + (mx * 2 ^ 54 % mn != 0).toNat = q
  have hmn0 : 0 < mn := by omega
  have q0 : q ≠ 0 := by
    have : 1 * mn ≤ mx * 2 ^ 54 := by omega
    have := quo_lo hmn0 this
    omega
  rw [near_eq false q0 (an + 55) (ax + 1074) (by omega), word_false]
  have hp1 := Nat.two_pow_pos 1074
  refine ⟨_, rfl, Nat.min_le_right _ _, fun lo hlo => ?_, fun hi hhi hh => ?_, fun _ => ?_⟩
  · have hlT : lo < 9007199254740992 := by
      have : lo * 1 ≤ lo * n := Nat.mul_le_mul_left _ (by omega)
      omega
    obtain ⟨e, hf⟩ := fl_rv hlT
    refine Nat.le_min.2 ⟨le_rgU ?_, Nat.le_of_lt hf⟩
    rw [e]
    have key : lo * mn * 2 ^ an ≤ mx * 2 ^ ax := by
      rw [x6, Nat.mul_assoc, y6, ← Nat.mul_assoc]
      exact Nat.mul_le_mul_right _ hlo
    have goal : lo * 2 ^ (an + 55) ≤ q * 2 ^ ax := by
      by_cases hd : an ≤ ax
      · obtain ⟨dd, rfl⟩ : ∃ dd, ax = an + dd := ⟨ax - an, by omega⟩
        have k2 : lo * mn ≤ mx * 2 ^ dd := by
          rw [Nat.pow_add, ← Nat.mul_assoc, Nat.mul_right_comm mx] at key
          exact Nat.le_of_mul_le_mul_right key (Nat.two_pow_pos an)
        have k3 : lo * 2 ^ (54 - dd) * mn ≤ mx * 2 ^ 54 := by
          rw [Nat.mul_right_comm]
          refine Nat.le_trans (Nat.mul_le_mul_right _ k2) ?_
          rw [Nat.mul_assoc, ← Nat.pow_add, show dd + (54 - dd) = 54 by omega]
          exact Nat.le_refl _
        have k4 := quo_lo hmn0 k3
        rw [hq] at k4
        have k5 := Nat.mul_le_mul_right (2 ^ (an + dd)) k4
        refine Nat.le_trans (Nat.le_of_eq ?_) k5
        rw [show 2 * (lo * 2 ^ (54 - dd)) * 2 ^ (an + dd) = lo * (2 ^ 1 * 2 ^ (54 - dd) * 2 ^ (an + dd)) by rw [Nat.pow_one]; simp only [Nat.mul_comm, Nat.mul_left_comm, Nat.mul_assoc], ← Nat.pow_add, ← Nat.pow_add, show 1 + (54 - dd) + (an + dd) = an + 55 by omega]
      · obtain ⟨dd, rfl⟩ : ∃ dd, an = ax + dd := ⟨an - ax, by omega⟩
        have k2 : lo * mn * 2 ^ dd ≤ mx := by
          rw [Nat.pow_add, Nat.mul_comm (2 ^ ax), ← Nat.mul_assoc] at key
          exact Nat.le_of_mul_le_mul_right key (Nat.two_pow_pos ax)
        have k3 : lo * 2 ^ (dd + 54) * mn ≤ mx * 2 ^ 54 := by
          refine Nat.le_trans (Nat.le_of_eq ?_) (Nat.mul_le_mul_right _ k2)
          rw [Nat.pow_add]
          simp only [Nat.mul_comm, Nat.mul_left_comm, Nat.mul_assoc]
        have k4 := quo_lo hmn0 k3
        rw [hq] at k4
        have k5 := Nat.mul_le_mul_right (2 ^ ax) k4
        refine Nat.le_trans (Nat.le_of_eq ?_) k5
        rw [show 2 * (lo * 2 ^ (dd + 54)) * 2 ^ ax = lo * (2 ^ 1 * 2 ^ (dd + 54) * 2 ^ ax) by rw [Nat.pow_one]; simp only [Nat.mul_comm, Nat.mul_left_comm, Nat.mul_assoc], ← Nat.pow_add, ← Nat.pow_add, show 1 + (dd + 54) + ax = ax + dd + 55 by omega]
    rw [Nat.pow_add 2 ax, ← Nat.mul_assoc, Nat.mul_right_comm]
    exact Nat.mul_le_mul_right _ goal
  · obtain ⟨e, hf⟩ := fl_rv hh
    refine Nat.le_trans (Nat.min_le_left _ _) (rgU_le ?_)
    rw [e]
    have key : mx * 2 ^ ax ≤ hi * mn * 2 ^ an := by
      rw [x6, Nat.mul_assoc, y6, ← Nat.mul_assoc]
      exact Nat.mul_le_mul_right _ hhi
    have goal : q * 2 ^ ax ≤ hi * 2 ^ (an + 55) := by
      by_cases hd : an ≤ ax
      · obtain ⟨dd, rfl⟩ : ∃ dd, ax = an + dd := ⟨ax - an, by omega⟩
        have k2 : mx * 2 ^ dd ≤ hi * mn := by
          rw [Nat.pow_add, ← Nat.mul_assoc, Nat.mul_right_comm mx] at key
          exact Nat.le_of_mul_le_mul_right key (Nat.two_pow_pos an)
        have k3 : mx * 2 ^ 54 ≤ hi * 2 ^ (54 - dd) * mn := by
          rw [Nat.mul_right_comm]
          refine Nat.le_trans ?_ (Nat.mul_le_mul_right _ k2)
          rw [Nat.mul_assoc, ← Nat.pow_add, show dd + (54 - dd) = 54 by omega]
          exact Nat.le_refl _
        have k4 := quo_hi hmn0 k3
        rw [hq] at k4
        have k5 := Nat.mul_le_mul_right (2 ^ (an + dd)) k4
        refine Nat.le_trans k5 (Nat.le_of_eq ?_)
        rw [show 2 * (hi * 2 ^ (54 - dd)) * 2 ^ (an + dd) = hi * (2 ^ 1 * 2 ^ (54 - dd) * 2 ^ (an + dd)) by rw [Nat.pow_one]; simp only [Nat.mul_comm, Nat.mul_left_comm, Nat.mul_assoc], ← Nat.pow_add, ← Nat.pow_add, show 1 + (54 - dd) + (an + dd) = an + 55 by omega]
      · obtain ⟨dd, rfl⟩ : ∃ dd, an = ax + dd := ⟨an - ax, by omega⟩
        have k2 : mx ≤ hi * mn * 2 ^ dd := by
          rw [Nat.pow_add, Nat.mul_comm (2 ^ ax), ← Nat.mul_assoc] at key
          exact Nat.le_of_mul_le_mul_right key (Nat.two_pow_pos ax)
        have k3 : mx * 2 ^ 54 ≤ hi * 2 ^ (dd + 54) * mn := by
          refine Nat.le_trans (Nat.mul_le_mul_right _ k2) (Nat.le_of_eq ?_)
          rw [Nat.pow_add]
          simp only [Nat.mul_comm, Nat.mul_left_comm, Nat.mul_assoc]
        have k4 := quo_hi hmn0 k3
        rw [hq] at k4
        have k5 := Nat.mul_le_mul_right (2 ^ ax) k4
        refine Nat.le_trans k5 (Nat.le_of_eq ?_)
        rw [show 2 * (hi * 2 ^ (dd + 54)) * 2 ^ ax = hi * (2 ^ 1 * 2 ^ (dd + 54) * 2 ^ ax) by rw [Nat.pow_one]; simp only [Nat.mul_comm, Nat.mul_left_comm, Nat.mul_assoc], ← Nat.pow_add, ← Nat.pow_add, show 1 + (dd + 54) + ax = ax + dd + 55 by omega]
    rw [Nat.pow_add 2 ax, ← Nat.mul_assoc, Nat.mul_right_comm hi]
    exact Nat.mul_le_mul_right _ goal
  · refine Nat.le_min.2 ⟨le_rgU ?_, by decide⟩
    have e : rv 4368491638549381120 = 2 ^ 1021 := by decide +kernel
    rw [e, ← Nat.pow_add]
    have k3 : 9007199254740992 * mn ≤ mx * 2 ^ 54 := by omega
    have k4 := quo_lo hmn0 k3
    rw [hq] at k4
    have k5 : 2 ^ 54 * 2 ^ (ax + 1074) ≤ q * 2 ^ (ax + 1074) := Nat.mul_le_mul_right _ k4
    refine Nat.le_trans ?_ k5
    rw [← Nat.pow_add]
    exact Nat.pow_le_pow_right (by decide) (by omega)
theorem fine {y : Nat} (h : y = 0 ∨ 4368491638549381120 ≤ y) : 2 ^ 969 ∣ rv y := by
  rcases h with rfl | h
  · exact ⟨0, by decide +kernel⟩
  · unfold rv
    have : 969 ≤ sh y := by unfold sh; omega
    exact Nat.dvd_mul_left_of_dvd (Nat.pow_dvd_pow 2 this) _
theorem fine_fl {n : Nat} (h : n < 9007199254740992) : 2 ^ 969 ∣ rv (fl n) := by
  rw [(fl_rv h).1]
  exact Nat.dvd_mul_left_of_dvd (Nat.pow_dvd_pow 2 (by decide)) _
/-! ## a difference -/
theorem sub_fl {x y : Nat} (hx : x < INF) (hy : y < INF) : ∃ neg r, F.sub x y = some (F.word neg r) ∧ r ≤ INF ∧ (x = y → F.word neg r = 0) ∧ (∀ j ρ, 2 ^ j ∣ rv x → 2 ^ j ∣ rv y → x ≠ y → rv ρ ≤ 2 ^ j → ρ ≤ INF → ρ ≤ r) := by
  unfold Format.sub
  rw [read_nn hx, read_nn hy]
  unfold Datum.opposite Datum.sum
  simp only [Option.map_some, Format.write, Bool.not_false]
  have hb : min (-1074 + (sh x : Int)) (-1074 + (sh y : Int)) = -1074 + ((min (sh x) (sh y) : Nat) : Int) := by omega
  rw [hb, show (-1074 + (sh x : Int) - (-1074 + ((min (sh x) (sh y) : Nat) : Int))).toNat = sh x - min (sh x) (sh y) by omega, show (-1074 + (sh y : Int) - (-1074 + ((min (sh x) (sh y) : Nat) : Int))).toNat = sh y - min (sh x) (sh y) by omega]
  have e1 : rv x = mg x * 2 ^ (sh x - min (sh x) (sh y)) * 2 ^ min (sh x) (sh y) := by unfold rv; rw [Nat.mul_assoc, ← Nat.pow_add, show sh x - min (sh x) (sh y) + min (sh x) (sh y) = sh x by omega]
  have e2 : rv y = mg y * 2 ^ (sh y - min (sh x) (sh y)) * 2 ^ min (sh x) (sh y) := by unfold rv; rw [Nat.mul_assoc, ← Nat.pow_add, show sh y - min (sh x) (sh y) + min (sh x) (sh y) = sh y by omega]
  have hp := Nat.two_pow_pos (min (sh x) (sh y))
  have f1 : signed false (mg x) (sh x - min (sh x) (sh y)) = ((mg x * 2 ^ (sh x - min (sh x) (sh y)) : Nat) : Int) := by unfold signed; rw [if_neg (by decide), Nat.shiftLeft_eq]
  have f2 : signed true (mg y) (sh y - min (sh x) (sh y)) = -((mg y * 2 ^ (sh y - min (sh x) (sh y)) : Nat) : Int) := by unfold signed; rw [if_pos rfl, Nat.shiftLeft_eq]
  rw [f1, f2]
  clear f1 f2 hb
  generalize hc : min (sh x) (sh y) = c at *
  generalize mg x * 2 ^ (sh x - c) = A at *
  generalize mg y * 2 ^ (sh y - c) = B at *
  by_cases h0 : (A : Int) + -(B : Int) = 0
  · have hAB : A = B := by omega
    have hxy : x = y := rv_inj (by rw [e1, e2, hAB])
    rw [if_pos h0, h0]
    refine ⟨false, 0, congrArg some (near_zero _ _), by decide, fun _ => rfl, fun j ρ _ _ hne => absurd hxy hne⟩
  · rw [if_neg h0]
    have hn0 : ((A : Int) + -(B : Int)).natAbs ≠ 0 := by omega
    rw [near_eq _ hn0 0 c (by omega)]
    refine ⟨_, _, rfl, Nat.min_le_right _ _, fun e => ?_, fun j ρ d1 d2 hne hr hi => ?_⟩
    · exfalso
      subst e
      rw [e1] at e2
      have := Nat.eq_of_mul_eq_mul_right hp e2
      omega
    · refine Nat.le_min.2 ⟨le_rgU ?_, hi⟩
      rw [Nat.pow_zero, Nat.mul_one]
      refine Nat.le_trans hr ?_
      have e3 : ((A : Int) + -(B : Int)).natAbs * 2 ^ c = (rv x - rv y) + (rv y - rv x) := by
        rw [e1, e2]
        rcases Nat.lt_or_ge A B with h | h
        · rw [show ((A : Int) + -(B : Int)).natAbs = B - A by omega, Nat.sub_eq_zero_of_le (Nat.mul_le_mul_right _ (Nat.le_of_lt h)), Nat.zero_add, Nat.sub_mul]
        · rw [show ((A : Int) + -(B : Int)).natAbs = A - B by omega, Nat.sub_eq_zero_of_le (Nat.mul_le_mul_right (2 ^ c) h), Nat.add_zero, Nat.sub_mul]
      rw [e3]
      have hd : 2 ^ j ∣ (rv x - rv y) + (rv y - rv x) := Nat.dvd_add (Nat.dvd_sub d1 d2) (Nat.dvd_sub d2 d1)
      refine Nat.le_of_dvd ?_ hd
      have : rv x ≠ rv y := fun e => hne (rv_inj e)
      omega
/-! ## a square, a sum, a quotient, a root -/
theorem sq_fl (neg : Bool) {r : Nat} (h : r ≤ INF) : ∃ q, F.mul (F.word neg r) (F.word neg r) = some q ∧ q ≤ INF ∧ ∀ ρ, rv ρ * 2 ^ 1074 ≤ rv r * rv r → ρ ≤ INF → ρ ≤ q := by
  unfold Format.mul
  rcases Nat.lt_or_ge r INF with h1 | h1
  · rw [read_word neg h1]
    unfold Datum.product
    simp only [Option.map_some, Format.write, Bool.xor_self]
    by_cases h0 : mg r * mg r = 0
    · rw [h0, near_zero]
      refine ⟨0, rfl, by decide, fun ρ hr _ => ?_⟩
      have : rv r * rv r = 0 := by
        unfold rv
        rw [show mg r * 2 ^ sh r * (mg r * 2 ^ sh r) = mg r * mg r * (2 ^ sh r * 2 ^ sh r) by simp only [Nat.mul_comm, Nat.mul_left_comm, Nat.mul_assoc], h0, Nat.zero_mul]
      rw [this] at hr
      have h2 : rv ρ = 0 := by
        rcases Nat.mul_eq_zero.1 (Nat.le_zero.1 hr) with h | h
        · exact h
        · have := Nat.two_pow_pos 1074; omega
      have h3 : rv 0 = 0 := by decide +kernel
      rw [rv_inj (h2.trans h3.symm)]
      exact Nat.le_refl _
    · rw [near_eq false h0 1074 (sh r + sh r) (by omega), word_false]
      refine ⟨_, rfl, Nat.min_le_right _ _, fun ρ hr hi => Nat.le_min.2 ⟨le_rgU ?_, hi⟩⟩
      refine Nat.le_trans hr (Nat.le_of_eq ?_)
      unfold rv
      rw [Nat.pow_add]
      simp only [Nat.mul_comm, Nat.mul_left_comm, Nat.mul_assoc]
  · rw [Nat.le_antisymm h h1, read_inf]
    unfold Datum.product
    simp only [Option.map_some, Format.write, Bool.xor_self]
    exact ⟨_, rfl, by decide +kernel, fun ρ _ hi => Nat.le_trans hi (by decide +kernel)⟩
theorem add_fl {x y : Nat} (hx : x ≤ INF) (hy : y ≤ INF) : ∃ r, F.add x y = some r ∧ r ≤ INF ∧ x ≤ r ∧ y ≤ r := by
  unfold Format.add
  rcases Nat.lt_or_ge x INF with h1 | h1 <;> rcases Nat.lt_or_ge y INF with h2 | h2
  · rw [read_nn h1, read_nn h2]
    unfold Datum.sum
    simp only [Option.map_some, Format.write]
    have hb : min (-1074 + (sh x : Int)) (-1074 + (sh y : Int)) = -1074 + ((min (sh x) (sh y) : Nat) : Int) := by omega
    rw [hb, show (-1074 + (sh x : Int) - (-1074 + ((min (sh x) (sh y) : Nat) : Int))).toNat = sh x - min (sh x) (sh y) by omega, show (-1074 + (sh y : Int) - (-1074 + ((min (sh x) (sh y) : Nat) : Int))).toNat = sh y - min (sh x) (sh y) by omega]
    have e1 : rv x = mg x * 2 ^ (sh x - min (sh x) (sh y)) * 2 ^ min (sh x) (sh y) := by unfold rv; rw [Nat.mul_assoc, ← Nat.pow_add, show sh x - min (sh x) (sh y) + min (sh x) (sh y) = sh x by omega]
    have e2 : rv y = mg y * 2 ^ (sh y - min (sh x) (sh y)) * 2 ^ min (sh x) (sh y) := by unfold rv; rw [Nat.mul_assoc, ← Nat.pow_add, show sh y - min (sh x) (sh y) + min (sh x) (sh y) = sh y by omega]
    have f1 : signed false (mg x) (sh x - min (sh x) (sh y)) = ((mg x * 2 ^ (sh x - min (sh x) (sh y)) : Nat) : Int) := by unfold signed; rw [if_neg (by decide), Nat.shiftLeft_eq]
    have f2 : signed false (mg y) (sh y - min (sh x) (sh y)) = ((mg y * 2 ^ (sh y - min (sh x) (sh y)) : Nat) : Int) := by unfold signed; rw [if_neg (by decide), Nat.shiftLeft_eq]
    rw [f1, f2]
    clear f1 f2 hb
    generalize hc : min (sh x) (sh y) = c at *
    generalize mg x * 2 ^ (sh x - c) = A at *
    generalize mg y * 2 ^ (sh y - c) = B at *
    have e3 : ((A : Int) + (B : Int)).natAbs = A + B := by omega
    have e4 : (if (A : Int) + (B : Int) = 0 then false && false else decide ((A : Int) + (B : Int) < 0)) = false := by
      rw [decide_eq_false (by omega)]; simp
    rw [e4, e3]
    by_cases h0 : A + B = 0
    · rw [h0, near_zero]
      have a0 : A = 0 := by omega
      have b0 : B = 0 := by omega
      have h3 : rv 0 = 0 := by decide +kernel
      have x0 : x = 0 := rv_inj (by rw [e1, a0, Nat.zero_mul, h3])
      have y0 : y = 0 := rv_inj (by rw [e2, b0, Nat.zero_mul, h3])
      subst x0 y0
      exact ⟨0, rfl, by decide, Nat.le_refl _, Nat.le_refl _⟩
    · rw [near_eq false h0 0 c (by omega), word_false]
      refine ⟨_, rfl, Nat.min_le_right _ _, Nat.le_min.2 ⟨le_rgU ?_, hx⟩, Nat.le_min.2 ⟨le_rgU ?_, hy⟩⟩
      · rw [Nat.pow_zero, Nat.mul_one, e1]
        exact Nat.mul_le_mul_right _ (Nat.le_add_right _ _)
      · rw [Nat.pow_zero, Nat.mul_one, e2]
        exact Nat.mul_le_mul_right _ (Nat.le_add_left _ _)
  · have e : y = INF := Nat.le_antisymm hy h2
    have e2 : F.read y = .infinity false := by rw [e]; exact read_inf false
    rw [read_nn h1, e2]
    exact ⟨INF, rfl, Nat.le_refl _, hx, hy⟩
  · have e : x = INF := Nat.le_antisymm hx h1
    have e2 : F.read x = .infinity false := by rw [e]; exact read_inf false
    rw [e2, read_nn h2]
    exact ⟨INF, rfl, Nat.le_refl _, hx, hy⟩
  · have e : y = INF := Nat.le_antisymm hy h2
    have e2 : F.read y = .infinity false := by rw [e]; exact read_inf false
    have e3 : x = INF := Nat.le_antisymm hx h1
    have e4 : F.read x = .infinity false := by rw [e3]; exact read_inf false
    rw [e2, e4]
    exact ⟨INF, rfl, Nat.le_refl _, hx, hy⟩
theorem div_pos {s n : Nat} (hs : s ≤ INF) (h8 : 2 ^ 864 ≤ rv s) (hn : n < 9007199254740992) (h0 : n ≠ 0) : ∃ r, F.div s (fl n) = some r ∧ r ≤ INF ∧ 0 < r := by
  unfold Format.div
  obtain ⟨y1, y2, y3, y4, y5, y6⟩ := fl_norm hn h0
  rw [read_nn (fl_rv hn).2]
  generalize mg (fl n) = mn at *
  generalize sh (fl n) = an at *
  have hmn : mn ≠ 0 := by omega
  rcases Nat.lt_or_ge s INF with h1 | h1
  · rw [read_nn h1]
    unfold Datum.quotient
    simp only [if_neg hmn, Option.map_some, Format.write, Bool.xor_false, y3, F_frac, Nat.shiftLeft_eq]
    have hm0 : mg s ≠ 0 := fun e => by
      unfold rv at h8
      rw [e, Nat.zero_mul] at h8
      have := Nat.two_pow_pos 864
      omega
    have hl : 864 ≤ (mg s).log2 + sh s := by
      rw [← log2_shift hm0, Nat.le_log2 (Nat.mul_ne_zero hm0 (by have := Nat.two_pow_pos (sh s); omega))]
      exact h8
    have hlm : (mg s).log2 ≤ 52 := by
      have : (mg s).log2 < 53 := (Nat.log2_lt hm0).2 (by unfold mg; split <;> omega)
      omega
    have hself := Nat.log2_self_le hm0
    generalize mg s = m at *
    generalize sh s = a at *
    rw [show 52 + 2 + 52 - m.log2 = 106 - m.log2 by omega]
    generalize hq : 2 * (m * 2 ^ (106 - m.log2) / mn) + (m * 2 ^ (106 - m.log2) % mn != 0).toNat = q
    have k3 : 9007199254740992 * mn ≤ m * 2 ^ (106 - m.log2) := by
      have h3 : 2 ^ m.log2 * 2 ^ (106 - m.log2) ≤ m * 2 ^ (106 - m.log2) := Nat.mul_le_mul_right _ hself
      rw [← Nat.pow_add, show m.log2 + (106 - m.log2) = 106 by omega] at h3
      have h4 : 9007199254740992 * mn ≤ 2 ^ 106 := by omega
      exact Nat.le_trans h4 h3
    have k4 := quo_lo (by omega) k3
    rw [hq] at k4
    rw [near_eq false (show q ≠ 0 by omega) (an + (106 - m.log2) + 1) (a + 1074) (by omega), word_false]
    refine ⟨_, rfl, Nat.min_le_right _ _, Nat.lt_min.2 ⟨?_, by decide⟩⟩
    refine le_rgU (r := 1) ?_
    have e : rv 1 = 1 := by decide +kernel
    rw [e, Nat.one_mul]
    have k5 : 2 ^ 54 * 2 ^ (a + 1074) ≤ q * 2 ^ (a + 1074) := Nat.mul_le_mul_right _ k4
    refine Nat.le_trans ?_ k5
    rw [← Nat.pow_add]
    exact Nat.pow_le_pow_right (by decide) (by omega)
  · have e : s = INF := Nat.le_antisymm hs h1
    have e2 : F.read s = .infinity false := by rw [e]; exact read_inf false
    rw [e2]
    exact ⟨INF, rfl, Nat.le_refl _, by decide⟩
theorem sqrt_pos {x : Nat} (hx : x ≤ INF) (h0 : 0 < x) : ∃ r, F.sqrt x = some r ∧ r ≤ INF ∧ 0 < r := by
  unfold Format.sqrt
  rcases Nat.lt_or_ge x INF with h1 | h1
  · rw [read_nn h1]
    have hm := mg_pos h0
    have hl : (mg x).log2 ≤ 52 := by
      have : (mg x).log2 < 53 := (Nat.log2_lt hm).2 (by unfold mg; split <;> omega)
      omega
    unfold Datum.root
    simp only [if_neg hm, Bool.false_eq_true, if_false, Option.map_some, Format.write, F_frac, Nat.shiftLeft_eq]
    generalize hmo : 2 * (52 + 2) - (mg x).log2 = mo
    generalize hm1 : mo + ((-1074 + (sh x : Int) - (mo : Int)) % 2).toNat = m1
    have hm1b : m1 ≤ 110 := by omega
    have hz : mg x * 2 ^ m1 ≠ 0 := Nat.mul_ne_zero hm (by have := Nat.two_pow_pos m1; omega)
    generalize mg x * 2 ^ m1 = n at *
    generalize Datum.rootFrom n (n.log2 / 2 + 1) 0 = wh
    have hz2 : 2 * wh + (wh * wh != n).toNat ≠ 0 := by
      by_cases hw : wh = 0
      · subst hw
        have : (0 * 0 != n) = true := by simp; omega
        rw [this]; decide
      · omega
    generalize 2 * wh + (wh * wh != n).toNat = z at *
    generalize hpl : (-1074 + (sh x : Int) - (m1 : Int)) / 2 - 1 = pl
    rw [near_eq false hz2 0 (pl + 1074).toNat (by omega), word_false]
    refine ⟨_, rfl, Nat.min_le_right _ _, Nat.lt_min.2 ⟨?_, by decide⟩⟩
    refine le_rgU (r := 1) ?_
    have e : rv 1 = 1 := by decide +kernel
    rw [e]
    have : 1 ≤ z * 2 ^ (pl + 1074).toNat := Nat.mul_pos (by omega) (Nat.two_pow_pos _)
    omega
  · have e : x = INF := Nat.le_antisymm hx h1
    have e2 : F.read x = .infinity false := by rw [e]; exact read_inf false
    rw [e2]
    exact ⟨INF, rfl, Nat.le_refl _, by decide⟩
theorem sqrt_zero : F.sqrt 0 = some 0 := by decide +kernel
theorem mul_zero_w : F.mul 0 0 = some 0 := by decide +kernel
theorem add_zero_w : F.add 0 0 = some 0 := by decide +kernel
end Fl
end Go.Proofs.Ytebniijkhjnbdaa
