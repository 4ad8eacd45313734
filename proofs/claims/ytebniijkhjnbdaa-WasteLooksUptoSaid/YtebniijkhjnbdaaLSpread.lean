/- The mean lies between the layers; they spread just where they differ: plain. -/
import Derived.Test.YtebniijkhjnbdaaLSq
set_option linter.unusedSimpArgs false
set_option linter.unusedVariables false
set_option exponentiation.threshold 3000
namespace Go.Proofs.Ytebniijkhjnbdaa
theorem order_ge {x y : Nat} (hx : x < Fl.INF) (hy : y < Fl.INF) (h : y ≤ x) : (Fl.F.order x y == some .gt || Fl.F.order x y == some .eq) = true := by
  rw [Fl.order_cmp hx hy]
  rcases Nat.lt_or_ge y x with h1 | h1
  · rw [Nat.compare_eq_gt.2 h1]; rfl
  · rw [Nat.compare_eq_eq.2 (Nat.le_antisymm h1 h)]; rfl
theorem order_le {x y : Nat} (hx : x < Fl.INF) (hy : y < Fl.INF) (h : x ≤ y) : (Fl.F.order x y == some .lt || Fl.F.order x y == some .eq) = true := by
  rw [Fl.order_cmp hx hy]
  rcases Nat.lt_or_ge x y with h1 | h1
  · rw [Nat.compare_eq_lt.2 h1]; rfl
  · rw [Nat.compare_eq_eq.2 (Nat.le_antisymm h h1)]; rfl
theorem order_pos {x : Nat} (hx : x ≤ Fl.INF) (h : 0 < x) : (Fl.F.order x 0 == some .gt) = true := by
  rcases Nat.lt_or_ge x Fl.INF with h1 | h1
  · rw [Fl.order_cmp h1 (by decide), Nat.compare_eq_gt.2 h]; rfl
  · rw [Nat.le_antisymm hx h1]; decide +kernel
theorem sum_bounds {lo hi : Nat} : ∀ (xs : List Nat), (∀ x ∈ xs, lo ≤ x ∧ x ≤ hi) → lo * xs.length ≤ xs.sum ∧ xs.sum ≤ hi * xs.length
  | [], _ => ⟨Nat.le_refl _, Nat.le_refl _⟩
  | x :: r, h => by
    obtain ⟨h1, h2⟩ := sum_bounds r fun y hy => h y (List.mem_cons_of_mem _ hy)
    obtain ⟨h3, h4⟩ := h x (List.mem_cons_self ..)
    rw [List.sum_cons, List.length_cons, Nat.mul_add, Nat.mul_add, Nat.mul_one, Nat.mul_one]
    omega
theorem mem_le_sum {x : Nat} : ∀ {xs : List Nat}, x ∈ xs → x ≤ xs.sum
  | y :: r, h => by
    rw [List.sum_cons]
    rcases List.mem_cons.1 h with e | h
    · omega
    · have := mem_le_sum h; omega
theorem rho1 : Fl.rv 4134304457926115328 = 2 ^ 969 := by decide +kernel
theorem rho0 : Fl.rv 3661426497052213248 = 2 ^ 864 := by decide +kernel
/-- a layer that is unlike the mean has a square of some size -/
theorem q_big {m x : Nat} (hm : m < Fl.INF) (hf : 2 ^ 969 ∣ Fl.rv m) (hx : x < 9007199254740992) (hne : Fl.fl x ≠ m) : 3661426497052213248 ≤ qF m x := by
  obtain ⟨neg, r, h1, h2, _, h4⟩ := Fl.sub_fl (Fl.fl_rv hx).2 hm
  have h5 := h4 969 4134304457926115328 (Fl.fine_fl hx) hf hne (by rw [rho1]; exact Nat.le_refl _) (by decide)
  obtain ⟨q, h6, h7, h8⟩ := Fl.sq_fl neg h2
  have e1 : dF m x = Fl.F.word neg r := by unfold dF; rw [h1]; rfl
  have e2 : qF m x = q := by unfold qF; rw [e1, h6]; rfl
  rw [e2]
  refine h8 _ ?_ (by decide)
  have h9 := Fl.rv_le h5
  rw [rho1] at h9
  rw [rho0, ← Nat.pow_add]
  have : (2 : Nat) ^ (864 + 1074) = 2 ^ 969 * 2 ^ 969 := by rw [← Nat.pow_add]
  rw [this]
  exact Nat.mul_le_mul h9 h9
theorem sum_big {m : Nat} (hm : m ≤ Fl.INF) : ∀ (xs : List Nat) (s : Nat), s ≤ Fl.INF → (∀ x ∈ xs, x < 9007199254740992) → (3661426497052213248 ≤ s ∨ ∃ x ∈ xs, 3661426497052213248 ≤ qF m x) → 3661426497052213248 ≤ xs.foldl (sumStep m) s
  | [], s, _, _, h => by
    rcases h with h | ⟨x, hx, _⟩
    · exact h
    · cases hx
  | x :: r, s, hs, hx, h => by
    rw [List.foldl_cons]
    have hx0 := hx x (List.mem_cons_self ..)
    obtain ⟨s1, s2, s3, s4⟩ := step_ok hm hx0 hs
    obtain ⟨neg, d, k1, k2⟩ := Fl.sub_ok (Fl.fl_rv hx0).2 hm
    obtain ⟨q, k3, k4⟩ := Fl.sq_ok neg k2
    have e1 : dF m x = Fl.F.word neg d := by unfold dF; rw [k1]; rfl
    have e2 : qF m x = q := by unfold qF; rw [e1, k3]; rfl
    obtain ⟨t, a1, a2, a3, a4⟩ := Fl.add_fl hs (show qF m x ≤ Fl.INF by rw [e2]; exact k4)
    rw [s3] at a1
    injection a1 with a1
    refine sum_big hm r _ s4 (fun y hy => hx y (List.mem_cons_of_mem _ hy)) ?_
    rcases h with h | ⟨y, hy, h⟩
    · exact .inl (by rw [a1]; omega)
    · rcases List.mem_cons.1 hy with e | hy
      · subst e; exact .inl (by rw [a1]; omega)
      · exact .inr ⟨y, hy, h⟩
theorem sum_none {m lo : Nat} (hl : lo < 9007199254740992) (hm : m = Fl.fl lo) : ∀ (xs : List Nat), (∀ x ∈ xs, x = lo) → xs.foldl (sumStep m) 0 = 0
  | [], _ => rfl
  | x :: r, h => by
    have e := h x (List.mem_cons_self ..)
    subst e
    have h1 := (Fl.fl_rv hl).2
    obtain ⟨neg, d, k1, _, k3, _⟩ := Fl.sub_fl h1 h1
    have e1 : dF m x = 0 := by
      unfold dF
      rw [hm, k1]
      exact k3 rfl
    have e2 : qF m x = 0 := by unfold qF; rw [e1, Fl.mul_zero_w]; rfl
    have e3 : sumStep m 0 x = 0 := by unfold sumStep; rw [e2, Fl.add_zero_w]; rfl
    rw [List.foldl_cons, e3]
    exact sum_none hl hm r fun y hy => h y (List.mem_cons_of_mem _ hy)
theorem spread_law {T le sc me sp lo hi : Nat} {szs : List Nat} (h : LookV T le szs sc me sp) (hT : T = szs.sum) (hT2 : T ≤ 1048576) (hne : szs ≠ []) (hn : szs.length ≤ 1048576) (hb : ∀ x ∈ szs, lo ≤ x ∧ x ≤ hi) (mlo : lo ∈ szs) (mhi : hi ∈ szs) (hs : ∀ x ∈ szs, x ≤ 1048576) :
    (Fl.F.order me (Fl.fl lo) == some .gt || Fl.F.order me (Fl.fl lo) == some .eq) = true ∧ (Fl.F.order me (Fl.fl hi) == some .lt || Fl.F.order me (Fl.fl hi) == some .eq) = true ∧ (lo = hi → (Fl.F.order sp 0 == some .eq) = true) ∧ (lo ≠ hi → (Fl.F.order sp 0 == some .gt) = true) := by
  have hl1 := hs lo mlo
  have hh1 := hs hi mhi
  have hn0 : szs.length ≠ 0 := fun e => hne (List.eq_nil_of_length_eq_zero e)
  obtain ⟨b1, b2⟩ := sum_bounds szs hb
  rw [← hT] at b1 b2
  obtain ⟨r, r1, r2, r3, r4, r5⟩ := Fl.div_fl (T := T) (n := szs.length) (by omega) (by omega) hn0
  rw [h.me1 hne] at r1
  injection r1 with r1
  subst r1
  have m1 := r3 lo b1
  have m2 := r4 hi b2 (by omega)
  have f1 := (Fl.fl_rv (n := lo) (by omega)).2
  have f2 := (Fl.fl_rv (n := hi) (by omega)).2
  have mI : me < Fl.INF := Nat.lt_of_le_of_lt m2 f2
  obtain ⟨q, q1, q2⟩ := h.sp1 hne
  have hs2 : ∀ x ∈ szs, x < 9007199254740992 := fun x hx => by have := hs x hx; omega
  refine ⟨order_ge mI f1 m1, order_le mI f2 m2, fun e => ?_, fun e => ?_⟩
  · subst e
    have em : me = Fl.fl lo := Nat.le_antisymm m2 m1
    have e0 : sumF me szs = 0 := sum_none (by omega) em szs fun x hx => by have := hb x hx; omega
    rw [e0, Fl.div_zero_fl (by omega) hn0] at q1
    injection q1 with q1
    rw [← q1, Fl.sqrt_zero] at q2
    injection q2 with q2
    rw [← q2]
    decide +kernel
  · have hfine : 2 ^ 969 ∣ Fl.rv me := by
      refine Fl.fine ?_
      by_cases hT0 : T = 0
      · left
        have : hi = 0 := by
          by_cases h0 : hi = 0
          · exact h0
          · exfalso
            have : hi ≤ szs.sum := mem_le_sum mhi
            omega
        subst this
        rw [Fl.fl_zero] at m2
        omega
      · exact .inr (r5 hT0)
    have hex : ∃ x ∈ szs, 3661426497052213248 ≤ qF me x := by
      by_cases k1 : Fl.fl lo = me
      · refine ⟨hi, mhi, q_big mI hfine (by omega) fun k2 => e ?_⟩
        rcases Nat.lt_trichotomy lo hi with h1 | h1 | h1
        · have := Fl.fl_mono h1 (by omega); omega
        · exact h1
        · have := Fl.fl_mono h1 (by omega); omega
      · exact ⟨lo, mlo, q_big mI hfine (by omega) k1⟩
    have hsum := sum_big (Nat.le_of_lt mI) szs 0 (by decide) hs2 (.inr hex)
    have hle := sumF_le (Nat.le_of_lt mI) szs hs2
    have h8 : 2 ^ 864 ≤ Fl.rv (sumF me szs) := by
      rw [← rho0]
      exact Fl.rv_le hsum
    obtain ⟨r, d1, d2, d3⟩ := Fl.div_pos hle h8 (n := szs.length) (by omega) hn0
    rw [q1] at d1
    injection d1 with d1
    subst d1
    obtain ⟨s, s1, s2, s3⟩ := Fl.sqrt_pos d2 d3
    rw [q2] at s1
    injection s1 with s1
    subst s1
    exact order_pos s2 s3
end Go.Proofs.Ytebniijkhjnbdaa
