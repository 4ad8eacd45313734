/- SameFloat, SameWaste. -/
import Derived.Test.YtebniijkhjnbdaaLAlike
import Derived.Test.YtebniijkhjnbdaaLSpread
set_option linter.unusedSimpArgs false
set_option linter.unusedVariables false
set_option exponentiation.threshold 3000
namespace Go.Proofs.Ytebniijkhjnbdaa
open Go.RowKit Go.Maps
open Go.Lib hiding intOf size_eq
/-- the same float: the same bits and no NaN, or NaN both -/
def Fok (x y : Nat) : Prop := (x = y ∧ x ≤ Fl.INF) ∨ (NaNb x ∧ NaNb y)
theorem order_self {x : Nat} (h : x ≤ Fl.INF) : Fl.F.order x x = some .eq := by
  rcases Nat.lt_or_ge x Fl.INF with h1 | h1
  · rw [Fl.order_cmp h1 h1, Nat.compare_eq_eq.2 rfl]
  · rw [Nat.le_antisymm h h1]; decide +kernel
theorem order_zero {x : Nat} (h : x ≤ Fl.INF) (h0 : x ≠ 0) : Fl.F.order x 0 = some .gt := by
  rcases Nat.lt_or_ge x Fl.INF with h1 | h1
  · rw [Fl.order_cmp h1 (by decide), Nat.compare_eq_gt.2 (by omega)]
  · rw [Nat.le_antisymm h h1]; decide +kernel
theorem LookV.same {T le : Nat} {szs : List Nat} {sc me sp sc' me' sp' : Nat} (h : LookV T le szs sc me sp) (k : LookV T le szs sc' me' sp') (hT : T ≤ 1048576) (hl : le ≤ T) (hn : szs.length ≤ 1048576) (hs : ∀ x ∈ szs, x ≤ 1048576) : Fok sc sc' ∧ Fok me me' ∧ Fok sp sp' := by
  refine ⟨?_, ?_⟩
  · by_cases h0 : T = 0
    · rw [h.sc0 h0, k.sc0 h0]
      exact .inl ⟨rfl, by decide⟩
    · obtain ⟨r, h1, h2⟩ := Fl.div_ok (Fl.fl_le le) (Fl.fl_rv (n := T) (by omega)).2 (Fl.fl_pos h0)
      have a1 := h.sc1 h0
      have a2 := k.sc1 h0
      rw [h1] at a1 a2
      injection a1 with a1
      injection a2 with a2
      subst a1 a2
      exact .inl ⟨rfl, h2⟩
  · by_cases he : szs = []
    · exact ⟨.inr ⟨h.me0 he, k.me0 he⟩, .inr ⟨h.sp0 he, k.sp0 he⟩⟩
    · have hn0 : szs.length ≠ 0 := fun e => he (List.eq_nil_of_length_eq_zero e)
      obtain ⟨r, h1, h2⟩ := Fl.div_ok (Fl.fl_le T) (Fl.fl_rv (n := szs.length) (by omega)).2 (Fl.fl_pos hn0)
      have a1 := h.me1 he
      have a2 := k.me1 he
      rw [h1] at a1 a2
      injection a1 with a1
      injection a2 with a2
      subst a1 a2
      have hsl : sumF r szs ≤ Fl.INF := sumF_le h2 _ fun y hy => by have := hs y hy; omega
      obtain ⟨q, q1, q2⟩ := Fl.div_ok hsl (Fl.fl_rv (n := szs.length) (by omega)).2 (Fl.fl_pos hn0)
      obtain ⟨s, s1, s2⟩ := Fl.sqrt_ok q2
      obtain ⟨q', b1, b2⟩ := h.sp1 he
      obtain ⟨q'', c1, c2⟩ := k.sp1 he
      rw [q1] at b1 c1
      injection b1 with b1
      injection c1 with c1
      subst b1 c1
      rw [s1] at b2 c2
      injection b2 with b2
      injection c2 with c2
      subst b2 c2
      exact ⟨.inl ⟨rfl, h2⟩, .inl ⟨rfl, s2⟩⟩
set_option maxRecDepth 100000 in
set_option maxHeartbeats 1000000 in
theorem samefloat_any (x y : Nat) (h : Fok x y) (w : World) : Calls Try.prog 32 #[.float .f64 x, .float .f64 y] w fun r w' => r = .returned (.bool true) ∧ w = w' := by
  rcases h with ⟨rfl, hx⟩ | ⟨hx, hy⟩
  · have o1 : FloatKind.f64.format.order x x = some .eq := order_self hx
    by_cases h0 : x = 0
    · subst h0
      have hd : Fl.F.div 4607182418800017408 0 = some Fl.INF := by decide +kernel
      have hq := fun W => run_float_arith (P := Try.prog) W .quo 24 .f64 4607182418800017408 0 Fl.INF hd
      have o2 : FloatKind.f64.format.order Fl.INF Fl.INF = some .eq := order_self (Nat.le_refl _)
      clear hd hx
      obtain ⟨inf, hinf⟩ : ∃ i, i = Fl.INF := ⟨_, rfl⟩
      rw [← hinf] at hq o2
      clear hinf
      go_enter Try.func32, Try.ntmps32
      go_wp2_with fail
      go_ret
      exact ⟨rfl, rfl⟩
    · have o2 : FloatKind.f64.format.order x 0 = some .gt := order_zero hx h0
      clear hx h0
      go_enter Try.func32, Try.ntmps32
      go_wp2_with fail
      go_ret
      exact ⟨rfl, rfl⟩
  · have o1 : FloatKind.f64.format.order x x = none := hx.order x
    have o2 : FloatKind.f64.format.order y y = none := hy.order y
    clear hx hy
    go_enter Try.func32, Try.ntmps32
    go_wp2_with fail
    go_ret
    exact ⟨rfl, rfl⟩
set_option maxRecDepth 100000 in
set_option maxHeartbeats 2000000 in
theorem samewaste_any (T le : Int) (sc me sp sc2 me2 sp2 : Nat) (oa ob : Option Addr) (ca cb : Nat) (R : List LostB) (w : World) (h1 : Fok sc sc2) (h2 : Fok me me2) (h3 : Fok sp sp2) (ha : ItemsAt lostC 3 w (.slice oa R.length ca) R) (hb : ItemsAt lostC 3 w (.slice ob R.length cb) R) (hl : R.length ≤ 1048576) :
    Calls Try.prog 11 #[.agg #[.int .i64 T, .int .i64 le, .float .f64 sc, .float .f64 me, .float .f64 sp, .slice oa R.length ca], .agg #[.int .i64 T, .int .i64 le, .float .f64 sc2, .float .f64 me2, .float .f64 sp2, .slice ob R.length cb]] w fun r w' => r = .returned (.bool true) ∧ Below w.heap.size w w' := by
  have hs : ∀ W, Below w.heap.size w W → Calls Try.prog 31 #[.slice oa R.length ca, .slice ob R.length cb] W fun r w' => r = .returned (.bool true) ∧ Below W.heap.size W w' := fun W hW =>
    samelosts_any _ _ R W (ha.below hW (Nat.le_refl _)) (hb.below hW (Nat.le_refl _)) hl
  obtain ⟨n, hn⟩ : ∃ n, n = R.length := ⟨_, rfl⟩
  rw [← hn] at hs ⊢
  have Hs := Lib.hid hs
  have F1 := Lib.hid (fun W => samefloat_any sc sc2 h1 W)
  have F2 := Lib.hid (fun W => samefloat_any me me2 h2 W)
  have F3 := Lib.hid (fun W => samefloat_any sp sp2 h3 W)
  clear hs ha hb hn hl h1 h2 h3
  go_enter Try.func11, Try.ntmps11
  go_upto_region 1 with fail
  have hx := World.alloc_heap_new (w.alloc (.cells #[.int .i64 T, .int .i64 le, .float .f64 sc, .float .f64 me, .float .f64 sp, .slice oa n ca] 27)) (.cells #[.int .i64 T, .int .i64 le, .float .f64 sc2, .float .f64 me2, .float .f64 sp2, .slice ob n cb] 27)
  rw [show (w.alloc (.cells #[.int .i64 T, .int .i64 le, .float .f64 sc, .float .f64 me, .float .f64 sp, .slice oa n ca] 27)).heap.size = w.heap.size + 1 by simp] at hx
  have hy := (gheap_old (w.alloc (.cells #[.int .i64 T, .int .i64 le, .float .f64 sc, .float .f64 me, .float .f64 sp, .slice oa n ca] 27)) (.cells #[.int .i64 T, .int .i64 le, .float .f64 sc2, .float .f64 me2, .float .f64 sp2, .slice ob n cb] 27) (by simp : w.heap.size < _)).trans (World.alloc_heap_new w _)
  have hbl := ((Below.refl w.heap.size w).alloc (Nat.le_refl _) (.cells #[.int .i64 T, .int .i64 le, .float .f64 sc, .float .f64 me, .float .f64 sp, .slice oa n ca] 27)).alloc (by simp) (.cells #[.int .i64 T, .int .i64 le, .float .f64 sc2, .float .f64 me2, .float .f64 sp2, .slice ob n cb] 27)
  obtain ⟨w2, hw2⟩ : ∃ y, y = (w.alloc (.cells #[.int .i64 T, .int .i64 le, .float .f64 sc, .float .f64 me, .float .f64 sp, .slice oa n ca] 27)).alloc (.cells #[.int .i64 T, .int .i64 le, .float .f64 sc2, .float .f64 me2, .float .f64 sp2, .slice ob n cb] 27) := ⟨_, rfl⟩
  rw [← hw2] at hx hy hbl ⊢
  obtain ⟨g1, hg1⟩ : ∃ y, y = w.heap.size := ⟨_, rfl⟩
  obtain ⟨g2, hg2⟩ : ∃ y, y = w.heap.size + 1 := ⟨_, rfl⟩
  rw [← hg2] at hx ⊢
  rw [← hg1] at hy ⊢
  have HB := Lib.hid hbl
  have HX := Lib.hid hx
  have HY := Lib.hid hy
  have x0 := block_cell (j := 0) hx rfl
  have x1 := block_cell (j := 1) hx rfl
  have x5 := block_cell (j := 5) hx rfl
  have y0 := block_cell (j := 0) hy rfl
  have y1 := block_cell (j := 1) hy rfl
  have y5 := block_cell (j := 5) hy rfl
  clear hx hy hbl hw2 hg1 hg2
  go_wp2_with fail
  refine (Hs.out _ HB.out).mono ?_
  rintro e w5 ⟨rfl, hb5⟩
  have hx5 := (hb5.block _ (heap_lt HX.out)).trans HX.out
  have hy5 := (hb5.block _ (heap_lt HY.out)).trans HY.out
  have HB5 := Lib.hid (HB.out.trans (hb5.mono HB.out.size))
  clear hb5 x0 x1 x5 y0 y1 y5
  have x2 := block_cell (j := 2) hx5 rfl
  have x3 := block_cell (j := 3) hx5 rfl
  have x4 := block_cell (j := 4) hx5 rfl
  have y2 := block_cell (j := 2) hy5 rfl
  have y3 := block_cell (j := 3) hy5 rfl
  have y4 := block_cell (j := 4) hy5 rfl
  clear hx5 hy5
  go_wp2_with fail
  refine (F1.out _).mono ?_
  rintro e w6 ⟨rfl, rfl⟩
  go_wp2_with fail
  refine (F2.out _).mono ?_
  rintro e w6 ⟨rfl, rfl⟩
  go_wp2_with fail
  refine (F3.out _).mono ?_
  rintro e w6 ⟨rfl, rfl⟩
  go_wp2_with fail
  go_ret
  exact ⟨rfl, HB5.out⟩
end Go.Proofs.Ytebniijkhjnbdaa
