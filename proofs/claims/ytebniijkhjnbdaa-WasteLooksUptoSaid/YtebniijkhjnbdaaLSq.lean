/- Roots, quotients that are no number, comparisons; the changes. -/
import Derived.Test.YtebniijkhjnbdaaLFloat2
import Derived.Test.YtebniijkhjnbdaaLCost
import Derived.Test.YtebniijkhjnbdaaSmall
import Derived.Laws.Externs
set_option linter.unusedSimpArgs false
set_option linter.unusedVariables false
set_option exponentiation.threshold 3000
namespace Go.Proofs.Ytebniijkhjnbdaa
open Go.RowKit
/-- the bits of something that is no number -/
def NaNb (b : Nat) : Prop := ∃ s f, s < 2 ∧ f < 4503599627370495 ∧ b = s * 9223372036854775808 + 9218868437227405312 + 1 + f
theorem NaNb.read {b : Nat} (h : NaNb b) : ∃ s f, Fl.F.read b = .nan s f := by
  obtain ⟨s, f, hs, hf, rfl⟩ := h
  unfold Ieee.Format.read
  have e2 : (s * 9223372036854775808 + 9218868437227405312 + 1 + f) % Fl.F.signWeight = 9218868437227405312 + 1 + f := by rw [Fl.F_sign]; omega
  dsimp only
  rw [e2, Fl.F_binade, Fl.F_inf, if_neg (by omega), if_neg (by omega), if_neg (by omega)]
  exact ⟨_, _, rfl⟩
theorem NaNb.order {b : Nat} (h : NaNb b) (y : Nat) : Fl.F.order b y = none := by
  obtain ⟨s, f, e⟩ := h.read
  unfold Ieee.Format.order Ieee.Datum.order
  rw [e]
theorem NaNb.order2 {b : Nat} (h : NaNb b) (x : Nat) : Fl.F.order x b = none := by
  obtain ⟨s, f, e⟩ := h.read
  unfold Ieee.Format.order Ieee.Datum.order
  rw [e]
  cases Fl.F.read x <;> rfl
theorem NaNb.div {b : Nat} (h : NaNb b) (y : Nat) : Fl.F.div b y = none := by
  obtain ⟨s, f, e⟩ := h.read
  unfold Ieee.Format.div Ieee.Datum.quotient
  rw [e]; rfl
theorem NaNb.sqrt {b : Nat} (h : NaNb b) : Fl.F.sqrt b = none := by
  obtain ⟨s, f, e⟩ := h.read
  unfold Ieee.Format.sqrt Ieee.Datum.root
  rw [e]; rfl
theorem div_zero_zero : Fl.F.div 0 0 = none := by decide +kernel
theorem run_nan {P : Program} (w : World) (q : Question) (hq : ∀ t, NaNb (q.cut t)) (hf : q.forced = false) : ∃ b, NaNb b ∧ (choose q).run P w = .ok b w.drew := by
  refine ⟨_, hq (w.tape w.drawn q), ?_⟩
  simp only [choose, Sem.run, hf, Bool.false_eq_true, if_false]
  rfl
theorem nan_cut (x y t : Nat) : NaNb ((Question.nanBits .f64 x y).cut t) := by
  refine ⟨t % 2, (t / 2) % 4503599627370495, by omega, by omega, ?_⟩
  show (t % 2) * 2 ^ 63 + 0x7ff0000000000000 + 1 + (t / 2) % (2 ^ 52 - 1) = _
  rfl
theorem run_quo_nan {P : Program} (w : World) (t : TypeId) {x y : Nat} (h : Fl.F.div x y = none) : ∃ b, NaNb b ∧ (binOp .quo t (.float .f64 x) (.float .f64 y)).run P w = .ok (.float .f64 b) w.drew := by
  refine ⟨_, nan_cut x y (w.tape w.drawn (.nanBits .f64 x y)), ?_⟩
  have h' : FloatKind.f64.format.div x y = none := h
  simp [binOp, Op.floatArith, h', show (Question.nanBits .f64 x y).forced = false from rfl]
theorem sqrtE (x : Nat) : Extern.MathSqrt.sqrt #[.float .f64 x] = (match FloatKind.f64.format.sqrt x with | some r => pure (Value.float .f64 r) | none => (do pure (Value.float .f64 (← choose (.nanBits .f64 x x))))) := rfl
theorem sqrt_some {x r : Nat} (h : Fl.F.sqrt x = some r) (w : World) : Calls Try.prog 24 #[.float .f64 x] w fun e w' => e = .returned (.float .f64 r) ∧ w = w' := by
  have h' : FloatKind.f64.format.sqrt x = some r := h
  have hc : ∀ W, (callFunc 39 #[.float .f64 x]).run Try.prog W = .ok (.value (.float .f64 r)) W := fun W => by
    rw [@run_callFunc_extern Try.prog 39 _ Extern.MathSqrt.sqrt Try.func39 (by kernel_rfl) (by kernel_rfl) (by kernel_rfl) (by kernel_rfl)]
    rw [sqrtE]
    simp [h', Result.andThen]
  clear h h'
  go_enter Try.func24, Try.ntmps24
  go_wp2
  go_ret
  exact ⟨rfl, rfl⟩
theorem sqrt_nan {x : Nat} (h : Fl.F.sqrt x = none) (w : World) : Calls Try.prog 24 #[.float .f64 x] w fun e w' => ∃ b, NaNb b ∧ e = .returned (.float .f64 b) ∧ w' = w.drew := by
  have h' : FloatKind.f64.format.sqrt x = none := h
  obtain ⟨b, hb, hr⟩ : ∃ b, NaNb b ∧ b = (Question.nanBits .f64 x x).cut (w.tape w.drawn (.nanBits .f64 x x)) := ⟨_, nan_cut x x _, rfl⟩
  have hc : (callFunc 39 #[.float .f64 x]).run Try.prog w = .ok (.value (.float .f64 b)) w.drew := by
    rw [@run_callFunc_extern Try.prog 39 _ Extern.MathSqrt.sqrt Try.func39 (by kernel_rfl) (by kernel_rfl) (by kernel_rfl) (by kernel_rfl)]
    rw [hr]
    rw [sqrtE]
    simp [h', show (Question.nanBits .f64 x x).forced = false from rfl, Result.andThen]
  have Hb := Lib.hid hb
  clear h h' hr hb
  go_enter Try.func24, Try.ntmps24
  go_wp2
  go_ret
  exact ⟨_, Hb.out, rfl, rfl⟩
/-! ## changes -/
structure Chg where
  p : ByteArray
  g : Bool
  ep : ByteArray
  k : Int
  m : Int
  d : ByteArray
  l : ByteArray
def chgC (c : Chg) : List Value := [.string c.p, .bool c.g, .string c.ep, .int .i64 c.k, .int .i64 c.m, .string c.d, .string c.l]
theorem chgC_len (c : Chg) : (chgC c).length = 7 := rfl
theorem chgC_one (c : Chg) : (chgC c).toArray.all (·.oneCell') = true := by simp [chgC, Value.oneCell']
abbrev ChgsAt (w : World) (v : Value) (L : List Chg) : Prop := ItemsAt chgC 7 w v L
abbrev DeltasAt (w : World) (v : Value) (LL : List (List Chg)) : Prop := ListsAt chgC 7 w v LL
def cwOf (c : Chg) : Cw := ⟨c.p.data.toList, c.g, c.d.size⟩
def flatC (LL : List (List Chg)) : List Cw := LL.flatten.map cwOf
def sizeC (L : List Chg) : Nat := totalR (L.map cwOf)
structure LostB where
  p : ByteArray
  t : Nat
  b : Nat
def lostC (x : LostB) : List Value := [.string x.p, .int .i64 (x.t : Int), .int .i64 (x.b : Int)]
theorem lostC_len (x : LostB) : (lostC x).length = 3 := rfl
def LostB.n (x : LostB) : LostN := ⟨x.p.data.toList, x.t, x.b⟩
def LostN.by (x : LostN) : LostB := ⟨bs x.p, x.t, x.b⟩
/-! ## the numbers -/
def flOne : Nat := 4607182418800017408
def dF (m x : Nat) : Nat := (Fl.F.sub (Fl.fl x) m).getD 0
def qF (m x : Nat) : Nat := (Fl.F.mul (dF m x) (dF m x)).getD 0
def sumStep (m s x : Nat) : Nat := (Fl.F.add s (qF m x)).getD 0
def sumF (m : Nat) (xs : List Nat) : Nat := xs.foldl (sumStep m) 0
theorem sumF_snoc (m : Nat) (xs : List Nat) (x : Nat) : sumF m (xs ++ [x]) = sumStep m (sumF m xs) x := by unfold sumF; rw [List.foldl_append]; rfl
theorem step_ok {m s x : Nat} (hm : m ≤ Fl.INF) (hx : x < 9007199254740992) (hs : s ≤ Fl.INF) : Fl.F.sub (Fl.fl x) m = some (dF m x) ∧ Fl.F.mul (dF m x) (dF m x) = some (qF m x) ∧ Fl.F.add s (qF m x) = some (sumStep m s x) ∧ sumStep m s x ≤ Fl.INF := by
  obtain ⟨neg, r, h1, h2⟩ := Fl.sub_ok (Fl.fl_rv hx).2 hm
  obtain ⟨q, h3, h4⟩ := Fl.sq_ok neg h2
  obtain ⟨t, h5, h6⟩ := Fl.add_ok hs h4
  have e1 : dF m x = Fl.F.word neg r := by unfold dF; rw [h1]; rfl
  have e2 : qF m x = q := by unfold qF; rw [e1, h3]; rfl
  have e3 : sumStep m s x = t := by unfold sumStep; rw [e2, h5]; rfl
  exact ⟨by rw [e1]; exact h1, by rw [e1, e2]; exact h3, by rw [e2, e3]; exact h5, by rw [e3]; exact h6⟩
theorem sumF_le {m : Nat} (hm : m ≤ Fl.INF) : ∀ (xs : List Nat), (∀ x ∈ xs, x < 9007199254740992) → sumF m xs ≤ Fl.INF := by
  have : ∀ (xs : List Nat) (s : Nat), s ≤ Fl.INF → (∀ x ∈ xs, x < 9007199254740992) → xs.foldl (sumStep m) s ≤ Fl.INF := by
    intro xs
    induction xs with
    | nil => exact fun s hs _ => hs
    | cons x r ih =>
      intro s hs hx
      rw [List.foldl_cons]
      exact ih _ (step_ok hm (hx x (List.mem_cons_self ..)) hs).2.2.2 fun y hy => hx y (List.mem_cons_of_mem _ hy)
  exact fun xs hx => this xs 0 (by decide) hx
/-- what the numbers of a look are -/
structure LookV (T least : Nat) (szs : List Nat) (sc me sp : Nat) : Prop where
  sc0 : T = 0 → sc = flOne
  sc1 : T ≠ 0 → Fl.F.div (Fl.fl least) (Fl.fl T) = some sc
  me0 : szs = [] → NaNb me
  me1 : szs ≠ [] → Fl.F.div (Fl.fl T) (Fl.fl szs.length) = some me
  sp0 : szs = [] → NaNb sp
  sp1 : szs ≠ [] → ∃ q, Fl.F.div (sumF me szs) (Fl.fl szs.length) = some q ∧ Fl.F.sqrt q = some sp
end Go.Proofs.Ytebniijkhjnbdaa
