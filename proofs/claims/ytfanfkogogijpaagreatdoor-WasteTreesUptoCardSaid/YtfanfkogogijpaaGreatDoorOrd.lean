/- The order of paths, plain. -/
import Derived.Test.YtfanfkogogijpaaGreatDoorSpec
import Derived.Sort.Walk0
set_option linter.unusedVariables false
namespace Go.Proofs.YtfanfkogogijpaaGreatDoor
/-- two names held against each other -/
def cmpB (a b : List UInt8) : Int := if Op.bytesLess a b then -1 else if a == b then 0 else 1
/-- two rows of names held against each other -/
def cmpPs : List (List UInt8) → List (List UInt8) → Int
  | [], [] => 0
  | [], _ :: _ => -1
  | _ :: _, [] => 1
  | x :: xs, y :: ys => if cmpB x y = 0 then cmpPs xs ys else cmpB x y
theorem cmpPs_cons (x : List UInt8) (xs : List (List UInt8)) (y : List UInt8) (ys : List (List UInt8)) : cmpPs (x :: xs) (y :: ys) = if cmpB x y = 0 then cmpPs xs ys else cmpB x y := rfl
def compareP (a b : List UInt8) : Int := cmpPs (pcs a) (pcs b)
theorem cmpB_cases (a b : List UInt8) : (cmpB a b = -1 ∧ a < b) ∨ (cmpB a b = 0 ∧ a = b) ∨ (cmpB a b = 1 ∧ b < a) := by
  unfold cmpB
  rw [bytesLess_eq]
  by_cases h : a < b
  · rw [decide_eq_true h, if_pos rfl]; exact .inl ⟨rfl, h⟩
  · rw [decide_eq_false h, if_neg (by simp)]
    by_cases h2 : a = b
    · rw [show (a == b) = true from by simpa using h2, if_pos rfl]; exact .inr (.inl ⟨rfl, h2⟩)
    · rw [show (a == b) = false from by simpa using h2, if_neg (by simp)]
      refine .inr (.inr ⟨rfl, ?_⟩)
      exact Std.lt_of_le_of_ne (Std.not_lt.1 h) (fun e => h2 e.symm)
theorem cmpB_zero {a b : List UInt8} : cmpB a b = 0 ↔ a = b := by
  rcases cmpB_cases a b with ⟨h, h1⟩ | ⟨h, h1⟩ | ⟨h, h1⟩
  · rw [h]; exact ⟨fun e => absurd e (by decide), fun e => by subst e; exact absurd h1 (Std.lt_irrefl)⟩
  · exact ⟨fun _ => h1, fun _ => h⟩
  · rw [h]; exact ⟨fun e => absurd e (by decide), fun e => by subst e; exact absurd h1 (Std.lt_irrefl)⟩
theorem cmpB_neg {a b : List UInt8} : cmpB a b < 0 ↔ a < b := by
  rcases cmpB_cases a b with ⟨h, h1⟩ | ⟨h, h1⟩ | ⟨h, h1⟩
  · rw [h]; exact ⟨fun _ => h1, fun _ => by decide⟩
  · rw [h]; exact ⟨fun e => absurd e (by decide), fun e => by subst h1; exact absurd e (Std.lt_irrefl)⟩
  · rw [h]; exact ⟨fun e => absurd e (by decide), fun e => absurd (Std.lt_trans h1 e) (Std.lt_irrefl)⟩
theorem cmpB_flip (a b : List UInt8) : cmpB b a = - cmpB a b := by
  rcases cmpB_cases a b with ⟨h, h1⟩ | ⟨h, h1⟩ | ⟨h, h1⟩
  · rcases cmpB_cases b a with ⟨k, k1⟩ | ⟨k, k1⟩ | ⟨k, k1⟩
    · exact absurd (Std.lt_trans h1 k1) (Std.lt_irrefl)
    · subst k1; exact absurd h1 (Std.lt_irrefl)
    · rw [h, k]; rfl
  · subst h1
    rw [h]; rfl
  · rcases cmpB_cases b a with ⟨k, k1⟩ | ⟨k, k1⟩ | ⟨k, k1⟩
    · rw [h, k]
    · subst k1; exact absurd h1 (Std.lt_irrefl)
    · exact absurd (Std.lt_trans h1 k1) (Std.lt_irrefl)
theorem cmpPs_zero : ∀ {a b : List (List UInt8)}, cmpPs a b = 0 ↔ a = b
  | [], [] => ⟨fun _ => rfl, fun _ => rfl⟩
  | [], _ :: _ => ⟨fun h => (by cases h), fun h => (by cases h)⟩
  | _ :: _, [] => ⟨fun h => (by cases h), fun h => (by cases h)⟩
  | x :: xs, y :: ys => by
    rw [cmpPs_cons]
    by_cases h : cmpB x y = 0
    · rw [if_pos h, cmpPs_zero, cmpB_zero.1 h]
      simp
    · rw [if_neg h]
      refine ⟨fun e => absurd e h, fun e => ?_⟩
      injection e with e1 _
      exact absurd (cmpB_zero.2 e1) h
theorem cmpPs_flip : ∀ (a b : List (List UInt8)), cmpPs b a = - cmpPs a b
  | [], [] => rfl
  | [], _ :: _ => rfl
  | _ :: _, [] => rfl
  | x :: xs, y :: ys => by
    rw [cmpPs_cons, cmpPs_cons, cmpB_flip x y]
    by_cases h : cmpB x y = 0
    · rw [if_pos h, if_pos (by rw [h]; rfl), cmpPs_flip xs ys]
    · rw [if_neg h, if_neg (by omega)]
theorem cmpPs_trans : ∀ {a b c : List (List UInt8)}, cmpPs a b < 0 → cmpPs b c < 0 → cmpPs a c < 0
  | [], [], _, h, _ => absurd h (by decide)
  | [], _ :: _, [], _, h => absurd h (by show ¬ (1 : Int) < 0; decide)
  | [], _ :: _, _ :: _, _, _ => by show (-1 : Int) < 0; decide
  | _ :: _, [], _, h, _ => absurd h (by show ¬ (1 : Int) < 0; decide)
  | _ :: _, _ :: _, [], _, h => absurd h (by show ¬ (1 : Int) < 0; decide)
  | x :: xs, y :: ys, z :: zs, h, k => by
    rw [cmpPs_cons] at h k ⊢
    by_cases h1 : cmpB x y = 0
    · rw [if_pos h1] at h
      rw [cmpB_zero.1 h1]
      by_cases k1 : cmpB y z = 0
      · rw [if_pos k1] at k ⊢
        exact cmpPs_trans h k
      · rw [if_neg k1] at k ⊢
        exact k
    · rw [if_neg h1] at h
      by_cases k1 : cmpB y z = 0
      · rw [← cmpB_zero.1 k1, if_neg h1]
        exact h
      · rw [if_neg k1] at k
        have h2 := Std.lt_trans (cmpB_neg.1 h) (cmpB_neg.1 k)
        have h3 := cmpB_neg.2 h2
        rw [if_neg (by omega)]
        exact h3
/-- the pieces put together again -/
def glue : List (List UInt8) → List UInt8
  | [] => []
  | [x] => x
  | x :: y :: r => x ++ 47 :: glue (y :: r)
theorem glue_pcs : ∀ (l : List UInt8), glue (pcs l) = l
  | [] => rfl
  | c :: t => by
    rw [pcs_cons]
    have ih := glue_pcs t
    cases hp : pcs t with
    | nil => exact absurd hp (pcs_ne t)
    | cons p ps =>
      rw [hp] at ih
      by_cases h : c = 47
      · rw [if_pos h]
        show 47 :: glue (p :: ps) = _
        rw [ih, h]
      · rw [if_neg h]
        cases ps with
        | nil => show c :: p = _; rw [← ih]; rfl
        | cons q qs => show c :: (p ++ 47 :: glue (q :: qs)) = _; rw [← ih]; rfl
theorem pcs_inj {a b : List UInt8} (h : pcs a = pcs b) : a = b := by rw [← glue_pcs a, ← glue_pcs b, h]
theorem compareP_zero {a b : List UInt8} : compareP a b = 0 ↔ a = b := ⟨fun h => pcs_inj (cmpPs_zero.1 h), fun h => by subst h; exact cmpPs_zero.2 rfl⟩
theorem compareP_flip (a b : List UInt8) : compareP b a = - compareP a b := cmpPs_flip _ _
theorem compareP_trans {a b c : List UInt8} (h : compareP a b < 0) (k : compareP b c < 0) : compareP a c < 0 := cmpPs_trans h k
theorem compareP_irrefl (a : List UInt8) : ¬ compareP a a < 0 := by rw [compareP_zero.2 rfl]; decide
end Go.Proofs.YtfanfkogogijpaaGreatDoor
