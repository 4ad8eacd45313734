/- Plain facts: how long the pieces of a text are together, and what is left when it is cleaned. -/
import Derived.Test.YtfanfkogogijpaaGreatDoorSpec
namespace Go.Proofs.YtfanfkogogijpaaGreatDoor

/-- what stands behind a piece more -/
def cleanStep (st : List (List UInt8)) (p : List UInt8) : List (List UInt8) := if p = [46] then st else if p = [46, 46] then st.dropLast else st ++ [p]
def cleanPieces (l : List UInt8) : List (List UInt8) := (pieces l).foldl cleanStep []
def cleanP (l : List UInt8) : List UInt8 := Lib.join (cleanPieces l) [47]

/-- the bytes of the pieces, and one for each -/
def weight (l : List (List UInt8)) : Nat := (l.map (fun p => p.length + 1)).sum
theorem weight_nil : weight [] = 0 := rfl
theorem weight_cons (p : List UInt8) (l : List (List UInt8)) : weight (p :: l) = p.length + 1 + weight l := by simp [weight]
theorem weight_append (a b : List (List UInt8)) : weight (a ++ b) = weight a + weight b := by simp [weight]
theorem weight_length (l : List (List UInt8)) : l.length ≤ weight l := by
  induction l with
  | nil => exact Nat.le_refl _
  | cons p l ih => rw [weight_cons]; simp; omega
theorem weight_filter (f : List UInt8 → Bool) (l : List (List UInt8)) : weight (l.filter f) ≤ weight l := by
  induction l with
  | nil => exact Nat.le_refl _
  | cons p l ih =>
    rw [weight_cons]
    cases h : f p
    · rw [List.filter_cons_of_neg (by simp [h])]; omega
    · rw [List.filter_cons_of_pos h, weight_cons]; omega
theorem weight_dropLast (l : List (List UInt8)) : weight l.dropLast ≤ weight l := by
  rcases List.eq_nil_or_concat l with rfl | ⟨i, x, rfl⟩
  · exact Nat.le_refl _
  · rw [List.concat_eq_append, List.dropLast_concat, weight_append]; omega
theorem weight_pcs (l : List UInt8) : weight (pcs l) = l.length + 1 := by
  induction l with
  | nil => rfl
  | cons c t ih =>
    rw [pcs_cons]
    by_cases h : c = 47
    · rw [if_pos h, weight_cons, ih]; simp; omega
    · rw [if_neg h]
      cases hp : pcs t with
      | nil => exact absurd hp (pcs_ne t)
      | cons p ps =>
        rw [hp, weight_cons] at ih
        simp only
        rw [weight_cons]
        simp
        omega
theorem weight_pieces (l : List UInt8) : weight (pieces l) ≤ l.length + 1 := by
  rw [← weight_pcs]
  exact weight_filter _ _
theorem weight_step (st : List (List UInt8)) (p : List UInt8) : weight (cleanStep st p) ≤ weight st + (p.length + 1) := by
  unfold cleanStep
  split
  · omega
  · split
    · have := weight_dropLast st; omega
    · rw [weight_append, weight_cons, weight_nil]; omega
theorem weight_fold (ps st : List (List UInt8)) : weight (ps.foldl cleanStep st) ≤ weight st + weight ps := by
  induction ps generalizing st with
  | nil => simp [weight_nil]
  | cons p ps ih =>
    have h1 := ih (cleanStep st p)
    have h2 := weight_step st p
    rw [weight_cons]
    simp only [List.foldl_cons]
    omega
theorem weight_clean (l : List UInt8) : weight (cleanPieces l) ≤ l.length + 1 := by
  have h := weight_fold (pieces l) []
  rw [weight_nil] at h
  have := weight_pieces l
  unfold cleanPieces
  omega
/-- so many pieces at the most, wherever one stands -/
theorem fold_length {l : List UInt8} {pre : List (List UInt8)} {x : List UInt8} {rest : List (List UInt8)} (h : pieces l = pre ++ x :: rest) : (pre.foldl cleanStep []).length ≤ l.length := by
  have h1 := weight_length (pre.foldl cleanStep [])
  have h2 := weight_fold pre []
  have h3 := weight_pieces l
  rw [h, weight_append, weight_cons] at h3
  rw [weight_nil] at h2
  omega
theorem join_length (l : List (List UInt8)) (sep : List UInt8) (hs : sep.length = 1) : (Lib.join l sep).length ≤ weight l := by
  induction l with
  | nil => simp [Lib.join, List.intercalate, weight_nil]
  | cons p l ih =>
    cases l with
    | nil => rw [Lib.join_one, weight_cons]; omega
    | cons q l =>
      have e : Lib.join (p :: q :: l) sep = p ++ (sep ++ Lib.join (q :: l) sep) := by simp [Lib.join, List.intercalate]
      rw [e, weight_cons]
      simp
      omega
end Go.Proofs.YtfanfkogogijpaaGreatDoor
