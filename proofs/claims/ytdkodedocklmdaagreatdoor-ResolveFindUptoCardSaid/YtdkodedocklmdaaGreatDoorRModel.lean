/- Ways through a tree, plain. -/
import Derived.Test.YtdkodedocklmdaaGreatDoorTCheck
set_option linter.unusedVariables false
namespace Go.Proofs.YtdkodedocklmdaaGreatDoor
/-- where a link leads from a place -/
def linkAt (a : List UInt8) (e : Ent) : List UInt8 := if e.l.data.toList.head? = some 47 then [] else a
/-- a way is gone: from a place, with these pieces left, so many links followed, this trail behind -/
def runF (L : List Ent) (keep : Bool) : Nat → List UInt8 → List (List UInt8) → Nat → List (List UInt8) → Except Nat (List UInt8 × List (List UInt8))
  | 0, a, _, _, tr => .ok (a, tr)
  | _ + 1, a, [], _, tr => .ok (a, tr)
  | f + 1, a, c :: left, hops, tr =>
    if c = [46] then runF L keep f a left hops (tr ++ [a])
    else if c = [46, 46] then runF L keep f (parent a) left hops (tr ++ [parent a])
    else match lookE L (joinP a c) with
      | none => .error 10
      | some e =>
        if e.k = 1 then runF L keep f (joinP a c) left hops (tr ++ [joinP a c])
        else if e.k = 2 then (if left ≠ [] then .error 13 else .ok (joinP a c, tr ++ [joinP a c]))
        else if keep = true ∧ left = [] then .ok (joinP a c, tr ++ [joinP a c])
        else if hops = 40 then .error 12
        else runF L keep f (linkAt a e) (pieces e.l.data.toList ++ left) (hops + 1) (tr ++ [linkAt a e])
/-- rounds that are enough -/
def needF (left : Nat) (hops : Nat) : Nat := (40 - hops) * 101 + left + 1
def wayF (L : List Ent) (keep : Bool) (way : List UInt8) : Except Nat (List UInt8 × List (List UInt8)) := runF L keep (needF (pieces way).length 0) [] (pieces way) 0 [[]]
/-- no piece is empty, none has a slash -/
theorem pcs_no47 : ∀ {l : List UInt8}, ∀ c ∈ pcs l, (47 : UInt8) ∉ c
  | [], c, h => by simp [pcs] at h; subst h; simp
  | x :: t, c, h => by
    rw [pcs_cons] at h
    by_cases hx : x = 47
    · rw [if_pos hx] at h
      rcases List.mem_cons.1 h with rfl | h
      · simp
      · exact pcs_no47 c h
    · rw [if_neg hx] at h
      have ih := @pcs_no47 t
      cases hp : pcs t with
      | nil => exact absurd hp (pcs_ne t)
      | cons p ps =>
        rw [hp] at h ih
        rcases List.mem_cons.1 h with rfl | h
        · intro hm
          rcases List.mem_cons.1 hm with hm | hm
          · exact hx hm.symm
          · exact ih p (List.mem_cons_self ..) hm
        · exact ih c (List.mem_cons_of_mem _ h)
theorem pieces_mem {l : List UInt8} : ∀ c ∈ pieces l, c ≠ [] ∧ (47 : UInt8) ∉ c := by
  intro c h
  unfold pieces at h
  obtain ⟨h1, h2⟩ := List.mem_filter.1 h
  exact ⟨fun e => by subst e; simp at h2, pcs_no47 c h1⟩
theorem pieces_cat (a c : List UInt8) : pieces (a ++ 47 :: c) = pieces a ++ pieces c := by
  unfold pieces
  rw [pcs_cat, List.filter_append]
theorem neat_pieces {l : List UInt8} (h : Neat l) : pieces l = pcs l := by
  unfold pieces
  rw [List.filter_eq_self]
  intro c hc
  cases c with
  | nil => exact absurd hc h
  | cons x t => rfl
/-- twice as many bytes as pieces, but for one -/
theorem pieces_half : ∀ (n : Nat) (l : List UInt8), l.length ≤ n → 2 * (pieces l).length ≤ l.length + 1
  | 0, l, h => by
    obtain rfl : l = [] := List.eq_nil_of_length_eq_zero (by omega)
    decide
  | n + 1, l, h => by
    have hi := cutP_is l
    by_cases hm : (cutP l).2.2 = true
    · rw [hm, if_pos rfl] at hi
      have hl : l.length = (cutP l).1.length + 1 + (cutP l).2.1.length := by
        have := congrArg List.length hi
        simp at this
        omega
      rw [hi, pieces_cat, List.length_append]
      have h1 := pieces_half n (cutP l).2.1 (by omega)
      have h2 : (pieces (cutP l).1).length = if (cutP l).1 = [] then 0 else 1 := by
        unfold pieces
        rw [pcs_plain (cutP_fst l)]
        split
        · rename_i e; rw [e]; rfl
        · rename_i e
          cases hc : (cutP l).1 with
          | nil => exact absurd hc e
          | cons x t => rfl
      rw [← hi]
      split at h2
      · omega
      · rename_i e
        have := List.length_pos_iff.2 e
        omega
    · rw [if_neg hm] at hi
      have hn : (47 : UInt8) ∉ l := by rw [hi]; exact cutP_fst l
      unfold pieces
      rw [pcs_plain hn]
      cases l with
      | nil => decide
      | cons x t => simp
end Go.Proofs.YtdkodedocklmdaaGreatDoor
