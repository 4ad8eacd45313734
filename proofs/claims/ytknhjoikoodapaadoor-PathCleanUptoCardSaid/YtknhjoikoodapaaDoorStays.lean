/- Plain facts: what is clean stays so; two texts one behind the other are cleaned one by one. -/
import Derived.Test.YtknhjoikoodapaaDoorWeight
namespace Go.Proofs.YtknhjoikoodapaaDoor

/-- a piece that a clean text may hold -/
def Good (p : List UInt8) : Prop := p ≠ [] ∧ p ≠ [46] ∧ p ≠ [46, 46] ∧ 47 ∉ p

theorem pcs_clear : ∀ (l : List UInt8), ∀ p ∈ pcs l, 47 ∉ p
  | [], p, h => by
    rw [show pcs [] = [[]] from rfl] at h
    obtain rfl := List.mem_singleton.1 h
    simp
  | c :: t, p, h => by
    have ih := pcs_clear t
    rw [pcs_cons] at h
    by_cases hc : c = 47
    · rw [if_pos hc] at h
      rcases List.mem_cons.1 h with rfl | h
      · simp
      · exact ih p h
    · rw [if_neg hc] at h
      cases hp : pcs t with
      | nil => exact absurd hp (pcs_ne t)
      | cons q qs =>
        rw [hp] at h ih
        simp only at h
        rcases List.mem_cons.1 h with rfl | h
        · intro h47
          rcases List.mem_cons.1 h47 with h1 | h1
          · exact hc h1.symm
          · exact ih q (by simp) h1
        · exact ih p (by simp [h])
theorem pieces_mem {l p : List UInt8} (h : p ∈ pieces l) : p ≠ [] ∧ 47 ∉ p := by
  obtain ⟨h1, h2⟩ := List.mem_filter.1 h
  exact ⟨by rintro rfl; simp at h2, pcs_clear l p h1⟩
theorem good_step {st : List (List UInt8)} {p : List UInt8} (hs : ∀ x ∈ st, Good x) (hp : p ≠ [] ∧ 47 ∉ p) : ∀ x ∈ cleanStep st p, Good x := by
  unfold cleanStep
  split
  · exact hs
  · rename_i h1
    split
    · exact fun x hx => hs x (List.dropLast_subset _ hx)
    · rename_i h2
      intro x hx
      rcases List.mem_append.1 hx with hx | hx
      · exact hs x hx
      · obtain rfl := List.mem_singleton.1 hx
        exact ⟨hp.1, h1, h2, hp.2⟩
theorem good_fold : ∀ (ps st : List (List UInt8)), (∀ x ∈ st, Good x) → (∀ p ∈ ps, p ≠ [] ∧ 47 ∉ p) → ∀ x ∈ ps.foldl cleanStep st, Good x
  | [], _, hs, _ => hs
  | p :: ps, st, hs, hp => good_fold ps (cleanStep st p) (good_step hs (hp p (by simp))) (fun q hq => hp q (by simp [hq]))
theorem good_clean (l : List UInt8) : ∀ x ∈ cleanPieces l, Good x := good_fold _ _ (by simp) (fun _ h => pieces_mem h)

theorem pcs_plain : ∀ {p : List UInt8}, 47 ∉ p → pcs p = [p]
  | [], _ => rfl
  | c :: t, h => by
    rw [pcs_cons, if_neg (fun e => h (by simp [e])), pcs_plain (fun e => h (by simp [e]))]
theorem pcs_join : ∀ (a t : List UInt8), pcs (a ++ 47 :: t) = pcs a ++ pcs t
  | [], t => by rw [List.nil_append, pcs_cons, if_pos rfl]; rfl
  | c :: a, t => by
    rw [List.cons_append, pcs_cons, pcs_cons, pcs_join a t]
    by_cases hc : c = 47
    · rw [if_pos hc, if_pos hc]; rfl
    · rw [if_neg hc, if_neg hc]
      cases hp : pcs a with
      | nil => exact absurd hp (pcs_ne a)
      | cons q qs => rfl
theorem pieces_join (a t : List UInt8) : pieces (a ++ 47 :: t) = pieces a ++ pieces t := by unfold pieces; rw [pcs_join, List.filter_append]
theorem pieces_plain {p : List UInt8} (h0 : p ≠ []) (h : 47 ∉ p) : pieces p = [p] := by
  unfold pieces
  rw [pcs_plain h]
  cases p <;> simp_all
theorem join_two (p q : List UInt8) (l : List (List UInt8)) : Lib.join (p :: q :: l) [47] = p ++ 47 :: Lib.join (q :: l) [47] := by simp [Lib.join, List.intercalate]
theorem pieces_of_join : ∀ (L : List (List UInt8)), (∀ p ∈ L, p ≠ [] ∧ 47 ∉ p) → pieces (Lib.join L [47]) = L
  | [], _ => by simp [Lib.join, List.intercalate, pieces, pcs]
  | [p], h => by rw [Lib.join_one]; exact pieces_plain (h p (by simp)).1 (h p (by simp)).2
  | p :: q :: l, h => by
    rw [join_two, pieces_join, pieces_plain (h p (by simp)).1 (h p (by simp)).2, pieces_of_join (q :: l) (fun x hx => h x (by simp at hx ⊢; exact .inr hx))]
    rfl
theorem fold_good : ∀ (L st : List (List UInt8)), (∀ x ∈ L, Good x) → L.foldl cleanStep st = st ++ L
  | [], st, _ => by simp
  | p :: L, st, h => by
    have hp := h p (by simp)
    rw [List.foldl_cons, fold_good L _ (fun x hx => h x (by simp [hx]))]
    unfold cleanStep
    rw [if_neg hp.2.1, if_neg hp.2.2.1]
    simp
theorem pieces_clean (s : List UInt8) : pieces (cleanP s) = cleanPieces s := pieces_of_join _ (fun p hp => ⟨(good_clean s p hp).1, (good_clean s p hp).2.2.2⟩)
theorem cleanPieces_clean (s : List UInt8) : cleanPieces (cleanP s) = cleanPieces s := by
  rw [cleanPieces, pieces_clean, fold_good _ _ (good_clean s)]
  rfl
theorem clean_clean (s : List UInt8) : cleanP (cleanP s) = cleanP s := by unfold cleanP; exact congrArg (Lib.join · [47]) (cleanPieces_clean s)
theorem clean_join (s t : List UInt8) : cleanP (s ++ 47 :: t) = cleanP (cleanP s ++ 47 :: t) := by
  have h : ∀ a, cleanPieces (a ++ 47 :: t) = (pieces t).foldl cleanStep (cleanPieces a) := by
    intro a
    unfold cleanPieces
    rw [pieces_join, List.foldl_append]
  show Lib.join (cleanPieces (s ++ 47 :: t)) [47] = Lib.join (cleanPieces (cleanP s ++ 47 :: t)) [47]
  rw [h, h, cleanPieces_clean]
theorem weight_join : ∀ (L : List (List UInt8)), L ≠ [] → weight L = (Lib.join L [47]).length + 1
  | [], h => absurd rfl h
  | [p], _ => by rw [Lib.join_one, weight_cons, weight_nil]
  | p :: q :: l, _ => by
    rw [join_two, weight_cons, weight_join (q :: l) (by simp)]
    simp
    omega
theorem clean_length (s : List UInt8) : (cleanP s).length ≤ s.length + 1 := Nat.le_trans (join_length _ _ rfl) (weight_clean s)
/-- what the law asks last -/
theorem clean_weight (s : List UInt8) : (cleanP s = [] ∧ weight (pieces (cleanP s)) = 0) ∨ weight (pieces (cleanP s)) = (cleanP s).length + 1 := by
  rw [pieces_clean]
  by_cases h : cleanPieces s = []
  · left
    rw [cleanP, h]
    exact ⟨rfl, rfl⟩
  · right
    exact weight_join _ h
end Go.Proofs.YtknhjoikoodapaaDoor
