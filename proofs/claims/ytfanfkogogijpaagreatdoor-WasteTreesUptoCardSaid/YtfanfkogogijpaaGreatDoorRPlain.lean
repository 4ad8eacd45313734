/- Ways, plain (RModel, RLaw, RStep). -/
import Derived.Test.YtfanfkogogijpaaGreatDoorTCheck
set_option linter.unusedSimpArgs false
set_option linter.unusedVariables false
namespace Go.Proofs.YtfanfkogogijpaaGreatDoor
section
/-- where a link leads from a place -/
def linkAt (a : List UInt8) (e : Ent) : List UInt8 := if e.l.data.toList.head? = some 47 then [] else a
/-- a way is gone: from a place, with these pieces left, so many links followed, this trail behind -/
def runF (L : List Ent) (keep : Bool) : Nat → List UInt8 → List (List UInt8) → Nat → List (List UInt8) → Except Nat (List UInt8 × List (List UInt8))
  | 0, a, _, _, tr => .ok (a, tr)
  | _ + 1, a, [], _, tr => .ok (a, tr)
  | f + 1, a, c :: left, hops, tr =>
    if c = [46] then runF L keep f a left hops (tr ++ [a])
    else if c = [46, 46] then runF L keep f (parent a) left hops (tr ++ [parent a])
    else match lookE L (joinP a c) with
      | none => .error 10
      | some e =>
        if e.k = 1 then runF L keep f (joinP a c) left hops (tr ++ [joinP a c])
        else if e.k = 2 then (if left ≠ [] then .error 13 else .ok (joinP a c, tr ++ [joinP a c]))
        else if keep = true ∧ left = [] then .ok (joinP a c, tr ++ [joinP a c])
        else if hops = 40 then .error 12
        else runF L keep f (linkAt a e) (pieces e.l.data.toList ++ left) (hops + 1) (tr ++ [linkAt a e])
/-- rounds that are enough -/
def needF (left : Nat) (hops : Nat) : Nat := (40 - hops) * 101 + left + 1
def wayF (L : List Ent) (keep : Bool) (way : List UInt8) : Except Nat (List UInt8 × List (List UInt8)) := runF L keep (needF (pieces way).length 0) [] (pieces way) 0 [[]]
/-- no piece is empty, none has a slash -/
theorem pcs_no47 : ∀ {l : List UInt8}, ∀ c ∈ pcs l, (47 : UInt8) ∉ c
  | [], c, h => by simp [pcs] at h; subst h; simp
  | x :: t, c, h => by
    rw [pcs_cons] at h
    by_cases hx : x = 47
    · rw [if_pos hx] at h
      rcases List.mem_cons.1 h with rfl | h
      · simp
      · exact pcs_no47 c h
    · rw [if_neg hx] at h
      have ih := @pcs_no47 t
      cases hp : pcs t with
      | nil => exact absurd hp (pcs_ne t)
      | cons p ps =>
        rw [hp] at h ih
        rcases List.mem_cons.1 h with rfl | h
        · intro hm
          rcases List.mem_cons.1 hm with hm | hm
          · exact hx hm.symm
          · exact ih p (List.mem_cons_self ..) hm
        · exact ih c (List.mem_cons_of_mem _ h)
theorem pieces_mem {l : List UInt8} : ∀ c ∈ pieces l, c ≠ [] ∧ (47 : UInt8) ∉ c := by
  intro c h
  unfold pieces at h
  obtain ⟨h1, h2⟩ := List.mem_filter.1 h
  exact ⟨fun e => by subst e; simp at h2, pcs_no47 c h1⟩
theorem pieces_cat (a c : List UInt8) : pieces (a ++ 47 :: c) = pieces a ++ pieces c := by
  unfold pieces
  rw [pcs_cat, List.filter_append]
theorem neat_pieces {l : List UInt8} (h : Neat l) : pieces l = pcs l := by
  unfold pieces
  rw [List.filter_eq_self]
  intro c hc
  cases c with
  | nil => exact absurd hc h
  | cons x t => rfl
/-- twice as many bytes as pieces, but for one -/
theorem pieces_half : ∀ (n : Nat) (l : List UInt8), l.length ≤ n → 2 * (pieces l).length ≤ l.length + 1
  | 0, l, h => by
    obtain rfl : l = [] := List.eq_nil_of_length_eq_zero (by omega)
    decide
  | n + 1, l, h => by
    have hi := cutP_is l
    by_cases hm : (cutP l).2.2 = true
    · rw [hm, if_pos rfl] at hi
      have hl : l.length = (cutP l).1.length + 1 + (cutP l).2.1.length := by
        have := congrArg List.length hi
        simp at this
        omega
      rw [hi, pieces_cat, List.length_append]
      have h1 := pieces_half n (cutP l).2.1 (by omega)
      have h2 : (pieces (cutP l).1).length = if (cutP l).1 = [] then 0 else 1 := by
        unfold pieces
        rw [pcs_plain (cutP_fst l)]
        split
        · rename_i e; rw [e]; rfl
        · rename_i e
          cases hc : (cutP l).1 with
          | nil => exact absurd hc e
          | cons x t => rfl
      rw [← hi]
      split at h2
      · omega
      · rename_i e
        have := List.length_pos_iff.2 e
        omega
    · rw [if_neg hm] at hi
      have hn : (47 : UInt8) ∉ l := by rw [hi]; exact cutP_fst l
      unfold pieces
      rw [pcs_plain hn]
      cases l with
      | nil => decide
      | cons x t => simp
end
section
theorem lookE_some {L : List Ent} {q : List UInt8} {y : Ent} (h : lookE L q = some y) : y ∈ L ∧ y.path = q :=
  ⟨List.mem_of_find?_eq_some h, by simpa using List.find?_some h⟩
theorem lookE_none {L : List Ent} {q : List UInt8} (h : lookE L q = none) : ∀ y ∈ L, y.path ≠ q := fun y hy e => by
  have := List.find?_eq_none.1 h y hy
  simp [e] at this
theorem upNo_zero {L : List Ent} {p : List UInt8} (h : upNo L p = 0) : parent p = [] ∨ ∃ x, lookE L (parent p) = some x ∧ x.k = 1 := by
  unfold upNo at h
  by_cases h0 : parent p = []
  · exact .inl h0
  rw [if_neg h0] at h
  cases hl : lookE L (parent p) with
  | none => rw [hl] at h; cases h
  | some x =>
    rw [hl] at h
    simp only [] at h
    by_cases hk : x.k = 1
    · exact .inr ⟨x, rfl, hk⟩
    · rw [if_neg hk] at h; cases h
/-- the root, or a directory -/
def Here (L : List Ent) (a : List UInt8) : Prop := a = [] ∨ ∃ e, lookE L a = some e ∧ e.k = 1
theorem Here.parent {L : List Ent} (hL : Good L) {a : List UInt8} (h : Here L a) : Here L (parent a) := by
  rcases h with rfl | ⟨e, h1, h2⟩
  · exact .inl rfl
  · obtain ⟨h3, h4⟩ := lookE_some h1
    have h5 := hL.up e h3
    rw [h4] at h5
    exact upNo_zero h5
theorem Here.link {L : List Ent} {a : List UInt8} (h : Here L a) (e : Ent) : Here L (linkAt a e) := by
  unfold linkAt
  split
  · exact .inl rfl
  · exact h
theorem kinds {L : List Ent} (hL : Good L) {q : List UInt8} {e : Ent} (h : lookE L q = some e) : e.k = 1 ∨ e.k = 2 ∨ e.k = 3 := by
  have h1 := hL.it e (lookE_some h).1
  unfold itselfNo at h1
  by_cases hk : ¬ (e.k = 1 ∨ e.k = 2 ∨ e.k = 3)
  · rw [if_pos hk] at h1; cases h1
  · exact Decidable.not_not.1 hk
theorem good_neat {L : List Ent} (hL : Good L) {q : List UInt8} {e : Ent} (h : lookE L q = some e) : Neat q := by
  obtain ⟨h1, h2⟩ := lookE_some h
  rw [← h2]
  exact checkNo_neat (itselfNo_check (hL.it e h1))
/-- what is found is in the tree -/
theorem runF_inside {L : List Ent} (hL : Good L) {keep : Bool} : ∀ (f : Nat) (a : List UInt8) (left : List (List UInt8)) (hops : Nat) (tr : List (List UInt8)) (p : List UInt8) (t : List (List UInt8)), Here L a → runF L keep f a left hops tr = .ok (p, t) →
    p = [] ∨ ∃ e, lookE L p = some e ∧ (e.k = 1 ∨ e.k = 2 ∨ (keep = true ∧ e.k = 3))
  | 0, a, left, hops, tr, p, t, ha, h => by
    injection h with h; injection h with h _
    subst h
    exact ha.imp id fun ⟨e, h1, h2⟩ => ⟨e, h1, .inl h2⟩
  | f + 1, a, [], hops, tr, p, t, ha, h => by
    injection h with h; injection h with h _
    subst h
    exact ha.imp id fun ⟨e, h1, h2⟩ => ⟨e, h1, .inl h2⟩
  | f + 1, a, c :: left, hops, tr, p, t, ha, h => by
    unfold runF at h
    by_cases h1 : c = [46]
    · rw [if_pos h1] at h; exact runF_inside hL f _ _ _ _ _ _ ha h
    rw [if_neg h1] at h
    by_cases h2 : c = [46, 46]
    · rw [if_pos h2] at h; exact runF_inside hL f _ _ _ _ _ _ (ha.parent hL) h
    rw [if_neg h2] at h
    cases hl : lookE L (joinP a c) with
    | none => rw [hl] at h; cases h
    | some e =>
      rw [hl] at h
      simp only [] at h
      by_cases k1 : e.k = 1
      · rw [if_pos k1] at h; exact runF_inside hL f _ _ _ _ _ _ (.inr ⟨e, hl, k1⟩) h
      rw [if_neg k1] at h
      by_cases k2 : e.k = 2
      · rw [if_pos k2] at h
        by_cases h3 : left ≠ []
        · rw [if_pos h3] at h; cases h
        · rw [if_neg h3] at h
          injection h with h; injection h with h _
          subst h
          exact .inr ⟨e, hl, .inr (.inl k2)⟩
      rw [if_neg k2] at h
      have k3 : e.k = 3 := by
        rcases kinds hL hl with k | k | k
        · exact absurd k k1
        · exact absurd k k2
        · exact k
      by_cases h3 : keep = true ∧ left = []
      · rw [if_pos h3] at h
        injection h with h; injection h with h _
        subst h
        exact .inr ⟨e, hl, .inr (.inr ⟨h3.1, k3⟩)⟩
      rw [if_neg h3] at h
      by_cases h4 : hops = 40
      · rw [if_pos h4] at h; cases h
      rw [if_neg h4] at h
      exact runF_inside hL f _ _ _ _ _ _ (ha.link e) h
theorem runF_errs {L : List Ent} {keep : Bool} : ∀ (f : Nat) (a : List UInt8) (left : List (List UInt8)) (hops : Nat) (tr : List (List UInt8)) (n : Nat), runF L keep f a left hops tr = .error n → n = 10 ∨ n = 13 ∨ n = 12
  | 0, a, left, hops, tr, n, h => by cases h
  | f + 1, a, [], hops, tr, n, h => by cases h
  | f + 1, a, c :: left, hops, tr, n, h => by
    unfold runF at h
    by_cases h1 : c = [46]
    · rw [if_pos h1] at h; exact runF_errs f _ _ _ _ _ h
    rw [if_neg h1] at h
    by_cases h2 : c = [46, 46]
    · rw [if_pos h2] at h; exact runF_errs f _ _ _ _ _ h
    rw [if_neg h2] at h
    cases hl : lookE L (joinP a c) with
    | none => rw [hl] at h; injection h with h; exact .inl h.symm
    | some e =>
      rw [hl] at h
      simp only [] at h
      by_cases k1 : e.k = 1
      · rw [if_pos k1] at h; exact runF_errs f _ _ _ _ _ h
      rw [if_neg k1] at h
      by_cases k2 : e.k = 2
      · rw [if_pos k2] at h
        by_cases h3 : left ≠ []
        · rw [if_pos h3] at h; injection h with h; exact .inr (.inl h.symm)
        · rw [if_neg h3] at h; cases h
      rw [if_neg k2] at h
      by_cases h3 : keep = true ∧ left = []
      · rw [if_pos h3] at h; cases h
      rw [if_neg h3] at h
      by_cases h4 : hops = 40
      · rw [if_pos h4] at h; injection h with h; exact .inr (.inr h.symm)
      rw [if_neg h4] at h
      exact runF_errs f _ _ _ _ _ h
theorem link_short {L : List Ent} (hL : Good L) {q : List UInt8} {e : Ent} (h : lookE L q = some e) (k1 : e.k ≠ 1) (k2 : e.k ≠ 2) : (pieces e.l.data.toList).length ≤ 50 ∧ e.l.data.toList ≠ [] := by
  have h1 := hL.it e (lookE_some h).1
  have k3 : e.k = 3 := by
    rcases kinds hL h with k | k | k
    · exact absurd k k1
    · exact absurd k k2
    · exact k
  unfold itselfNo at h1
  split at h1
  · cases h1
  split at h1
  · omega
  split at h1
  · cases h1
  split at h1
  · cases h1
  · rename_i h4
    have h5 : ¬ (e.l.data.toList = [] ∨ 100 < e.l.size ∨ (0 : UInt8) ∈ e.l.data.toList) := fun x => h4 ⟨k3, x⟩
    have h6 : e.l.data.toList.length ≤ 100 := by show e.l.size ≤ 100; omega
    have := pieces_half _ e.l.data.toList (Nat.le_refl _)
    exact ⟨by omega, fun x => h5 (.inl x)⟩
/-- enough rounds are enough -/
theorem runF_fuel {L : List Ent} (hL : Good L) {keep : Bool} : ∀ (f g : Nat) (a : List UInt8) (left : List (List UInt8)) (hops : Nat) (tr : List (List UInt8)), hops ≤ 40 → needF left.length hops ≤ f → needF left.length hops ≤ g → runF L keep f a left hops tr = runF L keep g a left hops tr
  | 0, g, a, left, hops, tr, h0, h1, h2 => by unfold needF at h1; omega
  | f + 1, 0, a, left, hops, tr, h0, h1, h2 => by unfold needF at h2; omega
  | f + 1, g + 1, a, [], hops, tr, h0, h1, h2 => rfl
  | f + 1, g + 1, a, c :: left, hops, tr, h0, h1, h2 => by
    have n1 : needF left.length hops ≤ f := by unfold needF at h1 ⊢; rw [List.length_cons] at h1; omega
    have n2 : needF left.length hops ≤ g := by unfold needF at h2 ⊢; rw [List.length_cons] at h2; omega
    unfold runF
    rw [runF_fuel hL f g a left hops _ h0 n1 n2, runF_fuel hL f g (parent a) left hops _ h0 n1 n2, runF_fuel hL f g (joinP a c) left hops _ h0 n1 n2]
    cases hl : lookE L (joinP a c) with
    | none => rfl
    | some e =>
      simp only []
      by_cases k1 : e.k = 1
      · rw [if_pos k1, if_pos k1]
      rw [if_neg k1, if_neg k1]
      by_cases k2 : e.k = 2
      · rw [if_pos k2, if_pos k2]
      rw [if_neg k2, if_neg k2]
      by_cases h4 : hops = 40
      · rw [if_pos h4, if_pos h4]
      rw [if_neg h4, if_neg h4]
      have hsh := (link_short hL hl k1 k2).1
      have n3 : needF (pieces e.l.data.toList ++ left).length (hops + 1) ≤ f := by unfold needF at n1 ⊢; rw [List.length_append]; omega
      have n4 : needF (pieces e.l.data.toList ++ left).length (hops + 1) ≤ g := by unfold needF at n2 ⊢; rw [List.length_append]; omega
      rw [runF_fuel hL f g (linkAt a e) _ (hops + 1) _ (by omega) n3 n4]
/-- fewer links followed before do no harm -/
theorem runF_hops {L : List Ent} {keep : Bool} : ∀ (f : Nat) (a : List UInt8) (left : List (List UInt8)) (hops h' : Nat) (tr : List (List UInt8)) (r : List UInt8 × List (List UInt8)), hops ≤ 40 → h' ≤ hops → runF L keep f a left hops tr = .ok r → runF L keep f a left h' tr = .ok r
  | 0, a, left, hops, h', tr, r, h0, h1, h => h
  | f + 1, a, [], hops, h', tr, r, h0, h1, h => h
  | f + 1, a, c :: left, hops, h', tr, r, h0, h1, h => by
    unfold runF at h ⊢
    by_cases c1 : c = [46]
    · rw [if_pos c1] at h ⊢; exact runF_hops f _ _ _ _ _ _ h0 h1 h
    rw [if_neg c1] at h ⊢
    by_cases c2 : c = [46, 46]
    · rw [if_pos c2] at h ⊢; exact runF_hops f _ _ _ _ _ _ h0 h1 h
    rw [if_neg c2] at h ⊢
    cases hl : lookE L (joinP a c) with
    | none => rw [hl] at h; cases h
    | some e =>
      rw [hl] at h
      simp only [] at h ⊢
      by_cases k1 : e.k = 1
      · rw [if_pos k1] at h ⊢; exact runF_hops f _ _ _ _ _ _ h0 h1 h
      rw [if_neg k1] at h ⊢
      by_cases k2 : e.k = 2
      · rw [if_pos k2] at h ⊢; exact h
      rw [if_neg k2] at h ⊢
      by_cases h3 : keep = true ∧ left = []
      · rw [if_pos h3] at h ⊢; exact h
      rw [if_neg h3] at h ⊢
      by_cases h4 : hops = 40
      · rw [if_pos h4] at h; cases h
      rw [if_neg h4] at h
      rw [if_neg (by omega)]
      exact runF_hops f _ _ _ _ _ _ (by omega) (by omega) h
/-- the trail that was there before does not matter to where it leads -/
theorem runF_trail {L : List Ent} {keep : Bool} : ∀ (f : Nat) (a : List UInt8) (left : List (List UInt8)) (hops : Nat) (tr : List (List UInt8)) (p : List UInt8) (t : List (List UInt8)), runF L keep f a left hops tr = .ok (p, t) → ∀ tr2, ∃ t2, runF L keep f a left hops tr2 = .ok (p, t2)
  | 0, a, left, hops, tr, p, t, h, tr2 => by
    injection h with h; injection h with h _
    subst h
    exact ⟨_, rfl⟩
  | f + 1, a, [], hops, tr, p, t, h, tr2 => by
    injection h with h; injection h with h _
    subst h
    exact ⟨_, rfl⟩
  | f + 1, a, c :: left, hops, tr, p, t, h, tr2 => by
    unfold runF at h ⊢
    by_cases c1 : c = [46]
    · rw [if_pos c1] at h ⊢; exact runF_trail f _ _ _ _ _ _ h _
    rw [if_neg c1] at h ⊢
    by_cases c2 : c = [46, 46]
    · rw [if_pos c2] at h ⊢; exact runF_trail f _ _ _ _ _ _ h _
    rw [if_neg c2] at h ⊢
    cases hl : lookE L (joinP a c) with
    | none => rw [hl] at h; cases h
    | some e =>
      rw [hl] at h
      simp only [] at h ⊢
      by_cases k1 : e.k = 1
      · rw [if_pos k1] at h ⊢; exact runF_trail f _ _ _ _ _ _ h _
      rw [if_neg k1] at h ⊢
      by_cases k2 : e.k = 2
      · rw [if_pos k2] at h ⊢
        by_cases h3 : left ≠ []
        · rw [if_pos h3] at h; cases h
        · rw [if_neg h3] at h ⊢
          injection h with h; injection h with h _
          subst h
          exact ⟨_, rfl⟩
      rw [if_neg k2] at h ⊢
      by_cases h3 : keep = true ∧ left = []
      · rw [if_pos h3] at h ⊢
        injection h with h; injection h with h _
        subst h
        exact ⟨_, rfl⟩
      rw [if_neg h3] at h ⊢
      by_cases h4 : hops = 40
      · rw [if_pos h4] at h; cases h
      rw [if_neg h4] at h ⊢
      exact runF_trail f _ _ _ _ _ _ h _
/-- what is above what is there is a directory -/
theorem above_dir {L : List Ent} (hL : Good L) : ∀ (n : Nat) (a c : List UInt8) (e : Ent), c.length ≤ n → a ≠ [] → lookE L (a ++ 47 :: c) = some e → ∃ x, lookE L a = some x ∧ x.k = 1
  | n, a, c, e, hn, ha, hl => by
    obtain ⟨hy, hp⟩ := lookE_some hl
    have hu := upNo_zero (hL.up e hy)
    rw [hp] at hu
    rcases split_last c with hc | ⟨c1, c2, rfl, hc2⟩
    · rw [parent_cat hc] at hu
      rcases hu with h1 | h1
      · exact absurd h1 ha
      · exact h1
    · rw [show a ++ 47 :: (c1 ++ 47 :: c2) = (a ++ 47 :: c1) ++ 47 :: c2 by simp, parent_cat hc2] at hu
      rcases hu with h1 | ⟨x, h1, _⟩
      · simp at h1
      · cases n with
        | zero => simp at hn
        | succ n => exact above_dir hL n a c1 x (by simp at hn; omega) ha h1
theorem good_names {L : List Ent} (hL : Good L) {q : List UInt8} {e : Ent} (h : lookE L q = some e) : ∀ c ∈ pcs q, c ≠ [46] ∧ c ≠ [46, 46] := by
  obtain ⟨h1, h2⟩ := lookE_some h
  have h3 := itselfNo_check (hL.it e h1)
  rw [h2] at h3
  unfold checkNo at h3
  intro c hc
  by_cases h0 : q = []
  · rw [if_pos h0] at h3; cases h3
  rw [if_neg h0] at h3
  by_cases h4 : (pcs q).any (fun p => !nameOk p) = true
  · rw [if_pos h4] at h3; cases h3
  have h5 : nameOk c = true := by
    cases hn : nameOk c with
    | true => rfl
    | false => exact absurd (List.any_eq_true.2 ⟨c, hc, by rw [hn]; rfl⟩) h4
  refine ⟨fun x => ?_, fun x => ?_⟩ <;> subst x <;> exact absurd h5 (by decide)
/-- a path that is there leads on to what is left behind it -/
theorem runF_path {L : List Ent} (hL : Good L) {keep : Bool} (B : List (List UInt8)) : ∀ (n f : Nat) (a r : List UInt8) (e : Ent) (hops : Nat) (tr : List (List UInt8)), r.length ≤ n → Neat r → lookE L (joinP a r) = some e → (∀ c ∈ pcs r, c ≠ [46] ∧ c ≠ [46, 46]) → (a = [] ∨ Neat a) →
    (e.k = 1 → ∃ t, runF L keep (f + (pcs r).length) a (pcs r ++ B) hops tr = runF L keep f (joinP a r) B hops t) ∧
    (B = [] → e.k = 2 ∨ (e.k = 3 ∧ keep = true) → ∃ t, runF L keep (f + (pcs r).length) a (pcs r) hops tr = .ok (joinP a r, t))
  | n, f, a, r, e, hops, tr, hn, hr, hl, hd, ha => by
    have hc := cutP_fst r
    have hi := cutP_is r
    have hp := pcs_cut r
    have hd0 := hd (cutP r).1 (by rw [hp]; exact List.mem_cons_self ..)
    by_cases hm : (cutP r).2.2 = true
    · rw [hm, if_pos rfl] at hi hp
      have hnr : Neat (cutP r).2.1 := by rw [hi] at hr; exact (neat_cat.1 hr).2
      have hnc : Neat (cutP r).1 := by rw [hi] at hr; exact (neat_cat.1 hr).1
      have hj : joinP a (cutP r).1 ≠ [] := ((neat_join ha).2 hnc).ne
      have hl2 : joinP a r = joinP a (cutP r).1 ++ 47 :: (cutP r).2.1 := by
        conv => lhs; rw [hi]
        exact join_cat
      obtain ⟨x, hx, hx1⟩ := above_dir hL _ _ _ e (Nat.le_refl _) hj (by rw [← hl2]; exact hl)
      have hlen : r.length = (cutP r).1.length + 1 + (cutP r).2.1.length := by
        have := congrArg List.length hi
        simp at this
        omega
      cases n with
      | zero => omega
      | succ n =>
        have hj2 : joinP (joinP a (cutP r).1) (cutP r).2.1 = joinP a r := by rw [join_join hj, hl2]
        have ih := runF_path hL (keep := keep) B n f (joinP a (cutP r).1) (cutP r).2.1 e hops (tr ++ [joinP a (cutP r).1]) (by omega) hnr (by rw [hj2]; exact hl) (fun c hc => hd c (by rw [hp]; exact List.mem_cons_of_mem _ hc)) (.inr ((neat_join ha).2 hnc))
        rw [hj2] at ih
        have step : ∀ B', runF L keep (f + (pcs r).length) a (pcs r ++ B') hops tr = runF L keep (f + (pcs (cutP r).2.1).length) (joinP a (cutP r).1) (pcs (cutP r).2.1 ++ B') hops (tr ++ [joinP a (cutP r).1]) := by
          intro B'
          rw [hp, List.length_cons, ← Nat.add_assoc, List.cons_append]
          conv => lhs; unfold runF
          rw [if_neg hd0.1, if_neg hd0.2, hx]
          simp only []
          rw [if_pos hx1]
        refine ⟨fun h1 => ?_, fun h0 h1 => ?_⟩
        · rw [step B]; exact ih.1 h1
        · have := step []
          rw [List.append_nil, List.append_nil] at this
          rw [this]; exact ih.2 h0 h1
    · rw [if_neg hm] at hi hp
      have hrc : r = (cutP r).1 := hi
      rw [← hrc] at hp hd0
      rw [hp]
      refine ⟨fun h1 => ⟨tr ++ [joinP a r], ?_⟩, fun h0 h1 => ?_⟩
      · show runF L keep (f + 1) a (r :: B) hops tr = _
        conv => lhs; unfold runF
        rw [if_neg hd0.1, if_neg hd0.2, hl]
        simp only []
        rw [if_pos h1]
      · show ∃ t, runF L keep (f + 1) a [r] hops tr = _
        unfold runF
        rw [if_neg hd0.1, if_neg hd0.2, hl]
        simp only []
        rcases h1 with h1 | ⟨h1, h2⟩
        · rw [if_neg (by omega), if_pos h1, if_neg (by simp)]; exact ⟨_, rfl⟩
        · rw [if_neg (by omega), if_neg (by omega), if_pos (by simp [h2])]; exact ⟨_, rfl⟩
/-- what is there leads to itself -/
theorem wayF_self {L : List Ent} (hL : Good L) {keep : Bool} {p : List UInt8} (h : p = [] ∨ ∃ e, lookE L p = some e ∧ (e.k = 1 ∨ e.k = 2 ∨ (e.k = 3 ∧ keep = true))) : ∃ t, wayF L keep p = .ok (p, t) := by
  rcases h with rfl | ⟨e, hl, hk⟩
  · exact ⟨_, rfl⟩
  · have hn := good_neat hL hl
    unfold wayF
    rw [neat_pieces hn]
    obtain ⟨f, hf⟩ : ∃ f, needF (pcs p).length 0 = (f + 1) + (pcs p).length := ⟨40 * 101, by unfold needF; omega⟩
    rw [hf]
    have hh := runF_path hL (keep := keep) [] p.length (f + 1) [] p e 0 [[]] (Nat.le_refl _) hn (by exact hl) (good_names hL hl) (.inl rfl)
    rcases hk with h1 | h1
    · obtain ⟨t, ht⟩ := hh.1 h1
      rw [List.append_nil] at ht
      exact ⟨t, by rw [ht]; rfl⟩
    · obtain ⟨t, ht⟩ := hh.2 rfl (h1.imp id id)
      exact ⟨t, ht⟩
/-- a way goes on from where its beginning leads -/
theorem runF_on {L : List Ent} (hL : Good L) {keep : Bool} (B : List (List UInt8)) (hB : B ≠ []) : ∀ (f : Nat) (a : List UInt8) (A : List (List UInt8)) (hops : Nat) (tr trA : List (List UInt8)) (q : List UInt8) (t : List (List UInt8)), Here L a → hops ≤ 40 → needF (A ++ B).length hops ≤ f → runF L keep f a (A ++ B) hops tr = .ok (q, t) →
    ∃ p tA f' h' t', Here L p ∧ runF L false f a A hops trA = .ok (p, tA) ∧ hops ≤ h' ∧ h' ≤ 40 ∧ needF B.length h' ≤ f' ∧ runF L keep f' p B h' t' = .ok (q, t)
  | 0, a, A, hops, tr, trA, q, t, ha, h0, hf, h => by unfold needF at hf; omega
  | f + 1, a, [], hops, tr, trA, q, t, ha, h0, hf, h => ⟨a, trA, f + 1, hops, tr, ha, rfl, Nat.le_refl _, h0, hf, h⟩
  | f + 1, a, c :: A, hops, tr, trA, q, t, ha, h0, hf, h => by
    rw [List.cons_append] at h hf
    have n1 : needF (A ++ B).length hops ≤ f := by unfold needF at hf ⊢; rw [List.length_cons] at hf; omega
    have hne : A ++ B ≠ [] := fun e => hB (List.append_eq_nil_iff.1 e).2
    unfold runF at h
    by_cases c1 : c = [46]
    · rw [if_pos c1] at h
      obtain ⟨p, tA, f', h', t', x1, x2, x3⟩ := runF_on hL B hB f a A hops _ (trA ++ [a]) q t ha h0 n1 h
      exact ⟨p, tA, f', h', t', x1, by unfold runF; rw [if_pos c1]; exact x2, x3⟩
    rw [if_neg c1] at h
    by_cases c2 : c = [46, 46]
    · rw [if_pos c2] at h
      obtain ⟨p, tA, f', h', t', x1, x2, x3⟩ := runF_on hL B hB f _ A hops _ (trA ++ [parent a]) q t (ha.parent hL) h0 n1 h
      exact ⟨p, tA, f', h', t', x1, by unfold runF; rw [if_neg c1, if_pos c2]; exact x2, x3⟩
    rw [if_neg c2] at h
    cases hl : lookE L (joinP a c) with
    | none => rw [hl] at h; cases h
    | some e =>
      rw [hl] at h
      simp only [] at h
      by_cases k1 : e.k = 1
      · rw [if_pos k1] at h
        obtain ⟨p, tA, f', h', t', x1, x2, x3⟩ := runF_on hL B hB f _ A hops _ (trA ++ [joinP a c]) q t (.inr ⟨e, hl, k1⟩) h0 n1 h
        exact ⟨p, tA, f', h', t', x1, by unfold runF; rw [if_neg c1, if_neg c2, hl]; simp only []; rw [if_pos k1]; exact x2, x3⟩
      rw [if_neg k1] at h
      by_cases k2 : e.k = 2
      · rw [if_pos k2, if_pos hne] at h; cases h
      rw [if_neg k2, if_neg (fun x => hne x.2)] at h
      by_cases h4 : hops = 40
      · rw [if_pos h4] at h; cases h
      rw [if_neg h4, ← List.append_assoc] at h
      have hsh := (link_short hL hl k1 k2).1
      obtain ⟨p, tA, f', h', t', x1, x2, x3, x4⟩ := runF_on hL B hB f (linkAt a e) (pieces e.l.data.toList ++ A) (hops + 1) _ (trA ++ [linkAt a e]) q t (ha.link e) (by omega)
        (by unfold needF at n1 ⊢; rw [List.length_append] at n1; rw [List.length_append, List.length_append]; omega) h
      exact ⟨p, tA, f', h', t', x1, by unfold runF; rw [if_neg c1, if_neg c2, hl]; simp only []; rw [if_neg k1, if_neg k2, if_neg (by simp), if_neg h4]; exact x2, by omega, x4⟩
theorem wayF_on {L : List Ent} (hL : Good L) {keep : Bool} {a b q : List UInt8} {t : List (List UInt8)} (hB : pieces b ≠ []) (h : wayF L keep (a ++ 47 :: b) = .ok (q, t)) : ∃ p tA t', wayF L false a = .ok (p, tA) ∧ wayF L keep (p ++ 47 :: b) = .ok (q, t') := by
  unfold wayF at h
  rw [pieces_cat] at h
  obtain ⟨p, tA, f', h', t', x1, x2, x3, x4, x5, x6⟩ := runF_on hL (pieces b) hB _ [] (pieces a) 0 _ [[]] q t (.inl rfl) (by omega) (Nat.le_refl _) h
  rw [runF_fuel hL _ (needF (pieces a).length 0) [] (pieces a) 0 _ (by omega) (by unfold needF; rw [List.length_append]; omega) (Nat.le_refl _)] at x2
  rw [runF_fuel hL f' (needF (pieces b).length 0) p (pieces b) h' t' x4 x5 (by unfold needF; omega)] at x6
  have x7 := runF_hops _ p (pieces b) h' 0 t' (q, t) x4 (by omega) x6
  refine ⟨p, tA, ?_⟩
  unfold wayF
  rw [pieces_cat]
  rcases x1 with rfl | ⟨e, hl, hk⟩
  · obtain ⟨t2, ht2⟩ := runF_trail _ _ _ _ _ _ _ x7 [[]]
    exact ⟨t2, x2, ht2⟩
  · have hn := good_neat hL hl
    rw [neat_pieces hn]
    obtain ⟨t3, ht3⟩ := (runF_path hL (keep := keep) (pieces b) p.length (needF (pieces b).length 0) [] p e 0 [[]] (Nat.le_refl _) hn hl (good_names hL hl) (.inl rfl)).1 hk
    obtain ⟨t4, ht4⟩ := runF_trail _ _ _ _ _ _ _ x7 t3
    refine ⟨t4, x2, ?_⟩
    rw [show needF (pcs p ++ pieces b).length 0 = needF (pieces b).length 0 + (pcs p).length by unfold needF; rw [List.length_append]; omega, ht3]
    exact ht4
/-- a trail is as long as it may be, begins at the root, ends where the way leads, and stays among directories until then -/
theorem runF_ends {L : List Ent} (hL : Good L) : ∀ (f : Nat) (a : List UInt8) (left : List (List UInt8)) (hops : Nat) (tr : List (List UInt8)) (p : List UInt8) (t : List (List UInt8)), Here L a → hops ≤ 40 → (∀ x ∈ tr, Here L x) → tr.getLast? = some a → runF L false f a left hops tr = .ok (p, t) →
    t.length ≤ tr.length + left.length + (40 - hops) * 50 ∧ t.head? = tr.head? ∧ t.getLast? = some p ∧ ∀ x ∈ t.dropLast, Here L x
  | 0, a, left, hops, tr, p, t, ha, h0, ht, hl, h => by
    injection h with h; injection h with h1 h2
    subst h1; subst h2
    exact ⟨by omega, rfl, hl, fun x hx => ht x (List.dropLast_subset _ hx)⟩
  | f + 1, a, [], hops, tr, p, t, ha, h0, ht, hl, h => by
    injection h with h; injection h with h1 h2
    subst h1; subst h2
    exact ⟨by omega, rfl, hl, fun x hx => ht x (List.dropLast_subset _ hx)⟩
  | f + 1, a, c :: left, hops, tr, p, t, ha, h0, ht, hl, h => by
    have hne : tr ≠ [] := fun e => by rw [e] at hl; cases hl
    have hd : ∀ x : List UInt8, (tr ++ [x]).head? = tr.head? := fun x => by
      cases tr with
      | nil => exact absurd rfl hne
      | cons y ys => rfl
    have more : ∀ x, Here L x → ∀ y ∈ tr ++ [x], Here L y := fun x hx y hy => by
      rcases List.mem_append.1 hy with hy | hy
      · exact ht y hy
      · rw [List.mem_singleton.1 hy]; exact hx
    unfold runF at h
    by_cases c1 : c = [46]
    · rw [if_pos c1] at h
      have := runF_ends hL f a left hops _ p t ha h0 (more a ha) (by simp) h
      rw [hd, List.length_append] at this
      exact ⟨by simp at this ⊢; omega, this.2⟩
    rw [if_neg c1] at h
    by_cases c2 : c = [46, 46]
    · rw [if_pos c2] at h
      have := runF_ends hL f _ left hops _ p t (ha.parent hL) h0 (more _ (ha.parent hL)) (by simp) h
      rw [hd, List.length_append] at this
      exact ⟨by simp at this ⊢; omega, this.2⟩
    rw [if_neg c2] at h
    cases hq : lookE L (joinP a c) with
    | none => rw [hq] at h; cases h
    | some e =>
      rw [hq] at h
      simp only [] at h
      by_cases k1 : e.k = 1
      · rw [if_pos k1] at h
        have hh : Here L (joinP a c) := .inr ⟨e, hq, k1⟩
        have := runF_ends hL f _ left hops _ p t hh h0 (more _ hh) (by simp) h
        rw [hd, List.length_append] at this
        exact ⟨by simp at this ⊢; omega, this.2⟩
      rw [if_neg k1] at h
      by_cases k2 : e.k = 2
      · rw [if_pos k2] at h
        by_cases h3 : left ≠ []
        · rw [if_pos h3] at h; cases h
        · rw [if_neg h3] at h
          injection h with h; injection h with h1 h2
          subst h1; subst h2
          refine ⟨by simp; omega, hd _, by simp, fun x hx => ?_⟩
          rw [List.dropLast_concat] at hx
          exact ht x hx
      rw [if_neg k2, if_neg (by simp)] at h
      by_cases h4 : hops = 40
      · rw [if_pos h4] at h; cases h
      rw [if_neg h4] at h
      have hsh := (link_short hL hq k1 k2).1
      have := runF_ends hL f _ _ (hops + 1) _ p t (ha.link e) (by omega) (more _ (ha.link e)) (by simp) h
      rw [hd, List.length_append, List.length_append] at this
      exact ⟨by simp at this ⊢; omega, this.2⟩
theorem wayF_ends {L : List Ent} (hL : Good L) {w p : List UInt8} {t : List (List UInt8)} (h : wayF L false w = .ok (p, t)) : 1 ≤ t.length ∧ t.length ≤ 1 + (pieces w).length + 2000 ∧ t.head? = some [] ∧ t.getLast? = some p ∧ ∀ x ∈ t.dropLast, Here L x := by
  have := runF_ends hL _ [] (pieces w) 0 [[]] p t (.inl rfl) (by omega) (fun x hx => by rw [List.mem_singleton.1 hx]; exact .inl rfl) rfl h
  refine ⟨?_, by simp at this; omega, this.2.1, this.2.2⟩
  cases t with
  | nil => exact absurd this.2.2.1 (by simp)
  | cons y ys => simp
end
section
/-- what a piece that is a name makes of a walk: an error, the end, or where it goes on -/
def pieceF (L : List Ent) (keep : Bool) (a q : List UInt8) (left : List (List UInt8)) (hops : Nat) : Except Nat (Option (List UInt8 × List (List UInt8) × Nat)) :=
  match lookE L q with
  | none => .error 10
  | some e =>
    if e.k = 1 then .ok (some (q, left, hops))
    else if e.k = 2 then (if left ≠ [] then .error 13 else .ok none)
    else if keep = true ∧ left = [] then .ok none
    else if hops = 40 then .error 12
    else .ok (some (linkAt a e, pieces e.l.data.toList ++ left, hops + 1))
theorem link_size {L : List Ent} (hL : Good L) {q : List UInt8} {e : Ent} (h : lookE L q = some e) (k1 : e.k ≠ 1) (k2 : e.k ≠ 2) : e.l.size ≤ 100 := by
  have h0 := hL.it e (lookE_some h).1
  have hk := kinds hL h
  unfold itselfNo at h0
  rw [if_neg (by omega)] at h0
  split at h0
  · omega
  · split at h0
    · cases h0
    · split at h0
      · cases h0
      · rename_i hn
        have hk3 : e.k = 3 := by omega
        by_cases hs : 100 < e.l.size
        · exact absurd ⟨hk3, .inr (.inl hs)⟩ hn
        · omega
theorem path_size {L : List Ent} (hL : Good L) {q : List UInt8} {e : Ent} (h : lookE L q = some e) : q.length ≤ 255 := by
  obtain ⟨h1, h2⟩ := lookE_some h
  rw [← h2]
  exact checkNo_small (itselfNo_check (hL.it e h1))
theorem pieces_long {l c : List UInt8} (h : c ∈ pieces l) : c.length ≤ l.length := by
  have key : ∀ (l : List UInt8) c, c ∈ pcs l → c.length ≤ l.length := by
    intro l
    induction l with
    | nil => intro c hc; simp [pcs] at hc; subst hc; simp
    | cons x t ih =>
      intro c hc
      rw [pcs_cons] at hc
      by_cases hx : x = 47
      · rw [if_pos hx] at hc
        rcases List.mem_cons.1 hc with rfl | hc
        · simp
        · have := ih c hc; simp; omega
      · rw [if_neg hx] at hc
        cases hp : pcs t with
        | nil => exact absurd hp (pcs_ne t)
        | cons y ys =>
          rw [hp] at hc ih
          rcases List.mem_cons.1 hc with rfl | hc
          · have := ih y (List.mem_cons_self ..); simp; omega
          · have := ih c (List.mem_cons_of_mem _ hc); simp; omega
  unfold pieces at h
  exact key l c (List.mem_filter.1 h).1
theorem needF_cons {c : List UInt8} {left : List (List UInt8)} {hops : Nat} : needF (c :: left).length hops = needF left.length hops + 1 := by unfold needF; simp; omega
/-- where a piece goes on -/
theorem pieceF_on {L : List Ent} (hL : Good L) {keep : Bool} {a q a' : List UInt8} {left left' : List (List UInt8)} {hops hops' N : Nat} (h0 : hops ≤ 40) (ha : a.length ≤ 255) (hN : 100 ≤ N) (hl : ∀ c ∈ left, c.length ≤ N)
    (h : pieceF L keep a q left hops = .ok (some (a', left', hops'))) : hops' ≤ 40 ∧ a'.length ≤ 255 ∧ (∀ c ∈ left', c.length ≤ N) ∧ needF left'.length hops' ≤ needF left.length hops := by
  unfold pieceF at h
  cases hq : lookE L q with
  | none => rw [hq] at h; cases h
  | some e =>
    rw [hq] at h
    simp only [] at h
    by_cases k1 : e.k = 1
    · rw [if_pos k1] at h
      injection h with h; injection h with h; injection h with h1 h; injection h with h2 h3
      subst h1; subst h2; subst h3
      exact ⟨h0, path_size hL hq, hl, Nat.le_refl _⟩
    rw [if_neg k1] at h
    by_cases k2 : e.k = 2
    · rw [if_pos k2] at h
      split at h <;> cases h
    rw [if_neg k2] at h
    split at h
    · cases h
    split at h
    · cases h
    rename_i hn
    injection h with h; injection h with h; injection h with h1 h; injection h with h2 h3
    subst h1; subst h2; subst h3
    refine ⟨by omega, ?_, fun c hc => ?_, ?_⟩
    · unfold linkAt; split
      · simp
      · exact ha
    · rcases List.mem_append.1 hc with hc | hc
      · have h1 := pieces_long hc
        have h2 := link_size hL hq k1 k2
        have : e.l.data.toList.length = e.l.size := rfl
        omega
      · exact hl c hc
    · have := (link_short hL hq k1 k2).1
      unfold needF
      simp
      omega
theorem pieceF_end {L : List Ent} (hL : Good L) {keep : Bool} {a q : List UInt8} {left : List (List UInt8)} {hops : Nat} (h : pieceF L keep a q left hops = .ok none) : q.length ≤ 255 := by
  unfold pieceF at h
  cases hq : lookE L q with
  | none => rw [hq] at h; cases h
  | some e => exact path_size hL hq
/-- a round -/
theorem runF_dot {L : List Ent} {keep : Bool} {a : List UInt8} {left : List (List UInt8)} {hops : Nat} {tr : List (List UInt8)} : runF L keep (needF ([46] :: left).length hops) a ([46] :: left) hops tr = runF L keep (needF left.length hops) a left hops (tr ++ [a]) := by
  rw [needF_cons]
  conv => lhs; unfold runF
  rw [if_pos rfl]
theorem runF_up {L : List Ent} {keep : Bool} {a : List UInt8} {left : List (List UInt8)} {hops : Nat} {tr : List (List UInt8)} : runF L keep (needF ([46, 46] :: left).length hops) a ([46, 46] :: left) hops tr = runF L keep (needF left.length hops) (parent a) left hops (tr ++ [parent a]) := by
  rw [needF_cons]
  conv => lhs; unfold runF
  rw [if_neg (by decide), if_pos rfl]
theorem runF_name {L : List Ent} (hL : Good L) {keep : Bool} {a c : List UInt8} {left : List (List UInt8)} {hops : Nat} {tr : List (List UInt8)} (h0 : hops ≤ 40) (h1 : c ≠ [46]) (h2 : c ≠ [46, 46]) :
    runF L keep (needF (c :: left).length hops) a (c :: left) hops tr = match pieceF L keep a (joinP a c) left hops with
      | .error n => .error n
      | .ok none => .ok (joinP a c, tr ++ [joinP a c])
      | .ok (some (a', left', hops')) => runF L keep (needF left'.length hops') a' left' hops' (tr ++ [a']) := by
  rw [needF_cons]
  conv => lhs; unfold runF
  rw [if_neg h1, if_neg h2]
  unfold pieceF
  cases hq : lookE L (joinP a c) with
  | none => rfl
  | some e =>
    simp only []
    by_cases k1 : e.k = 1
    · rw [if_pos k1, if_pos k1]
    rw [if_neg k1, if_neg k1]
    by_cases k2 : e.k = 2
    · rw [if_pos k2, if_pos k2]
      by_cases h3 : left ≠ []
      · rw [if_pos h3, if_pos h3]
      · rw [if_neg h3, if_neg h3]
    rw [if_neg k2, if_neg k2]
    by_cases h3 : keep = true ∧ left = []
    · rw [if_pos h3, if_pos h3]
    rw [if_neg h3, if_neg h3]
    by_cases h4 : hops = 40
    · rw [if_pos h4, if_pos h4]
    rw [if_neg h4, if_neg h4]
    simp only []
    have hs := (link_short hL hq k1 k2).1
    exact runF_fuel hL _ _ _ _ _ _ (by omega) (by unfold needF; simp; omega) (Nat.le_refl _)
theorem runF_nil {L : List Ent} {keep : Bool} {a : List UInt8} {hops : Nat} {tr : List (List UInt8)} : runF L keep (needF ([] : List (List UInt8)).length hops) a [] hops tr = .ok (a, tr) := by
  unfold needF
  rfl
end
end Go.Proofs.YtfanfkogogijpaaGreatDoor
