/- One round of a walk, plain. -/
import Derived.Test.YtdkodedocklmdaaGreatDoorRLaw
set_option linter.unusedVariables false
namespace Go.Proofs.YtdkodedocklmdaaGreatDoor
/-- what a piece that is a name makes of a walk: an error, the end, or where it goes on -/
def pieceF (L : List Ent) (keep : Bool) (a q : List UInt8) (left : List (List UInt8)) (hops : Nat) : Except Nat (Option (List UInt8 × List (List UInt8) × Nat)) :=
  match lookE L q with
  | none => .error 10
  | some e =>
    if e.k = 1 then .ok (some (q, left, hops))
    else if e.k = 2 then (if left ≠ [] then .error 13 else .ok none)
    else if keep = true ∧ left = [] then .ok none
    else if hops = 40 then .error 12
    else .ok (some (linkAt a e, pieces e.l.data.toList ++ left, hops + 1))
theorem link_size {L : List Ent} (hL : Good L) {q : List UInt8} {e : Ent} (h : lookE L q = some e) (k1 : e.k ≠ 1) (k2 : e.k ≠ 2) : e.l.size ≤ 100 := by
  have h0 := hL.it e (lookE_some h).1
  have hk := kinds hL h
  unfold itselfNo at h0
  rw [if_neg (by omega)] at h0
  split at h0
  · omega
  · split at h0
    · cases h0
    · split at h0
      · cases h0
      · rename_i hn
        have hk3 : e.k = 3 := by omega
        by_cases hs : 100 < e.l.size
        · exact absurd ⟨hk3, .inr (.inl hs)⟩ hn
        · omega
theorem path_size {L : List Ent} (hL : Good L) {q : List UInt8} {e : Ent} (h : lookE L q = some e) : q.length ≤ 255 := by
  obtain ⟨h1, h2⟩ := lookE_some h
  rw [← h2]
  exact checkNo_small (itselfNo_check (hL.it e h1))
theorem pieces_long {l c : List UInt8} (h : c ∈ pieces l) : c.length ≤ l.length := by
  have key : ∀ (l : List UInt8) c, c ∈ pcs l → c.length ≤ l.length := by
    intro l
    induction l with
    | nil => intro c hc; simp [pcs] at hc; subst hc; simp
    | cons x t ih =>
      intro c hc
      rw [pcs_cons] at hc
      by_cases hx : x = 47
      · rw [if_pos hx] at hc
        rcases List.mem_cons.1 hc with rfl | hc
        · simp
        · have := ih c hc; simp; omega
      · rw [if_neg hx] at hc
        cases hp : pcs t with
        | nil => exact absurd hp (pcs_ne t)
        | cons y ys =>
          rw [hp] at hc ih
          rcases List.mem_cons.1 hc with rfl | hc
          · have := ih y (List.mem_cons_self ..); simp; omega
          · have := ih c (List.mem_cons_of_mem _ hc); simp; omega
  unfold pieces at h
  exact key l c (List.mem_filter.1 h).1
theorem needF_cons {c : List UInt8} {left : List (List UInt8)} {hops : Nat} : needF (c :: left).length hops = needF left.length hops + 1 := by unfold needF; simp; omega
/-- where a piece goes on -/
theorem pieceF_on {L : List Ent} (hL : Good L) {keep : Bool} {a q a' : List UInt8} {left left' : List (List UInt8)} {hops hops' N : Nat} (h0 : hops ≤ 40) (ha : a.length ≤ 255) (hN : 100 ≤ N) (hl : ∀ c ∈ left, c.length ≤ N)
    (h : pieceF L keep a q left hops = .ok (some (a', left', hops'))) : hops' ≤ 40 ∧ a'.length ≤ 255 ∧ (∀ c ∈ left', c.length ≤ N) ∧ needF left'.length hops' ≤ needF left.length hops := by
  unfold pieceF at h
  cases hq : lookE L q with
  | none => rw [hq] at h; cases h
  | some e =>
    rw [hq] at h
    simp only [] at h
    by_cases k1 : e.k = 1
    · rw [if_pos k1] at h
      injection h with h; injection h with h; injection h with h1 h; injection h with h2 h3
      subst h1; subst h2; subst h3
      exact ⟨h0, path_size hL hq, hl, Nat.le_refl _⟩
    rw [if_neg k1] at h
    by_cases k2 : e.k = 2
    · rw [if_pos k2] at h
      split at h <;> cases h
    rw [if_neg k2] at h
    split at h
    · cases h
    split at h
    · cases h
    rename_i hn
    injection h with h; injection h with h; injection h with h1 h; injection h with h2 h3
    subst h1; subst h2; subst h3
    refine ⟨by omega, ?_, fun c hc => ?_, ?_⟩
    · unfold linkAt; split
      · simp
      · exact ha
    · rcases List.mem_append.1 hc with hc | hc
      · have h1 := pieces_long hc
        have h2 := link_size hL hq k1 k2
        have : e.l.data.toList.length = e.l.size := rfl
        omega
      · exact hl c hc
    · have := (link_short hL hq k1 k2).1
      unfold needF
      simp
      omega
theorem pieceF_end {L : List Ent} (hL : Good L) {keep : Bool} {a q : List UInt8} {left : List (List UInt8)} {hops : Nat} (h : pieceF L keep a q left hops = .ok none) : q.length ≤ 255 := by
  unfold pieceF at h
  cases hq : lookE L q with
  | none => rw [hq] at h; cases h
  | some e => exact path_size hL hq
/-- a round -/
theorem runF_dot {L : List Ent} {keep : Bool} {a : List UInt8} {left : List (List UInt8)} {hops : Nat} {tr : List (List UInt8)} : runF L keep (needF ([46] :: left).length hops) a ([46] :: left) hops tr = runF L keep (needF left.length hops) a left hops (tr ++ [a]) := by
  rw [needF_cons]
  conv => lhs; unfold runF
  rw [if_pos rfl]
theorem runF_up {L : List Ent} {keep : Bool} {a : List UInt8} {left : List (List UInt8)} {hops : Nat} {tr : List (List UInt8)} : runF L keep (needF ([46, 46] :: left).length hops) a ([46, 46] :: left) hops tr = runF L keep (needF left.length hops) (parent a) left hops (tr ++ [parent a]) := by
  rw [needF_cons]
  conv => lhs; unfold runF
  rw [if_neg (by decide), if_pos rfl]
theorem runF_name {L : List Ent} (hL : Good L) {keep : Bool} {a c : List UInt8} {left : List (List UInt8)} {hops : Nat} {tr : List (List UInt8)} (h0 : hops ≤ 40) (h1 : c ≠ [46]) (h2 : c ≠ [46, 46]) :
    runF L keep (needF (c :: left).length hops) a (c :: left) hops tr = match pieceF L keep a (joinP a c) left hops with
      | .error n => .error n
      | .ok none => .ok (joinP a c, tr ++ [joinP a c])
      | .ok (some (a', left', hops')) => runF L keep (needF left'.length hops') a' left' hops' (tr ++ [a']) := by
  rw [needF_cons]
  conv => lhs; unfold runF
  rw [if_neg h1, if_neg h2]
  unfold pieceF
  cases hq : lookE L (joinP a c) with
  | none => rfl
  | some e =>
    simp only []
    by_cases k1 : e.k = 1
    · rw [if_pos k1, if_pos k1]
    rw [if_neg k1, if_neg k1]
    by_cases k2 : e.k = 2
    · rw [if_pos k2, if_pos k2]
      by_cases h3 : left ≠ []
      · rw [if_pos h3, if_pos h3]
      · rw [if_neg h3, if_neg h3]
    rw [if_neg k2, if_neg k2]
    by_cases h3 : keep = true ∧ left = []
    · rw [if_pos h3, if_pos h3]
    rw [if_neg h3, if_neg h3]
    by_cases h4 : hops = 40
    · rw [if_pos h4, if_pos h4]
    rw [if_neg h4, if_neg h4]
    simp only []
    have hs := (link_short hL hq k1 k2).1
    exact runF_fuel hL _ _ _ _ _ _ (by omega) (by unfold needF; simp; omega) (Nat.le_refl _)
theorem runF_nil {L : List Ent} {keep : Bool} {a : List UInt8} {hops : Nat} {tr : List (List UInt8)} : runF L keep (needF ([] : List (List UInt8)).length hops) a [] hops tr = .ok (a, tr) := by
  unfold needF
  rfl
end Go.Proofs.YtdkodedocklmdaaGreatDoor
