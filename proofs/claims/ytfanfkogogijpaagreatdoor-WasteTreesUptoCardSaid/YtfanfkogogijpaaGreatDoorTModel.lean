/- Trees as lists of nodes, plain: paths and their parents, how a path is found by its pieces. -/
import Derived.Test.YtfanfkogogijpaaGreatDoorSpec
set_option linter.unusedVariables false
namespace Go.Proofs.YtfanfkogogijpaaGreatDoor
/-- an entry -/
structure Ent where
  p : ByteArray
  k : Int
  m : Int
  d : ByteArray
  l : ByteArray
def Ent.path (e : Ent) : List UInt8 := e.p.data.toList
/-- a node: its entry, its block, its map's block -/
structure Nd where
  e : Ent
  b : Nat
  m : Nat
def lookN (nd : List Nd) (q : List UInt8) : Option Nd := nd.find? (fun y => y.e.path == q)
def kidN (nd : List Nd) (q c : List UInt8) : Option Nd := nd.find? (fun y => parent y.e.path == q && lastName y.e.path == c)
/-- a path without empty pieces -/
def Neat (l : List UInt8) : Prop := [] ∉ pcs l
structure Wf (nd : List Nd) : Prop where
  ok : ∀ y ∈ nd, Neat y.e.path
  up : ∀ y ∈ nd, parent y.e.path = [] ∨ ∃ z ∈ nd, z.e.path = parent y.e.path ∧ z.e.k = 1
  one : nd.Pairwise (fun a b => a.e.path ≠ b.e.path)
theorem find_congr {α : Type} {f g : α → Bool} : ∀ {l : List α}, (∀ x ∈ l, f x = g x) → l.find? f = l.find? g
  | [], _ => rfl
  | a :: l, h => by
    rw [List.find?_cons, List.find?_cons, h a (List.mem_cons_self ..), find_congr fun x hx => h x (List.mem_cons_of_mem _ hx)]
/- slashes -/
theorem slashAt_skip {l : List UInt8} {k : Nat} : ∀ j, (∀ i, k ≤ i → i < k + j → l[i]? ≠ some 47) → slashAt l (k + j) = slashAt l k
  | 0, _ => rfl
  | j + 1, h => by
    rw [show slashAt l (k + (j + 1)) = if l[k + j]? = some 47 then k + j + 1 else slashAt l (k + j) from rfl, if_neg (h (k + j) (by omega) (by omega))]
    exact slashAt_skip j fun i h1 h2 => h i h1 (by omega)
theorem slashAt_hit {l : List UInt8} {k : Nat} (h : l[k]? = some 47) : slashAt l (k + 1) = k + 1 := by
  unfold slashAt
  rw [if_pos h]
theorem slashAt_zero {l : List UInt8} {k : Nat} (h : ∀ i, i < k → l[i]? ≠ some 47) : slashAt l k = 0 := by
  have := slashAt_skip (l := l) (k := 0) k (fun i _ h2 => h i (by omega))
  rw [Nat.zero_add] at this
  exact this
theorem no47 {l : List UInt8} (h : (47 : UInt8) ∉ l) (i : Nat) : l[i]? ≠ some 47 := fun e => h (List.mem_of_getElem? e)
theorem slashPos_plain {l : List UInt8} (h : (47 : UInt8) ∉ l) : slashPos l = 0 := slashAt_zero fun i _ => no47 h i
theorem slashPos_join {a c : List UInt8} (h : (47 : UInt8) ∉ c) : slashPos (a ++ 47 :: c) = a.length + 1 := by
  unfold slashPos
  have hlen : (a ++ 47 :: c).length = a.length + 1 + c.length := by simp; omega
  rw [hlen, slashAt_skip c.length, slashAt_hit]
  · simp
  · intro i h1 _
    rw [List.getElem?_append_right (by omega)]
    obtain ⟨j, rfl⟩ : ∃ j, i = a.length + 1 + j := ⟨i - (a.length + 1), by omega⟩
    rw [show a.length + 1 + j - a.length = j + 1 by omega, List.getElem?_cons_succ]
    exact no47 h j
theorem parent_plain {l : List UInt8} (h : (47 : UInt8) ∉ l) : parent l = [] := by unfold parent; rw [slashPos_plain h]; rfl
theorem last_plain {l : List UInt8} (h : (47 : UInt8) ∉ l) : lastName l = l := by unfold lastName; rw [slashPos_plain h]; rfl
theorem parent_cat {a c : List UInt8} (h : (47 : UInt8) ∉ c) : parent (a ++ 47 :: c) = a := by
  unfold parent
  rw [slashPos_join h]
  simp
theorem last_cat {a c : List UInt8} (h : (47 : UInt8) ∉ c) : lastName (a ++ 47 :: c) = c := by
  unfold lastName
  rw [slashPos_join h, List.drop_append]
  simp
theorem parent_join {q c : List UInt8} (h : (47 : UInt8) ∉ c) : parent (joinP q c) = q := by
  unfold joinP
  split
  · subst q; exact parent_plain h
  · exact parent_cat h
theorem last_join {q c : List UInt8} (h : (47 : UInt8) ∉ c) : lastName (joinP q c) = c := by
  unfold joinP
  split
  · exact last_plain h
  · exact last_cat h
/-- a text and its last slash -/
theorem split_last : ∀ (l : List UInt8), (47 : UInt8) ∉ l ∨ ∃ a c, l = a ++ 47 :: c ∧ (47 : UInt8) ∉ c
  | [] => .inl (by simp)
  | x :: t => by
    rcases split_last t with h | ⟨a, c, rfl, hc⟩
    · by_cases hx : x = 47
      · subst hx
        exact .inr ⟨[], t, rfl, h⟩
      · exact .inl (by simp; exact ⟨fun e => hx e.symm, h⟩)
    · exact .inr ⟨x :: a, c, rfl, hc⟩
theorem last_no47 (l : List UInt8) : (47 : UInt8) ∉ lastName l := by
  rcases split_last l with h | ⟨a, c, rfl, hc⟩
  · rw [last_plain h]; exact h
  · rw [last_cat hc]; exact hc
/- pieces -/
theorem pcs_plain : ∀ {l : List UInt8}, (47 : UInt8) ∉ l → pcs l = [l]
  | [], _ => rfl
  | x :: t, h => by
    have hx : ¬ x = 47 := fun e => h (by simp [e])
    have ht : (47 : UInt8) ∉ t := fun e => h (by simp [e])
    rw [pcs_cons, if_neg hx, pcs_plain ht]
theorem pcs_cat : ∀ (a c : List UInt8), pcs (a ++ 47 :: c) = pcs a ++ pcs c
  | [], c => by show pcs (47 :: c) = _; rw [pcs_cons, if_pos rfl]; rfl
  | x :: t, c => by
    show pcs (x :: (t ++ 47 :: c)) = _
    rw [pcs_cons, pcs_cons, pcs_cat t c]
    by_cases hx : x = 47
    · rw [if_pos hx, if_pos hx]; rfl
    · rw [if_neg hx, if_neg hx]
      cases hp : pcs t with
      | nil => exact absurd hp (pcs_ne t)
      | cons y ys => rfl
theorem Neat.ne {l : List UInt8} (h : Neat l) : l ≠ [] := by rintro rfl; exact h (by simp [pcs])
theorem not_neat_nil : ¬ Neat [] := fun h => h.ne rfl
theorem not_neat_head {c : List UInt8} : ¬ Neat (47 :: c) := fun h => h (by rw [pcs_cons, if_pos rfl]; exact List.mem_cons_self ..)
theorem neat_cat {a c : List UInt8} : Neat (a ++ 47 :: c) ↔ Neat a ∧ Neat c := by
  unfold Neat
  rw [pcs_cat, List.mem_append]
  exact ⟨fun h => ⟨fun h1 => h (.inl h1), fun h1 => h (.inr h1)⟩, fun h h1 => h1.elim h.1 h.2⟩
theorem neat_join {q c : List UInt8} (hq : q = [] ∨ Neat q) : Neat (joinP q c) ↔ Neat c := by
  unfold joinP
  by_cases h : q = []
  · rw [if_pos h]
  · rw [if_neg h, neat_cat]
    rcases hq with h1 | h1
    · exact absurd h1 h
    · exact ⟨fun x => x.2, fun x => ⟨h1, x⟩⟩
/-- a neat path is its parent and its last name -/
theorem Neat.is_join {l : List UInt8} (h : Neat l) : l = joinP (parent l) (lastName l) := by
  rcases split_last l with h1 | ⟨a, c, rfl, hc⟩
  · rw [parent_plain h1, last_plain h1]; rfl
  · rw [parent_cat hc, last_cat hc]
    have ha : a ≠ [] := (neat_cat.1 h).1.ne
    unfold joinP
    rw [if_neg ha]
theorem Neat.parent {l : List UInt8} (h : Neat l) : parent l = [] ∨ Neat (Go.Proofs.YtfanfkogogijpaaGreatDoor.parent l) := by
  rcases split_last l with h1 | ⟨a, c, rfl, hc⟩
  · exact .inl (parent_plain h1)
  · rw [parent_cat hc]; exact .inr (neat_cat.1 h).1
theorem parent_shorter {l : List UInt8} (h : l ≠ []) : (parent l).length < l.length := by
  rcases split_last l with h1 | ⟨a, c, rfl, hc⟩
  · rw [parent_plain h1]; exact List.length_pos_iff.2 h
  · rw [parent_cat hc]; simp
/- the node of a name in a directory is the node of the path -/
theorem kid_look {nd : List Nd} (hok : ∀ y ∈ nd, Neat y.e.path) {q c : List UInt8} (hc : (47 : UInt8) ∉ c) : kidN nd q c = lookN nd (joinP q c) := by
  refine find_congr fun y hy => ?_
  have hn := hok y hy
  by_cases h : y.e.path = joinP q c
  · rw [h, parent_join hc, last_join hc]
    simp
  · rw [show (y.e.path == joinP q c) = false from by simpa using h]
    rw [Bool.and_eq_false_iff]
    by_cases h1 : parent y.e.path = q
    · refine .inr ?_
      have h2 : lastName y.e.path ≠ c := fun h2 => h (by rw [hn.is_join, h1, h2])
      simpa using h2
    · exact .inl (by simpa using h1)
theorem lookN_some {nd : List Nd} {q : List UInt8} {y : Nd} (h : lookN nd q = some y) : y ∈ nd ∧ y.e.path = q :=
  ⟨List.mem_of_find?_eq_some h, by simpa using List.find?_some h⟩
theorem lookN_none {nd : List Nd} {q : List UInt8} (h : lookN nd q = none) : ∀ y ∈ nd, y.e.path ≠ q := fun y hy e => by
  have := List.find?_eq_none.1 h y hy
  simp [e] at this
theorem lookN_mem {nd : List Nd} (h : nd.Pairwise (fun a b => a.e.path ≠ b.e.path)) {y : Nd} (hy : y ∈ nd) : lookN nd y.e.path = some y := by
  induction nd with
  | nil => cases hy
  | cons a l ih =>
    unfold lookN
    rw [List.find?_cons]
    rcases List.mem_cons.1 hy with rfl | hy
    · simp
    · have hne : a.e.path ≠ y.e.path := (List.pairwise_cons.1 h).1 y hy
      rw [show (a.e.path == y.e.path) = false from by simpa using hne]
      exact ih (List.pairwise_cons.1 h).2 hy
theorem lookN_neat {nd : List Nd} (hok : ∀ y ∈ nd, Neat y.e.path) {q : List UInt8} (h : ¬ Neat q) : lookN nd q = none := by
  cases hq : lookN nd q with
  | none => rfl
  | some y =>
    obtain ⟨h1, h2⟩ := lookN_some hq
    exact absurd (h2 ▸ hok y h1) h
/-- what lies below what is there has it above it -/
theorem above_there {nd : List Nd} (h : Wf nd) : ∀ (n : Nat) (a c : List UInt8), c.length ≤ n → a ≠ [] → lookN nd (a ++ 47 :: c) ≠ none → lookN nd a ≠ none
  | n, a, c, hn, ha, hl => by
    cases hq : lookN nd (a ++ 47 :: c) with
    | none => exact absurd hq hl
    | some y =>
      obtain ⟨hy, hp⟩ := lookN_some hq
      rcases split_last c with hc | ⟨c1, c2, rfl, hc2⟩
      · rcases h.up y hy with h1 | ⟨z, hz, h1, _⟩
        · rw [hp, parent_cat hc] at h1
          exact absurd h1 ha
        · rw [hp, parent_cat hc] at h1
          intro hno
          exact lookN_none hno z hz h1
      · rcases h.up y hy with h1 | ⟨z, hz, h1, _⟩
        · rw [hp, show a ++ 47 :: (c1 ++ 47 :: c2) = (a ++ 47 :: c1) ++ 47 :: c2 by simp, parent_cat hc2] at h1
          simp at h1
        · rw [hp, show a ++ 47 :: (c1 ++ 47 :: c2) = (a ++ 47 :: c1) ++ 47 :: c2 by simp, parent_cat hc2] at h1
          cases n with
          | zero => simp at hn
          | succ n =>
            refine above_there h n a c1 (by simp at hn; omega) ha ?_
            intro hno
            exact lookN_none hno z hz h1
/- cutP -/
theorem cutP_fst : ∀ (l : List UInt8), (47 : UInt8) ∉ (cutP l).1
  | [] => by simp [cutP]
  | x :: t => by
    rw [cutP_cons]
    by_cases hx : x = 47
    · rw [if_pos hx]; simp
    · rw [if_neg hx]
      simp only [List.mem_cons, not_or]
      exact ⟨fun e => hx e.symm, cutP_fst t⟩
theorem cutP_is : ∀ (l : List UInt8), l = if (cutP l).2.2 then (cutP l).1 ++ 47 :: (cutP l).2.1 else (cutP l).1
  | [] => rfl
  | x :: t => by
    rw [cutP_cons]
    by_cases hx : x = 47
    · rw [if_pos hx, hx]; rfl
    · rw [if_neg hx]
      have := cutP_is t
      simp only []
      split
      · rename_i h
        rw [h, if_pos rfl] at this
        show x :: t = x :: ((cutP t).1 ++ 47 :: (cutP t).2.1)
        rw [← this]
      · rename_i h
        rw [if_neg h] at this
        show x :: t = x :: (cutP t).1
        rw [← this]
theorem cutP_rest : ∀ {l : List UInt8}, (cutP l).2.2 = false → (cutP l).2.1 = []
  | [], _ => rfl
  | x :: t, h => by
    rw [cutP_cons] at h ⊢
    by_cases hx : x = 47
    · rw [if_pos hx] at h; cases h
    · rw [if_neg hx] at h ⊢
      exact cutP_rest h
/-- one piece is taken: where that stands, what is left -/
theorem join_cat {q a c : List UInt8} : joinP q (a ++ 47 :: c) = joinP q a ++ 47 :: c := by
  unfold joinP
  split
  · rfl
  · simp
theorem join_join {q a c : List UInt8} (h : joinP q a ≠ []) : joinP (joinP q a) c = joinP q a ++ 47 :: c := by
  show (if joinP q a = [] then c else joinP q a ++ 47 :: c) = _
  rw [if_neg h]
/-- where the search stands: found, lost, or under way at the node of q with the pieces of p left -/
inductive Seek (nd : List Nd) (P : List UInt8) : Option Nd → List UInt8 → Prop
  | lost (h : lookN nd P = none) (p : List UInt8) : Seek nd P none p
  | way (q p : List UInt8) (y : Nd) (h : lookN nd q = some y) (hp : p ≠ []) (h2 : joinP q p = P) : Seek nd P (some y) p
  | done (y : Nd) (h : lookN nd P = some y) : Seek nd P (some y) []
/-- a piece's step: p, not empty, is left at q (the root, or there) -/
theorem seek_step {nd : List Nd} (h : Wf nd) {P q p : List UInt8} (hq : q = [] ∨ ∃ y, lookN nd q = some y) (hp : p ≠ []) (hP : joinP q p = P) :
    ((cutP p).2.2 = true ∧ (cutP p).2.1 = [] → lookN nd P = none) ∧ (¬ ((cutP p).2.2 = true ∧ (cutP p).2.1 = []) → Seek nd P (kidN nd q (cutP p).1) (cutP p).2.1) := by
  have hc := cutP_fst p
  have hi := cutP_is p
  have hqn : q = [] ∨ Neat q := hq.imp id fun ⟨y, hy⟩ => by
    obtain ⟨h1, h2⟩ := lookN_some hy
    rw [← h2]
    exact h.ok y h1
  obtain ⟨c, hcc⟩ : ∃ c, c = (cutP p).1 := ⟨_, rfl⟩
  obtain ⟨r, hr⟩ : ∃ r, r = (cutP p).2.1 := ⟨_, rfl⟩
  have hrest := @cutP_rest p
  rw [← hcc, ← hr] at hi
  rw [← hcc] at hc ⊢
  rw [← hr] at hrest ⊢
  rw [kid_look h.ok hc]
  refine ⟨fun ⟨hm, h0⟩ => ?_, fun hno => ?_⟩
  · rw [hm, if_pos rfl, h0] at hi
    refine lookN_neat h.ok ?_
    rw [← hP, hi, neat_join hqn, neat_cat]
    exact fun x => not_neat_nil x.2
  · by_cases hm : (cutP p).2.2 = true
    · have hr0 : r ≠ [] := fun e => hno ⟨hm, e⟩
      rw [hm, if_pos rfl] at hi
      have hP2 : joinP q c ++ 47 :: r = P := by rw [← hP, hi, join_cat]
      cases hl : lookN nd (joinP q c) with
      | none =>
        refine .lost ?_ _
        by_cases hj : joinP q c = []
        · rw [← hP2, hj]
          exact lookN_neat h.ok not_neat_head
        · cases hl2 : lookN nd P with
          | none => rfl
          | some y => exact absurd hl (above_there h r.length _ r (Nat.le_refl _) hj (by rw [hP2, hl2]; simp))
      | some y =>
        have hj : joinP q c ≠ [] := fun e => by
          rw [e, lookN_neat h.ok not_neat_nil] at hl
          cases hl
        exact .way _ _ y hl hr0 (by rw [join_join hj, hP2])
    · have hm' : (cutP p).2.2 = false := by simpa using hm
      rw [hm', if_neg (by simp)] at hi
      rw [hrest hm']
      have hP2 : joinP q c = P := by rw [← hi]; exact hP
      rw [hP2]
      cases hl : lookN nd P with
      | none => exact .lost hl _
      | some y => exact .done y hl
end Go.Proofs.YtfanfkogogijpaaGreatDoor
