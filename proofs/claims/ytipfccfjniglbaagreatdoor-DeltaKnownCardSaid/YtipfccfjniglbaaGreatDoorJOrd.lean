/- Joined: what these texts prove stands at the head of each part: TModel, TCheck, TOrd2. -/
import Derived.Test.YtipfccfjniglbaaGreatDoorJKit
set_option linter.unusedSimpArgs false
set_option linter.unusedVariables false
namespace Go.Proofs.YtipfccfjniglbaaGreatDoor
section
/-- an entry -/
structure Ent where
  p : ByteArray
  k : Int
  m : Int
  d : ByteArray
  l : ByteArray
def Ent.path (e : Ent) : List UInt8 := e.p.data.toList
/-- a node: its entry, its block, its map's block -/
structure Nd where
  e : Ent
  b : Nat
  m : Nat
def lookN (nd : List Nd) (q : List UInt8) : Option Nd := nd.find? (fun y => y.e.path == q)
def kidN (nd : List Nd) (q c : List UInt8) : Option Nd := nd.find? (fun y => parent y.e.path == q && lastName y.e.path == c)
/-- a path without empty pieces -/
def Neat (l : List UInt8) : Prop := [] ∉ pcs l
structure Wf (nd : List Nd) : Prop where
  ok : ∀ y ∈ nd, Neat y.e.path
  up : ∀ y ∈ nd, parent y.e.path = [] ∨ ∃ z ∈ nd, z.e.path = parent y.e.path ∧ z.e.k = 1
  one : nd.Pairwise (fun a b => a.e.path ≠ b.e.path)
theorem find_congr {α : Type} {f g : α → Bool} : ∀ {l : List α}, (∀ x ∈ l, f x = g x) → l.find? f = l.find? g
  | [], _ => rfl
  | a :: l, h => by
    rw [List.find?_cons, List.find?_cons, h a (List.mem_cons_self ..), find_congr fun x hx => h x (List.mem_cons_of_mem _ hx)]
/- slashes -/
theorem slashAt_skip {l : List UInt8} {k : Nat} : ∀ j, (∀ i, k ≤ i → i < k + j → l[i]? ≠ some 47) → slashAt l (k + j) = slashAt l k
  | 0, _ => rfl
  | j + 1, h => by
    rw [show slashAt l (k + (j + 1)) = if l[k + j]? = some 47 then k + j + 1 else slashAt l (k + j) from rfl, if_neg (h (k + j) (by omega) (by omega))]
    exact slashAt_skip j fun i h1 h2 => h i h1 (by omega)
theorem slashAt_hit {l : List UInt8} {k : Nat} (h : l[k]? = some 47) : slashAt l (k + 1) = k + 1 := by
  unfold slashAt
  rw [if_pos h]
theorem slashAt_zero {l : List UInt8} {k : Nat} (h : ∀ i, i < k → l[i]? ≠ some 47) : slashAt l k = 0 := by
  have := slashAt_skip (l := l) (k := 0) k (fun i _ h2 => h i (by omega))
  rw [Nat.zero_add] at this
  exact this
theorem no47 {l : List UInt8} (h : (47 : UInt8) ∉ l) (i : Nat) : l[i]? ≠ some 47 := fun e => h (List.mem_of_getElem? e)
theorem slashPos_plain {l : List UInt8} (h : (47 : UInt8) ∉ l) : slashPos l = 0 := slashAt_zero fun i _ => no47 h i
theorem slashPos_join {a c : List UInt8} (h : (47 : UInt8) ∉ c) : slashPos (a ++ 47 :: c) = a.length + 1 := by
  unfold slashPos
  have hlen : (a ++ 47 :: c).length = a.length + 1 + c.length := by simp; omega
  rw [hlen, slashAt_skip c.length, slashAt_hit]
  · simp
  · intro i h1 _
    rw [List.getElem?_append_right (by omega)]
    obtain ⟨j, rfl⟩ : ∃ j, i = a.length + 1 + j := ⟨i - (a.length + 1), by omega⟩
    rw [show a.length + 1 + j - a.length = j + 1 by omega, List.getElem?_cons_succ]
    exact no47 h j
theorem parent_plain {l : List UInt8} (h : (47 : UInt8) ∉ l) : parent l = [] := by unfold parent; rw [slashPos_plain h]; rfl
theorem last_plain {l : List UInt8} (h : (47 : UInt8) ∉ l) : lastName l = l := by unfold lastName; rw [slashPos_plain h]; rfl
theorem parent_cat {a c : List UInt8} (h : (47 : UInt8) ∉ c) : parent (a ++ 47 :: c) = a := by
  unfold parent
  rw [slashPos_join h]
  simp
theorem last_cat {a c : List UInt8} (h : (47 : UInt8) ∉ c) : lastName (a ++ 47 :: c) = c := by
  unfold lastName
  rw [slashPos_join h, List.drop_append]
  simp
theorem parent_join {q c : List UInt8} (h : (47 : UInt8) ∉ c) : parent (joinP q c) = q := by
  unfold joinP
  split
  · subst q; exact parent_plain h
  · exact parent_cat h
theorem last_join {q c : List UInt8} (h : (47 : UInt8) ∉ c) : lastName (joinP q c) = c := by
  unfold joinP
  split
  · exact last_plain h
  · exact last_cat h
/-- a text and its last slash -/
theorem split_last : ∀ (l : List UInt8), (47 : UInt8) ∉ l ∨ ∃ a c, l = a ++ 47 :: c ∧ (47 : UInt8) ∉ c
  | [] => .inl (by simp)
  | x :: t => by
    rcases split_last t with h | ⟨a, c, rfl, hc⟩
    · by_cases hx : x = 47
      · subst hx
        exact .inr ⟨[], t, rfl, h⟩
      · exact .inl (by simp; exact ⟨fun e => hx e.symm, h⟩)
    · exact .inr ⟨x :: a, c, rfl, hc⟩
theorem last_no47 (l : List UInt8) : (47 : UInt8) ∉ lastName l := by
  rcases split_last l with h | ⟨a, c, rfl, hc⟩
  · rw [last_plain h]; exact h
  · rw [last_cat hc]; exact hc
/- pieces -/
theorem pcs_plain : ∀ {l : List UInt8}, (47 : UInt8) ∉ l → pcs l = [l]
  | [], _ => rfl
  | x :: t, h => by
    have hx : ¬ x = 47 := fun e => h (by simp [e])
    have ht : (47 : UInt8) ∉ t := fun e => h (by simp [e])
    rw [pcs_cons, if_neg hx, pcs_plain ht]
theorem pcs_cat : ∀ (a c : List UInt8), pcs (a ++ 47 :: c) = pcs a ++ pcs c
  | [], c => by show pcs (47 :: c) = _; rw [pcs_cons, if_pos rfl]; rfl
  | x :: t, c => by
    show pcs (x :: (t ++ 47 :: c)) = _
    rw [pcs_cons, pcs_cons, pcs_cat t c]
    by_cases hx : x = 47
    · rw [if_pos hx, if_pos hx]; rfl
    · rw [if_neg hx, if_neg hx]
      cases hp : pcs t with
      | nil => exact absurd hp (pcs_ne t)
      | cons y ys => rfl
theorem Neat.ne {l : List UInt8} (h : Neat l) : l ≠ [] := by rintro rfl; exact h (by simp [pcs])
theorem not_neat_nil : ¬ Neat [] := fun h => h.ne rfl
theorem not_neat_head {c : List UInt8} : ¬ Neat (47 :: c) := fun h => h (by rw [pcs_cons, if_pos rfl]; exact List.mem_cons_self ..)
theorem neat_cat {a c : List UInt8} : Neat (a ++ 47 :: c) ↔ Neat a ∧ Neat c := by
  unfold Neat
  rw [pcs_cat, List.mem_append]
  exact ⟨fun h => ⟨fun h1 => h (.inl h1), fun h1 => h (.inr h1)⟩, fun h h1 => h1.elim h.1 h.2⟩
theorem neat_join {q c : List UInt8} (hq : q = [] ∨ Neat q) : Neat (joinP q c) ↔ Neat c := by
  unfold joinP
  by_cases h : q = []
  · rw [if_pos h]
  · rw [if_neg h, neat_cat]
    rcases hq with h1 | h1
    · exact absurd h1 h
    · exact ⟨fun x => x.2, fun x => ⟨h1, x⟩⟩
/-- a neat path is its parent and its last name -/
theorem Neat.is_join {l : List UInt8} (h : Neat l) : l = joinP (parent l) (lastName l) := by
  rcases split_last l with h1 | ⟨a, c, rfl, hc⟩
  · rw [parent_plain h1, last_plain h1]; rfl
  · rw [parent_cat hc, last_cat hc]
    have ha : a ≠ [] := (neat_cat.1 h).1.ne
    unfold joinP
    rw [if_neg ha]
theorem Neat.parent {l : List UInt8} (h : Neat l) : parent l = [] ∨ Neat (Go.Proofs.YtipfccfjniglbaaGreatDoor.parent l) := by
  rcases split_last l with h1 | ⟨a, c, rfl, hc⟩
  · exact .inl (parent_plain h1)
  · rw [parent_cat hc]; exact .inr (neat_cat.1 h).1
theorem parent_shorter {l : List UInt8} (h : l ≠ []) : (parent l).length < l.length := by
  rcases split_last l with h1 | ⟨a, c, rfl, hc⟩
  · rw [parent_plain h1]; exact List.length_pos_iff.2 h
  · rw [parent_cat hc]; simp
/- the node of a name in a directory is the node of the path -/
theorem kid_look {nd : List Nd} (hok : ∀ y ∈ nd, Neat y.e.path) {q c : List UInt8} (hc : (47 : UInt8) ∉ c) : kidN nd q c = lookN nd (joinP q c) := by
  refine find_congr fun y hy => ?_
  have hn := hok y hy
  by_cases h : y.e.path = joinP q c
  · rw [h, parent_join hc, last_join hc]
    simp
  · rw [show (y.e.path == joinP q c) = false from by simpa using h]
    rw [Bool.and_eq_false_iff]
    by_cases h1 : parent y.e.path = q
    · refine .inr ?_
      have h2 : lastName y.e.path ≠ c := fun h2 => h (by rw [hn.is_join, h1, h2])
      simpa using h2
    · exact .inl (by simpa using h1)
theorem lookN_some {nd : List Nd} {q : List UInt8} {y : Nd} (h : lookN nd q = some y) : y ∈ nd ∧ y.e.path = q :=
  ⟨List.mem_of_find?_eq_some h, by simpa using List.find?_some h⟩
theorem lookN_none {nd : List Nd} {q : List UInt8} (h : lookN nd q = none) : ∀ y ∈ nd, y.e.path ≠ q := fun y hy e => by
  have := List.find?_eq_none.1 h y hy
  simp [e] at this
theorem lookN_mem {nd : List Nd} (h : nd.Pairwise (fun a b => a.e.path ≠ b.e.path)) {y : Nd} (hy : y ∈ nd) : lookN nd y.e.path = some y := by
  induction nd with
  | nil => cases hy
  | cons a l ih =>
    unfold lookN
    rw [List.find?_cons]
    rcases List.mem_cons.1 hy with rfl | hy
    · simp
    · have hne : a.e.path ≠ y.e.path := (List.pairwise_cons.1 h).1 y hy
      rw [show (a.e.path == y.e.path) = false from by simpa using hne]
      exact ih (List.pairwise_cons.1 h).2 hy
theorem lookN_neat {nd : List Nd} (hok : ∀ y ∈ nd, Neat y.e.path) {q : List UInt8} (h : ¬ Neat q) : lookN nd q = none := by
  cases hq : lookN nd q with
  | none => rfl
  | some y =>
    obtain ⟨h1, h2⟩ := lookN_some hq
    exact absurd (h2 ▸ hok y h1) h
/-- what lies below what is there has it above it -/
theorem above_there {nd : List Nd} (h : Wf nd) : ∀ (n : Nat) (a c : List UInt8), c.length ≤ n → a ≠ [] → lookN nd (a ++ 47 :: c) ≠ none → lookN nd a ≠ none
  | n, a, c, hn, ha, hl => by
    cases hq : lookN nd (a ++ 47 :: c) with
    | none => exact absurd hq hl
    | some y =>
      obtain ⟨hy, hp⟩ := lookN_some hq
      rcases split_last c with hc | ⟨c1, c2, rfl, hc2⟩
      · rcases h.up y hy with h1 | ⟨z, hz, h1, _⟩
        · rw [hp, parent_cat hc] at h1
          exact absurd h1 ha
        · rw [hp, parent_cat hc] at h1
          intro hno
          exact lookN_none hno z hz h1
      · rcases h.up y hy with h1 | ⟨z, hz, h1, _⟩
        · rw [hp, show a ++ 47 :: (c1 ++ 47 :: c2) = (a ++ 47 :: c1) ++ 47 :: c2 by simp, parent_cat hc2] at h1
          simp at h1
        · rw [hp, show a ++ 47 :: (c1 ++ 47 :: c2) = (a ++ 47 :: c1) ++ 47 :: c2 by simp, parent_cat hc2] at h1
          cases n with
          | zero => simp at hn
          | succ n =>
            refine above_there h n a c1 (by simp at hn; omega) ha ?_
            intro hno
            exact lookN_none hno z hz h1
/- cutP -/
theorem cutP_fst : ∀ (l : List UInt8), (47 : UInt8) ∉ (cutP l).1
  | [] => by simp [cutP]
  | x :: t => by
    rw [cutP_cons]
    by_cases hx : x = 47
    · rw [if_pos hx]; simp
    · rw [if_neg hx]
      simp only [List.mem_cons, not_or]
      exact ⟨fun e => hx e.symm, cutP_fst t⟩
theorem cutP_is : ∀ (l : List UInt8), l = if (cutP l).2.2 then (cutP l).1 ++ 47 :: (cutP l).2.1 else (cutP l).1
  | [] => rfl
  | x :: t => by
    rw [cutP_cons]
    by_cases hx : x = 47
    · rw [if_pos hx, hx]; rfl
    · rw [if_neg hx]
      have := cutP_is t
      simp only []
      split
      · rename_i h
        rw [h, if_pos rfl] at this
        show x :: t = x :: ((cutP t).1 ++ 47 :: (cutP t).2.1)
        rw [← this]
      · rename_i h
        rw [if_neg h] at this
        show x :: t = x :: (cutP t).1
        rw [← this]
theorem cutP_rest : ∀ {l : List UInt8}, (cutP l).2.2 = false → (cutP l).2.1 = []
  | [], _ => rfl
  | x :: t, h => by
    rw [cutP_cons] at h ⊢
    by_cases hx : x = 47
    · rw [if_pos hx] at h; cases h
    · rw [if_neg hx] at h ⊢
      exact cutP_rest h
/-- one piece is taken: where that stands, what is left -/
theorem join_cat {q a c : List UInt8} : joinP q (a ++ 47 :: c) = joinP q a ++ 47 :: c := by
  unfold joinP
  split
  · rfl
  · simp
theorem join_join {q a c : List UInt8} (h : joinP q a ≠ []) : joinP (joinP q a) c = joinP q a ++ 47 :: c := by
  show (if joinP q a = [] then c else joinP q a ++ 47 :: c) = _
  rw [if_neg h]
/-- where the search stands: found, lost, or under way at the node of q with the pieces of p left -/
inductive Seek (nd : List Nd) (P : List UInt8) : Option Nd → List UInt8 → Prop
  | lost (h : lookN nd P = none) (p : List UInt8) : Seek nd P none p
  | way (q p : List UInt8) (y : Nd) (h : lookN nd q = some y) (hp : p ≠ []) (h2 : joinP q p = P) : Seek nd P (some y) p
  | done (y : Nd) (h : lookN nd P = some y) : Seek nd P (some y) []
/-- a piece's step: p, not empty, is left at q (the root, or there) -/
theorem seek_step {nd : List Nd} (h : Wf nd) {P q p : List UInt8} (hq : q = [] ∨ ∃ y, lookN nd q = some y) (hp : p ≠ []) (hP : joinP q p = P) :
    ((cutP p).2.2 = true ∧ (cutP p).2.1 = [] → lookN nd P = none) ∧ (¬ ((cutP p).2.2 = true ∧ (cutP p).2.1 = []) → Seek nd P (kidN nd q (cutP p).1) (cutP p).2.1) := by
  have hc := cutP_fst p
  have hi := cutP_is p
  have hqn : q = [] ∨ Neat q := hq.imp id fun ⟨y, hy⟩ => by
    obtain ⟨h1, h2⟩ := lookN_some hy
    rw [← h2]
    exact h.ok y h1
  obtain ⟨c, hcc⟩ : ∃ c, c = (cutP p).1 := ⟨_, rfl⟩
  obtain ⟨r, hr⟩ : ∃ r, r = (cutP p).2.1 := ⟨_, rfl⟩
  have hrest := @cutP_rest p
  rw [← hcc, ← hr] at hi
  rw [← hcc] at hc ⊢
  rw [← hr] at hrest ⊢
  rw [kid_look h.ok hc]
  refine ⟨fun ⟨hm, h0⟩ => ?_, fun hno => ?_⟩
  · rw [hm, if_pos rfl, h0] at hi
    refine lookN_neat h.ok ?_
    rw [← hP, hi, neat_join hqn, neat_cat]
    exact fun x => not_neat_nil x.2
  · by_cases hm : (cutP p).2.2 = true
    · have hr0 : r ≠ [] := fun e => hno ⟨hm, e⟩
      rw [hm, if_pos rfl] at hi
      have hP2 : joinP q c ++ 47 :: r = P := by rw [← hP, hi, join_cat]
      cases hl : lookN nd (joinP q c) with
      | none =>
        refine .lost ?_ _
        by_cases hj : joinP q c = []
        · rw [← hP2, hj]
          exact lookN_neat h.ok not_neat_head
        · cases hl2 : lookN nd P with
          | none => rfl
          | some y => exact absurd hl (above_there h r.length _ r (Nat.le_refl _) hj (by rw [hP2, hl2]; simp))
      | some y =>
        have hj : joinP q c ≠ [] := fun e => by
          rw [e, lookN_neat h.ok not_neat_nil] at hl
          cases hl
        exact .way _ _ y hl hr0 (by rw [join_join hj, hP2])
    · have hm' : (cutP p).2.2 = false := by simpa using hm
      rw [hm', if_neg (by simp)] at hi
      rw [hrest hm']
      have hP2 : joinP q c = P := by rw [← hi]; exact hP
      rw [hP2]
      cases hl : lookN nd P with
      | none => exact .lost hl _
      | some y => exact .done y hl
end
end Go.Proofs.YtipfccfjniglbaaGreatDoor
namespace Go.Proofs.YtipfccfjniglbaaGreatDoor
section
/-- what a text lacks that is to be a path -/
def whiteout (l : List UInt8) : List UInt8 := joinP (parent l) (white ++ lastName l)
def checkNo (l : List UInt8) : Nat :=
  if l = [] then 15 else if (pcs l).any (fun p => !nameOk p) then 8 else if 32 < (pcs l).length ∨ 255 < l.length then 9 else (splitP (whiteout l)).2.2
theorem checkNo_neat {l : List UInt8} (h : checkNo l = 0) : Neat l := by
  unfold checkNo at h
  by_cases h0 : l = []
  · rw [if_pos h0] at h; cases h
  rw [if_neg h0] at h
  by_cases h1 : (pcs l).any (fun p => !nameOk p) = true
  · rw [if_pos h1] at h; cases h
  intro hm
  exact h1 (List.any_eq_true.2 ⟨[], hm, rfl⟩)
theorem checkNo_small {l : List UInt8} (h : checkNo l = 0) : l.length ≤ 255 := by
  unfold checkNo at h
  by_cases h0 : l = []
  · rw [if_pos h0] at h; cases h
  rw [if_neg h0] at h
  by_cases h1 : (pcs l).any (fun p => !nameOk p) = true
  · rw [if_pos h1] at h; cases h
  rw [if_neg h1] at h
  by_cases h2 : 32 < (pcs l).length ∨ 255 < l.length
  · rw [if_pos h2] at h; cases h
  · omega
/-- what is wrong with an entry by itself -/
def itselfNo (e : Ent) : Nat :=
  if ¬ (e.k = 1 ∨ e.k = 2 ∨ e.k = 3) then 14
  else if checkNo e.path ≠ 0 then checkNo e.path
  else if e.m < 0 ∨ 4095 < e.m ∨ (e.k = 3 ∧ e.m ≠ 511) then 16
  else if e.k = 3 ∧ (e.l.data.toList = [] ∨ 100 < e.l.size ∨ (0 : UInt8) ∈ e.l.data.toList) then 17
  else if e.k = 2 ∧ 1048576 < e.d.size then 5
  else if (e.k ≠ 2 ∧ e.d.data.toList ≠ []) ∨ (e.k ≠ 3 ∧ e.l.data.toList ≠ []) then 4
  else 0
theorem itselfNo_check {e : Ent} (h : itselfNo e = 0) : checkNo e.path = 0 := by
  unfold itselfNo at h
  split at h
  · cases h
  · split at h
    · omega
    · omega
theorem itselfNo_data {e : Ent} (h : itselfNo e = 0) : e.d.size ≤ 1048576 := by
  unfold itselfNo at h
  split at h
  · cases h
  split at h
  · omega
  split at h
  · cases h
  split at h
  · cases h
  split at h
  · cases h
  split at h
  · cases h
  · rename_i h1 h2
    by_cases hk : e.k = 2
    · by_cases hd : 1048576 < e.d.size
      · exact absurd ⟨hk, hd⟩ h1
      · omega
    · have : e.d.data.toList = [] := by
        by_cases hd : e.d.data.toList = []
        · exact hd
        · exact absurd (.inl ⟨hk, hd⟩) h2
      have : e.d.size = 0 := by
        show e.d.data.toList.length = 0
        rw [this]; rfl
      omega
/-- the entry at a path -/
def lookE (l : List Ent) (q : List UInt8) : Option Ent := l.find? (fun y => y.path == q)
/-- is a path's parent there, and a directory? -/
def upNo (l : List Ent) (p : List UInt8) : Nat := if parent p = [] then 0 else match lookE l (parent p) with
  | none => 10
  | some x => if x.k = 1 then 0 else 13
def bytesE (l : List Ent) : Nat := (l.map (fun e => e.d.size)).sum
/-- what is wrong with an entry behind these -/
def oneNo (seen : List Ent) (e : Ent) : Nat :=
  if itselfNo e ≠ 0 then itselfNo e
  else match seen.getLast? with
    | some q => if q.path = e.path then 11 else if 0 < compareP q.path e.path then 1
      else if upNo seen e.path ≠ 0 then upNo seen e.path else if 4096 ≤ seen.length ∨ 16777216 < bytesE seen + e.d.size then 5 else 0
    | none => if upNo seen e.path ≠ 0 then upNo seen e.path else if 4096 ≤ seen.length ∨ 16777216 < bytesE seen + e.d.size then 5 else 0
/-- the first entry with which something is wrong -/
def checkGo : List Ent → List Ent → Nat × Nat
  | _, [] => (0, 0)
  | seen, e :: r => if oneNo seen e ≠ 0 then (oneNo seen e, seen.length) else checkGo (seen ++ [e]) r
def checkL (l : List Ent) : Nat × Nat := checkGo [] l
/-- these are a tree -/
structure Good (l : List Ent) : Prop where
  it : ∀ e ∈ l, itselfNo e = 0
  up : ∀ e ∈ l, upNo l e.path = 0
  inc : l.Pairwise (fun a b => compareP a.path b.path < 0)
  len : l.length ≤ 4096
  byt : bytesE l ≤ 16777216
theorem good_nil : Good [] := ⟨fun _ h => (by cases h), fun _ h => (by cases h), List.Pairwise.nil, by decide, by decide⟩
theorem lookE_append {l r : List Ent} {q : List UInt8} {x : Ent} (h : lookE l q = some x) : lookE (l ++ r) q = some x := by
  unfold lookE at h ⊢
  rw [List.find?_append, h]; rfl
theorem upNo_append {l r : List Ent} {p : List UInt8} (h : upNo l p = 0) : upNo (l ++ r) p = 0 := by
  unfold upNo at h ⊢
  by_cases h0 : parent p = []
  · rw [if_pos h0]
  rw [if_neg h0] at h ⊢
  cases hl : lookE l (parent p) with
  | none => rw [hl] at h; cases h
  | some x =>
    rw [hl] at h
    rw [lookE_append hl]
    exact h
theorem bytesE_append (l r : List Ent) : bytesE (l ++ r) = bytesE l + bytesE r := by simp [bytesE]
theorem inc_all {l : List Ent} (h : l.Pairwise (fun a b => compareP a.path b.path < 0)) {q e : Ent} (hq : l.getLast? = some q) (hc : compareP q.path e.path < 0) : ∀ x ∈ l, compareP x.path e.path < 0 := by
  obtain ⟨ys, rfl⟩ := List.getLast?_eq_some_iff.1 hq
  intro x hx
  rcases List.mem_append.1 hx with hx | hx
  · exact compareP_trans ((List.pairwise_append.1 h).2.2 x hx q (List.mem_singleton.2 rfl)) hc
  · rw [List.mem_singleton.1 hx]; exact hc
/-- what oneNo = 0 says -/
theorem oneNo_zero {seen : List Ent} {e : Ent} (hs : Good seen) (h : oneNo seen e = 0) : itselfNo e = 0 ∧ upNo seen e.path = 0 ∧ (∀ x ∈ seen, compareP x.path e.path < 0) ∧ seen.length < 4096 ∧ bytesE seen + e.d.size ≤ 16777216 := by
  unfold oneNo at h
  by_cases h1 : itselfNo e ≠ 0
  · rw [if_pos h1] at h; exact absurd h h1
  rw [if_neg h1] at h
  have h1' : itselfNo e = 0 := by omega
  have fin : (if upNo seen e.path ≠ 0 then upNo seen e.path else if 4096 ≤ seen.length ∨ 16777216 < bytesE seen + e.d.size then 5 else 0) = 0 → upNo seen e.path = 0 ∧ seen.length < 4096 ∧ bytesE seen + e.d.size ≤ 16777216 := by
    intro h
    by_cases h2 : upNo seen e.path ≠ 0
    · rw [if_pos h2] at h; exact absurd h h2
    rw [if_neg h2] at h
    by_cases h3 : 4096 ≤ seen.length ∨ 16777216 < bytesE seen + e.d.size
    · rw [if_pos h3] at h; cases h
    · exact ⟨by omega, by omega, by omega⟩
  cases hl : seen.getLast? with
  | none =>
    rw [hl] at h
    have := fin h
    rw [List.getLast?_eq_none_iff.1 hl] at this ⊢
    exact ⟨h1', this.1, fun x hx => (by cases hx), this.2⟩
  | some q =>
    rw [hl] at h
    simp only [] at h
    by_cases h2 : q.path = e.path
    · rw [if_pos h2] at h; cases h
    rw [if_neg h2] at h
    by_cases h3 : 0 < compareP q.path e.path
    · rw [if_pos h3] at h; cases h
    rw [if_neg h3] at h
    have := fin h
    have hc : compareP q.path e.path < 0 := by
      have : compareP q.path e.path ≠ 0 := fun hz => h2 (compareP_zero.1 hz)
      omega
    exact ⟨h1', this.1, inc_all hs.inc hl hc, this.2⟩
theorem Good.add {seen : List Ent} {e : Ent} (hs : Good seen) (h : oneNo seen e = 0) : Good (seen ++ [e]) := by
  obtain ⟨h1, h2, h3, h4, h5⟩ := oneNo_zero hs h
  refine ⟨fun x hx => ?_, fun x hx => ?_, ?_, ?_, ?_⟩
  · rcases List.mem_append.1 hx with hx | hx
    · exact hs.it x hx
    · rw [List.mem_singleton.1 hx]; exact h1
  · rcases List.mem_append.1 hx with hx | hx
    · exact upNo_append (hs.up x hx)
    · rw [List.mem_singleton.1 hx]; exact upNo_append h2
  · rw [List.pairwise_append]
    exact ⟨hs.inc, List.pairwise_singleton _ _, fun x hx y hy => by rw [List.mem_singleton.1 hy]; exact h3 x hx⟩
  · simp; omega
  · rw [bytesE_append]
    simpa [bytesE] using h5
/-- nodes of a tree -/
def ents (nd : List Nd) : List Ent := nd.map (·.e)
theorem lookE_N {nd : List Nd} {q : List UInt8} : lookE (ents nd) q = (lookN nd q).map (·.e) := by
  unfold lookE lookN ents
  rw [List.find?_map]
  rfl
theorem Good.wf {nd : List Nd} (h : Good (ents nd)) : Wf nd := by
  refine ⟨fun y hy => checkNo_neat (itselfNo_check (h.it y.e (List.mem_map.2 ⟨y, hy, rfl⟩))), fun y hy => ?_, ?_⟩
  · have h1 := h.up y.e (List.mem_map.2 ⟨y, hy, rfl⟩)
    unfold upNo at h1
    by_cases h0 : parent y.e.path = []
    · exact .inl h0
    rw [if_neg h0] at h1
    refine .inr ?_
    rw [lookE_N] at h1
    cases hl : lookN nd (parent y.e.path) with
    | none => rw [hl] at h1; cases h1
    | some z =>
      obtain ⟨hz, hp⟩ := lookN_some hl
      rw [hl] at h1
      refine ⟨z, hz, hp, ?_⟩
      by_cases hk : z.e.k = 1
      · exact hk
      · rw [show (Option.map (fun x : Nd => x.e) (some z)) = some z.e from rfl] at h1
        simp only [] at h1
        rw [if_neg hk] at h1
        cases h1
  · have h1 := h.inc
    unfold ents at h1
    rw [List.pairwise_map] at h1
    exact h1.imp fun {a b} hab e => by rw [e] at hab; exact compareP_irrefl _ hab
end
end Go.Proofs.YtipfccfjniglbaaGreatDoor
namespace Go.Proofs.YtipfccfjniglbaaGreatDoor
section
section
/-- the pieces of a place: of the root none -/
def PP (q : List UInt8) : List (List UInt8) := if q = [] then [] else pcs q
theorem PP_nil : PP [] = [] := if_pos rfl
theorem PP_ne {q : List UInt8} (h : q ≠ []) : PP q = pcs q := if_neg h
theorem PP_inj {a b : List UInt8} (h : PP a = PP b) : a = b := by
  by_cases ha : a = [] <;> by_cases hb : b = []
  · rw [ha, hb]
  · rw [ha, PP_nil, PP_ne hb] at h
    exact absurd h.symm (pcs_ne b)
  · rw [hb, PP_nil, PP_ne ha] at h
    exact absurd h (pcs_ne a)
  · rw [PP_ne ha, PP_ne hb] at h
    exact pcs_inj h
theorem PP_parent {p : List UInt8} (h : Neat p) : pcs p = PP (parent p) ++ [lastName p] := by
  conv => lhs; rw [h.is_join]
  unfold joinP
  by_cases h0 : parent p = []
  · rw [if_pos h0, h0, PP_nil, pcs_plain (last_no47 p)]
    rfl
  · rw [if_neg h0, pcs_cat, pcs_plain (last_no47 p), PP_ne h0]
/-- does a path lie below a place? -/
def Under (q p : List UInt8) : Prop := ∃ c r, pcs p = PP q ++ c :: r
theorem under_kid {q p : List UInt8} (h : Neat p) (hp : parent p = q) : Under q p := ⟨lastName p, [], by rw [PP_parent h, hp]⟩
theorem under_trans {a b c : List UInt8} (hb : b ≠ []) (h : Under a b) (k : Under b c) : Under a c := by
  obtain ⟨x, r, h⟩ := h
  obtain ⟨y, s, k⟩ := k
  rw [PP_ne hb, h] at k
  exact ⟨x, r ++ y :: s, by rw [k]; simp⟩
/-- what lies below a place and is none of its own lies below its parent -/
theorem under_parent {q p : List UInt8} (hn : Neat p) (h : Under q p) (hp : parent p ≠ q) : Under q (parent p) ∧ parent p ≠ [] := by
  obtain ⟨c, r, h⟩ := h
  rw [PP_parent hn] at h
  rcases List.eq_nil_or_concat r with rfl | ⟨r', d, rfl⟩
  · exact absurd (PP_inj (List.append_inj' h rfl).1) hp
  · have h2 : PP (parent p) = PP q ++ c :: r' := by
      rw [List.concat_eq_append, ← List.cons_append, ← List.append_assoc] at h
      exact (List.append_inj' h rfl).1
    have hne : parent p ≠ [] := fun e => by rw [e, PP_nil] at h2; simp at h2
    exact ⟨⟨c, r', by rw [← PP_ne hne, h2]⟩, hne⟩
/- the order -/
theorem cmpPs_pre : ∀ (a s t : List (List UInt8)), cmpPs (a ++ s) (a ++ t) = cmpPs s t
  | [], _, _ => rfl
  | x :: a, s, t => by
    rw [List.cons_append, List.cons_append, cmpPs_cons, if_pos (cmpB_zero.2 rfl), cmpPs_pre a s t]
theorem under_less {q p : List UInt8} (hq : q ≠ []) (h : Under q p) : compareP q p < 0 := by
  obtain ⟨c, r, h⟩ := h
  unfold compareP
  rw [h, PP_ne hq]
  have := cmpPs_pre (pcs q) [] (c :: r)
  rw [List.append_nil] at this
  rw [this]
  show (-1 : Int) < 0
  decide
theorem parts_less {q : List UInt8} {a b p r : List UInt8} (ha : Neat a) (hb : Neat b) (pa : parent a = q) (pb : parent b = q) (h : compareP a b < 0) (hp : p = a ∨ Under a p) (hr : r = b ∨ Under b r) : compareP p r < 0 := by
  have ea := PP_parent ha
  have eb := PP_parent hb
  rw [pa] at ea
  rw [pb] at eb
  have form : ∀ {x y : List UInt8}, Neat x → pcs x = PP q ++ [lastName x] → (y = x ∨ Under x y) → ∃ s, pcs y = PP q ++ lastName x :: s := by
    intro x y hx ex hy
    rcases hy with rfl | ⟨c, s, h⟩
    · exact ⟨[], ex⟩
    · rw [PP_ne hx.ne, ex] at h
      exact ⟨c :: s, by rw [h]; simp⟩
  obtain ⟨s, es⟩ := form ha ea hp
  obtain ⟨t, et⟩ := form hb eb hr
  unfold compareP at h ⊢
  rw [ea, eb, cmpPs_pre, cmpPs_cons] at h
  rw [es, et, cmpPs_pre, cmpPs_cons]
  by_cases h0 : cmpB (lastName a) (lastName b) = 0
  · rw [if_pos h0] at h
    exact absurd h (by decide)
  · rw [if_neg h0] at h
    rw [if_neg h0]
    exact h
/-- two rows in order with the same members are one -/
theorem order_ext {α : Type} {lt : α → α → Prop} (irr : ∀ a, ¬ lt a a) (tr : ∀ {a b c}, lt a b → lt b c → lt a c) : ∀ {l r : List α}, l.Pairwise lt → r.Pairwise lt → (∀ x, x ∈ l ↔ x ∈ r) → l = r
  | [], [], _, _, _ => rfl
  | [], b :: r, _, _, h => absurd ((h b).2 (List.mem_cons_self ..)) (by simp)
  | a :: l, [], _, _, h => absurd ((h a).1 (List.mem_cons_self ..)) (by simp)
  | a :: l, b :: r, hl, hr, h => by
    obtain ⟨h1, h2⟩ := List.pairwise_cons.1 hl
    obtain ⟨h3, h4⟩ := List.pairwise_cons.1 hr
    have hab : a = b := by
      rcases List.mem_cons.1 ((h a).1 (List.mem_cons_self ..)) with e | e
      · exact e
      · rcases List.mem_cons.1 ((h b).2 (List.mem_cons_self ..)) with f | f
        · exact f.symm
        · exact absurd (tr (h3 a e) (h1 b f)) (irr b)
    subst hab
    congr 1
    refine order_ext irr tr h2 h4 fun x => ⟨fun hx => ?_, fun hx => ?_⟩
    · rcases List.mem_cons.1 ((h x).1 (List.mem_cons_of_mem _ hx)) with e | e
      · subst e; exact absurd (h1 x hx) (irr x)
      · exact e
    · rcases List.mem_cons.1 ((h x).2 (List.mem_cons_of_mem _ hx)) with e | e
      · subst e; exact absurd (h3 x hx) (irr x)
      · exact e
/- going through -/
def kidsN (nd : List Nd) (q : List UInt8) : List Nd := nd.filter (fun y => parent y.e.path == q)
def dfs (nd : List Nd) : Nat → List UInt8 → List Nd
  | 0, _ => []
  | m + 1, q => (kidsN nd q).flatMap fun y => y :: dfs nd m y.e.path
theorem mem_kids {nd : List Nd} {q : List UInt8} {y : Nd} : y ∈ kidsN nd q ↔ y ∈ nd ∧ parent y.e.path = q := by
  unfold kidsN
  rw [List.mem_filter]
  simp
/-- in order -/
def InOrder (nd : List Nd) : Prop := nd.Pairwise (fun a b => compareP a.e.path b.e.path < 0)
theorem kid_above {nd : List Nd} (hw : Wf nd) {q : List UInt8} : ∀ (n : Nat) {x : Nd}, (pcs x.e.path).length ≤ n → x ∈ nd → Under q x.e.path → ∃ y, y ∈ nd ∧ parent y.e.path = q ∧ (x = y ∨ Under y.e.path x.e.path)
  | 0, x, hn, hx, _ => absurd (List.length_pos_iff.2 (pcs_ne x.e.path)) (by omega)
  | n + 1, x, hn, hx, hu => by
    by_cases hp : parent x.e.path = q
    · exact ⟨x, hx, hp, .inl rfl⟩
    · have hnx := hw.ok x hx
      obtain ⟨h1, h2⟩ := under_parent hnx hu hp
      rcases hw.up x hx with h3 | ⟨z, hz, hzp, _⟩
      · exact absurd h3 h2
      · have hlen : (pcs z.e.path).length ≤ n := by
          have := PP_parent hnx
          rw [PP_ne h2, ← hzp] at this
          rw [this] at hn
          simp at hn
          omega
        obtain ⟨y, hy, hyp, hyz⟩ := kid_above hw n hlen hz (by rw [hzp]; exact h1)
        have hzx : Under z.e.path x.e.path := under_kid hnx hzp.symm
        rcases hyz with rfl | hyz
        · exact ⟨z, hy, hyp, .inr hzx⟩
        · exact ⟨y, hy, hyp, .inr (under_trans (hw.ok z hz).ne hyz hzx)⟩
theorem mem_dfs {nd : List Nd} (hw : Wf nd) : ∀ (m : Nat) {q : List UInt8}, (∀ y ∈ nd, (pcs y.e.path).length ≤ m + (PP q).length) → ∀ x, x ∈ dfs nd m q ↔ x ∈ nd ∧ Under q x.e.path
  | 0, q, hd, x => by
    refine ⟨fun h => (by cases h), fun ⟨hx, c, r, h⟩ => ?_⟩
    have := hd x hx
    rw [h] at this
    simp at this
    omega
  | m + 1, q, hd, x => by
    have ih : ∀ y ∈ nd, parent y.e.path = q → ∀ z, z ∈ dfs nd m y.e.path ↔ z ∈ nd ∧ Under y.e.path z.e.path := fun y hy hp => by
      refine mem_dfs hw m fun z hz => ?_
      have h1 := hd z hz
      rw [PP_ne (hw.ok y hy).ne, PP_parent (hw.ok y hy), hp]
      simp
      omega
    unfold dfs
    rw [List.mem_flatMap]
    constructor
    · rintro ⟨y, hy, hx⟩
      obtain ⟨hy1, hy2⟩ := mem_kids.1 hy
      rcases List.mem_cons.1 hx with rfl | hx
      · exact ⟨hy1, under_kid (hw.ok _ hy1) hy2⟩
      · obtain ⟨h1, h2⟩ := (ih y hy1 hy2 x).1 hx
        exact ⟨h1, under_trans (hw.ok y hy1).ne (under_kid (hw.ok y hy1) hy2) h2⟩
    · rintro ⟨hx, hu⟩
      obtain ⟨y, hy, hyp, hxy⟩ := kid_above hw _ (Nat.le_refl _) hx hu
      refine ⟨y, mem_kids.2 ⟨hy, hyp⟩, ?_⟩
      rcases hxy with rfl | hxy
      · exact List.mem_cons_self ..
      · exact List.mem_cons_of_mem _ ((ih y hy hyp x).2 ⟨hx, hxy⟩)
theorem order_dfs {nd : List Nd} (hw : Wf nd) (ho : InOrder nd) : ∀ (m : Nat) {q : List UInt8}, (∀ y ∈ nd, (pcs y.e.path).length ≤ m + (PP q).length) → InOrder (dfs nd m q)
  | 0, q, _ => List.Pairwise.nil
  | m + 1, q, hd => by
    have deep : ∀ y ∈ nd, parent y.e.path = q → ∀ z ∈ nd, (pcs z.e.path).length ≤ m + (PP y.e.path).length := fun y hy hp z hz => by
      have h1 := hd z hz
      rw [PP_ne (hw.ok y hy).ne, PP_parent (hw.ok y hy), hp]
      simp
      omega
    unfold dfs InOrder
    rw [List.pairwise_flatMap]
    refine ⟨fun y hy => ?_, ?_⟩
    · obtain ⟨hy1, hy2⟩ := mem_kids.1 hy
      refine List.pairwise_cons.2 ⟨fun z hz => ?_, order_dfs hw ho m (deep y hy1 hy2)⟩
      exact under_less (hw.ok y hy1).ne ((mem_dfs hw m (deep y hy1 hy2) z).1 hz).2
    · have hk : (kidsN nd q).Pairwise (fun a b => compareP a.e.path b.e.path < 0) := List.Pairwise.filter _ ho
      refine List.Pairwise.imp_of_mem ?_ hk
      intro a b ha hb hab x hx y hy
      obtain ⟨ha1, ha2⟩ := mem_kids.1 ha
      obtain ⟨hb1, hb2⟩ := mem_kids.1 hb
      have hp : x.e.path = a.e.path ∨ Under a.e.path x.e.path := by
        rcases List.mem_cons.1 hx with rfl | hx
        · exact .inl rfl
        · exact .inr ((mem_dfs hw m (deep a ha1 ha2) x).1 hx).2
      have hr : y.e.path = b.e.path ∨ Under b.e.path y.e.path := by
        rcases List.mem_cons.1 hy with rfl | hy
        · exact .inl rfl
        · exact .inr ((mem_dfs hw m (deep b hb1 hb2) y).1 hy).2
      exact parts_less (hw.ok a ha1) (hw.ok b hb1) ha2 hb2 hab hp hr
/-- what is gone through below a place is what lies below it, in the list's order -/
theorem dfs_eq {nd : List Nd} (hw : Wf nd) (ho : InOrder nd) {m : Nat} {q : List UInt8} (hd : ∀ y ∈ nd, (pcs y.e.path).length ≤ m + (PP q).length) [DecidablePred fun y : Nd => Under q y.e.path] : dfs nd m q = nd.filter (fun y => decide (Under q y.e.path)) := by
  refine order_ext (lt := fun a b : Nd => compareP a.e.path b.e.path < 0) (fun a => compareP_irrefl _) compareP_trans (order_dfs hw ho m hd) (List.Pairwise.filter _ ho) fun x => ?_
  rw [mem_dfs hw m hd x, List.mem_filter]
  simp
theorem dfs_root {nd : List Nd} (hw : Wf nd) (ho : InOrder nd) {m : Nat} (hd : ∀ y ∈ nd, (pcs y.e.path).length ≤ m) : dfs nd m [] = nd := by
  refine order_ext (lt := fun a b : Nd => compareP a.e.path b.e.path < 0) (fun a => compareP_irrefl _) compareP_trans (order_dfs hw ho m (by rw [PP_nil]; exact hd)) ho fun x => ?_
  rw [mem_dfs hw m (by rw [PP_nil]; exact hd) x]
  refine ⟨fun h => h.1, fun h => ⟨h, ?_⟩⟩
  unfold Under
  rw [PP_nil]
  cases hp : pcs x.e.path with
  | nil => exact absurd hp (pcs_ne _)
  | cons c r => exact ⟨c, r, rfl⟩
/-- the names of a place's own, in order -/
def names (nd : List Nd) (q : List UInt8) : List (List UInt8) := (kidsN nd q).map (fun y => lastName y.e.path)
theorem names_order {nd : List Nd} (hw : Wf nd) (ho : InOrder nd) (q : List UInt8) : (names nd q).Pairwise (fun a b => a < b) := by
  unfold names
  rw [List.pairwise_map]
  have hk : (kidsN nd q).Pairwise (fun a b => compareP a.e.path b.e.path < 0) := List.Pairwise.filter _ ho
  refine List.Pairwise.imp_of_mem ?_ hk
  intro a b ha hb hab
  obtain ⟨ha1, ha2⟩ := mem_kids.1 ha
  obtain ⟨hb1, hb2⟩ := mem_kids.1 hb
  unfold compareP at hab
  rw [PP_parent (hw.ok a ha1), PP_parent (hw.ok b hb1), ha2, hb2, cmpPs_pre, cmpPs_cons] at hab
  by_cases h0 : cmpB (lastName a.e.path) (lastName b.e.path) = 0
  · rw [if_pos h0] at hab
    exact absurd hab (by decide)
  · rw [if_neg h0] at hab
    exact cmpB_neg.1 hab
theorem mem_names {nd : List Nd} {q c : List UInt8} : c ∈ names nd q ↔ kidN nd q c ≠ none := by
  unfold names kidN
  rw [List.mem_map, Ne, List.find?_eq_none]
  constructor
  · rintro ⟨y, hy, rfl⟩ h
    obtain ⟨h1, h2⟩ := mem_kids.1 hy
    exact h y h1 (by simp [h2])
  · intro h
    have : ∃ y ∈ nd, parent y.e.path = q ∧ lastName y.e.path = c := by
      refine Classical.byContradiction fun hn => h fun y hy hc => hn ⟨y, hy, ?_⟩
      simpa using hc
    obtain ⟨y, hy, hp, hc⟩ := this
    exact ⟨y, mem_kids.2 ⟨hy, hp⟩, hc⟩
theorem kid_at {nd : List Nd} (hw : Wf nd) {q : List UInt8} {y : Nd} (hy : y ∈ kidsN nd q) : kidN nd q (lastName y.e.path) = some y := by
  obtain ⟨h1, h2⟩ := mem_kids.1 hy
  rw [kid_look hw.ok (last_no47 _)]
  have := (hw.ok y h1).is_join
  rw [h2] at this
  rw [← this]
  exact lookN_mem hw.one h1
end
section
def laidL : List Ent → Ent → List Ent
  | [], e => [e]
  | x :: r, e => if compareP x.path e.path < 0 then x :: laidL r e else if x.path = e.path then e :: r else e :: x :: r
def laidN : List Nd → Nd → List Nd
  | [], y => [y]
  | x :: r, y => if compareP x.e.path y.e.path < 0 then x :: laidN r y else if x.e.path = y.e.path then { x with e := y.e } :: r else y :: x :: r
theorem ents_laid : ∀ (nd : List Nd) (y : Nd), ents (laidN nd y) = laidL (ents nd) y.e
  | [], y => rfl
  | x :: r, y => by
    show ents (laidN (x :: r) y) = laidL (x.e :: ents r) y.e
    unfold laidN laidL
    by_cases h : compareP x.e.path y.e.path < 0
    · rw [if_pos h, if_pos h]
      show x.e :: ents (laidN r y) = _
      rw [ents_laid r y]
    · rw [if_neg h, if_neg h]
      by_cases h2 : x.e.path = y.e.path
      · rw [if_pos h2, if_pos h2]; rfl
      · rw [if_neg h2, if_neg h2]; rfl
def Inc (l : List Ent) : Prop := l.Pairwise (fun a b => compareP a.path b.path < 0)
theorem laidN_new : ∀ {nd : List Nd} {y : Nd}, (∀ x ∈ nd, x.e.path ≠ y.e.path) → (nd ++ [y]).Perm (laidN nd y)
  | [], y, _ => .refl _
  | x :: r, y, h => by
    unfold laidN
    by_cases hc : compareP x.e.path y.e.path < 0
    · rw [if_pos hc]
      exact (laidN_new fun z hz => h z (List.mem_cons_of_mem _ hz)).cons x
    · rw [if_neg hc, if_neg (h x (List.mem_cons_self ..))]
      exact List.perm_append_comm (l₁ := x :: r) (l₂ := [y])
theorem laidN_old : ∀ {nd : List Nd} {y : Nd}, InOrder nd → (∃ x ∈ nd, x.e.path = y.e.path) → laidN nd y = nd.map (fun x => if x.e.path = y.e.path then { x with e := y.e } else x)
  | [], y, _, h => by obtain ⟨x, hx, _⟩ := h; cases hx
  | x :: r, y, ho, h => by
    obtain ⟨h1, h2⟩ := List.pairwise_cons.1 ho
    obtain ⟨z, hz, hzp⟩ := h
    unfold laidN
    rw [List.map_cons]
    rcases List.mem_cons.1 hz with rfl | hz
    · rw [if_neg (by rw [hzp]; exact compareP_irrefl _), if_pos hzp, if_pos hzp]
      congr 1
      refine ((List.map_congr_left fun a ha => ?_).trans (List.map_id r)).symm
      rw [if_neg (fun e => by have := h1 a ha; rw [hzp, e] at this; exact compareP_irrefl _ this)]
      rfl
    · have hc : compareP x.e.path y.e.path < 0 := by rw [← hzp]; exact h1 z hz
      rw [if_pos hc, if_neg (fun e => by rw [e] at hc; exact compareP_irrefl _ hc), laidN_old h2 ⟨z, hz, hzp⟩]
theorem mem_laid : ∀ {l : List Ent} {e x : Ent}, Inc l → (x ∈ laidL l e ↔ x = e ∨ (x ∈ l ∧ x.path ≠ e.path))
  | [], e, x, _ => by simp [laidL]
  | a :: r, e, x, h => by
    obtain ⟨h1, h2⟩ := List.pairwise_cons.1 h
    unfold laidL
    by_cases hc : compareP a.path e.path < 0
    · rw [if_pos hc, List.mem_cons, mem_laid h2, List.mem_cons]
      have hne : a.path ≠ e.path := fun e2 => by rw [e2] at hc; exact compareP_irrefl _ hc
      constructor
      · rintro (rfl | rfl | ⟨h3, h4⟩)
        · exact .inr ⟨.inl rfl, hne⟩
        · exact .inl rfl
        · exact .inr ⟨.inr h3, h4⟩
      · rintro (rfl | ⟨rfl | h3, h4⟩)
        · exact .inr (.inl rfl)
        · exact .inl rfl
        · exact .inr (.inr ⟨h3, h4⟩)
    · rw [if_neg hc]
      by_cases h3 : a.path = e.path
      · rw [if_pos h3, List.mem_cons, List.mem_cons]
        constructor
        · rintro (rfl | h4)
          · exact .inl rfl
          · exact .inr ⟨.inr h4, fun e2 => by have := h1 x h4; rw [h3, e2] at this; exact compareP_irrefl _ this⟩
        · rintro (rfl | ⟨rfl | h4, h5⟩)
          · exact .inl rfl
          · exact absurd h3 h5
          · exact .inr h4
      · rw [if_neg h3, List.mem_cons]
        have hea : compareP e.path a.path < 0 := by
          have h4 := compareP_flip e.path a.path
          have h5 : compareP a.path e.path ≠ 0 := fun e2 => h3 (compareP_zero.1 e2)
          omega
        constructor
        · rintro (rfl | h4)
          · exact .inl rfl
          · refine .inr ⟨h4, fun e2 => ?_⟩
            rcases List.mem_cons.1 h4 with rfl | h4
            · exact h3 e2
            · have := compareP_trans hea (h1 x h4)
              rw [e2] at this
              exact compareP_irrefl _ this
        · rintro (rfl | ⟨h4, _⟩)
          · exact .inl rfl
          · exact .inr h4
theorem inc_laid : ∀ {l : List Ent} {e : Ent}, Inc l → Inc (laidL l e)
  | [], e, _ => List.pairwise_singleton _ _
  | a :: r, e, h => by
    obtain ⟨h1, h2⟩ := List.pairwise_cons.1 h
    unfold laidL
    by_cases hc : compareP a.path e.path < 0
    · rw [if_pos hc]
      refine List.pairwise_cons.2 ⟨fun x hx => ?_, inc_laid h2⟩
      rcases (mem_laid h2).1 hx with rfl | ⟨h3, _⟩
      · exact hc
      · exact h1 x h3
    · rw [if_neg hc]
      by_cases h3 : a.path = e.path
      · rw [if_pos h3]
        exact List.pairwise_cons.2 ⟨fun x hx => by rw [← h3]; exact h1 x hx, h2⟩
      · rw [if_neg h3]
        have hea : compareP e.path a.path < 0 := by
          have h4 := compareP_flip e.path a.path
          have h5 : compareP a.path e.path ≠ 0 := fun e2 => h3 (compareP_zero.1 e2)
          omega
        refine List.pairwise_cons.2 ⟨fun x hx => ?_, h⟩
        rcases List.mem_cons.1 hx with rfl | hx
        · exact hea
        · exact compareP_trans hea (h1 x hx)
theorem lookE_some {l : List Ent} {q : List UInt8} {x : Ent} (h : lookE l q = some x) : x ∈ l ∧ x.path = q := ⟨List.mem_of_find?_eq_some h, by simpa using List.find?_some h⟩
theorem lookE_none {l : List Ent} {q : List UInt8} (h : lookE l q = none) : ∀ x ∈ l, x.path ≠ q := fun x hx e => by
  have := List.find?_eq_none.1 h x hx
  simp [e] at this
theorem lookE_mem {l : List Ent} (h : Inc l) {x : Ent} (hx : x ∈ l) : lookE l x.path = some x := by
  cases hl : lookE l x.path with
  | none => exact absurd rfl (lookE_none hl x hx)
  | some z =>
    obtain ⟨hz, hp⟩ := lookE_some hl
    have : z = x := by
      induction l with
      | nil => cases hx
      | cons a r ih =>
        obtain ⟨h1, h2⟩ := List.pairwise_cons.1 h
        rcases List.mem_cons.1 hz with rfl | hz' <;> rcases List.mem_cons.1 hx with rfl | hx'
        · rfl
        · have := h1 x hx'; rw [hp] at this; exact absurd this (compareP_irrefl _)
        · have := h1 z hz'; rw [hp] at this; exact absurd this (compareP_irrefl _)
        · refine ih h2 hx' ?_ hz'
          cases hl2 : lookE r x.path with
          | none => exact absurd rfl (lookE_none hl2 x hx')
          | some u =>
            unfold lookE at hl hl2
            rw [List.find?_cons] at hl
            have hne : (a.path == x.path) = false := by
              have := h1 x hx'
              by_cases e : a.path = x.path
              · rw [e] at this; exact absurd this (compareP_irrefl _)
              · simpa using e
            rw [hne] at hl
            exact hl2.symm.trans hl
    rw [this]
theorem lookE_laid {l : List Ent} {e : Ent} (h : Inc l) (q : List UInt8) : lookE (laidL l e) q = if q = e.path then some e else lookE l q := by
  have hi := inc_laid (e := e) h
  by_cases hq : q = e.path
  · rw [if_pos hq, hq]
    exact lookE_mem hi ((mem_laid h).2 (.inl rfl))
  · rw [if_neg hq]
    cases hl : lookE l q with
    | none =>
      cases hl2 : lookE (laidL l e) q with
      | none => rfl
      | some x =>
        obtain ⟨h1, h2⟩ := lookE_some hl2
        rcases (mem_laid h).1 h1 with rfl | ⟨h3, _⟩
        · exact absurd h2.symm hq
        · exact absurd h2 (lookE_none hl x h3)
    | some x =>
      obtain ⟨h1, h2⟩ := lookE_some hl
      rw [← h2]
      exact lookE_mem hi ((mem_laid h).2 (.inr ⟨h1, fun e2 => hq (h2.symm.trans e2)⟩))
theorem bytesE_cons (x : Ent) (l : List Ent) : bytesE (x :: l) = x.d.size + bytesE l := by simp [bytesE]
theorem laid_len_new : ∀ {l : List Ent} {e : Ent}, lookE l e.path = none → (laidL l e).length = l.length + 1 ∧ bytesE (laidL l e) = bytesE l + e.d.size
  | [], e, _ => by simp [laidL, bytesE]
  | a :: r, e, h => by
    have hn := lookE_none h
    have hr : lookE r e.path = none := List.find?_eq_none.2 fun x hx => by simpa using hn x (List.mem_cons_of_mem _ hx)
    unfold laidL
    by_cases hc : compareP a.path e.path < 0
    · rw [if_pos hc]
      obtain ⟨h1, h2⟩ := laid_len_new hr
      rw [bytesE_cons, bytesE_cons, List.length_cons, List.length_cons, h1, h2]
      omega
    · rw [if_neg hc, if_neg (hn a (List.mem_cons_self ..))]
      rw [bytesE_cons, bytesE_cons]
      simp
      omega
theorem laid_len_old : ∀ {l : List Ent} {e x : Ent}, Inc l → lookE l e.path = some x → (laidL l e).length = l.length ∧ bytesE (laidL l e) + x.d.size = bytesE l + e.d.size
  | [], e, x, _, h => by cases h
  | a :: r, e, x, ho, h => by
    obtain ⟨h1, h2⟩ := List.pairwise_cons.1 ho
    obtain ⟨hx, hp⟩ := lookE_some h
    have hself : ∀ b : Ent, b ∈ r → a.path ≠ b.path := fun b hb e2 => by have := h1 b hb; rw [e2] at this; exact compareP_irrefl _ this
    unfold laidL
    rcases List.mem_cons.1 hx with rfl | hx'
    · rw [if_neg (by rw [hp]; exact compareP_irrefl _), if_pos hp, bytesE_cons, bytesE_cons]
      simp
      omega
    · have hc : compareP a.path e.path < 0 := by rw [← hp]; exact h1 x hx'
      rw [if_pos hc]
      have hr : lookE r e.path = some x := by rw [← hp]; exact lookE_mem h2 hx'
      obtain ⟨h3, h4⟩ := laid_len_old h2 hr
      rw [bytesE_cons, bytesE_cons, List.length_cons, List.length_cons, h3]
      exact ⟨rfl, by omega⟩
/-- what is wrong with an entry that is to be put -/
def putNo (l : List Ent) (e : Ent) : Nat :=
  if itselfNo e ≠ 0 then itselfNo e
  else if upNo l e.path ≠ 0 then upNo l e.path
  else match lookE l e.path with
    | some x => if ¬ (x.k = 1 ↔ e.k = 1) then 14 else if 16777216 + x.d.size < bytesE l + e.d.size then 5 else 0
    | none => if 4096 ≤ l.length ∨ 16777216 < bytesE l + e.d.size then 5 else 0
theorem putNo_zero {l : List Ent} {e : Ent} (h : putNo l e = 0) : itselfNo e = 0 ∧ upNo l e.path = 0 := by
  unfold putNo at h
  by_cases h1 : itselfNo e ≠ 0
  · rw [if_pos h1] at h; exact absurd h h1
  rw [if_neg h1] at h
  by_cases h2 : upNo l e.path ≠ 0
  · rw [if_pos h2] at h; exact absurd h h2
  exact ⟨by omega, by omega⟩
theorem putNo_rest {l : List Ent} {e : Ent} (h1 : itselfNo e = 0) (h2 : upNo l e.path = 0) : putNo l e = match lookE l e.path with
    | some x => if ¬ (x.k = 1 ↔ e.k = 1) then 14 else if 16777216 + x.d.size < bytesE l + e.d.size then 5 else 0
    | none => if 4096 ≤ l.length ∨ 16777216 < bytesE l + e.d.size then 5 else 0 := by
  unfold putNo
  rw [if_neg (by omega), if_neg (by omega)]
theorem Good.laid {l : List Ent} (h : Good l) {e : Ent} (hp : putNo l e = 0) : Good (laidL l e) := by
  obtain ⟨h1, h2⟩ := putNo_zero hp
  rw [putNo_rest h1 h2] at hp
  have hne := (checkNo_neat (itselfNo_check h1)).ne
  have hup : ∀ x : Ent, upNo l x.path = 0 → (x = e ∨ x ∈ l) → upNo (laidL l e) x.path = 0 := by
    intro x hx hxe
    unfold upNo at hx ⊢
    by_cases h0 : parent x.path = []
    · rw [if_pos h0]
    rw [if_neg h0] at hx ⊢
    rw [lookE_laid h.inc]
    by_cases hq : parent x.path = e.path
    · rw [if_pos hq]
      rw [hq] at hx
      rcases hxe with rfl | hxl
      · have := parent_shorter hne
        rw [hq] at this
        omega
      · cases hl : lookE l e.path with
        | none => rw [hl] at hx; cases hx
        | some z =>
          rw [hl] at hx hp
          have hz : z.k = 1 := by
            by_cases hk : z.k = 1
            · exact hk
            · simp [hk] at hx
          have he : e.k = 1 := by
            by_cases hk : (z.k = 1 ↔ e.k = 1)
            · exact hk.1 hz
            · simp [hk] at hp
          simp [he]
    · rw [if_neg hq]
      exact hx
  have hlen : (laidL l e).length ≤ 4096 ∧ bytesE (laidL l e) ≤ 16777216 := by
    cases hl : lookE l e.path with
    | none =>
      rw [hl] at hp
      obtain ⟨a, b⟩ := laid_len_new hl
      have : ¬ (4096 ≤ l.length ∨ 16777216 < bytesE l + e.d.size) := fun x => by simp [x] at hp
      omega
    | some x =>
      rw [hl] at hp
      obtain ⟨a, b⟩ := laid_len_old h.inc hl
      have hk : (x.k = 1 ↔ e.k = 1) := Classical.byContradiction fun x => by simp [x] at hp
      have : ¬ (16777216 + x.d.size < bytesE l + e.d.size) := fun x => by simp [hk, x] at hp
      have := h.len
      omega
  refine ⟨fun x hx => ?_, fun x hx => ?_, inc_laid h.inc, hlen.1, hlen.2⟩
  · rcases (mem_laid h.inc).1 hx with rfl | ⟨h3, _⟩
    · exact h1
    · exact h.it x h3
  · rcases (mem_laid h.inc).1 hx with rfl | ⟨h3, _⟩
    · exact hup _ h2 (.inl rfl)
    · exact hup x (h.up x h3) (.inr h3)
/- taking away -/
theorem below_pre {d p : List UInt8} (hd : d ≠ []) : belowP d p = true ↔ ∃ t, p = d ++ 47 :: t := by
  unfold belowP
  rw [if_neg hd]
  constructor
  · intro h
    obtain ⟨t, ht⟩ := List.isPrefixOf_iff_prefix.1 h
    exact ⟨t, by rw [← ht]; simp⟩
  · rintro ⟨t, rfl⟩
    exact List.isPrefixOf_iff_prefix.2 ⟨t, by simp⟩
theorem glue_app : ∀ (a : List (List UInt8)) (c : List UInt8) (r : List (List UInt8)), a ≠ [] → glue (a ++ c :: r) = glue a ++ 47 :: glue (c :: r)
  | [], _, _, h => absurd rfl h
  | [x], c, r, _ => rfl
  | x :: y :: a, c, r, _ => by
    have ih := glue_app (y :: a) c r (by simp)
    show x ++ 47 :: glue (y :: a ++ c :: r) = (x ++ 47 :: glue (y :: a)) ++ 47 :: glue (c :: r)
    rw [ih]
    simp
theorem below_under {d p : List UInt8} (hd : d ≠ []) : belowP d p = true ↔ Under d p := by
  rw [below_pre hd]
  unfold Under
  rw [PP_ne hd]
  constructor
  · rintro ⟨t, rfl⟩
    rw [pcs_cat]
    cases hp : pcs t with
    | nil => exact absurd hp (pcs_ne t)
    | cons c r => exact ⟨c, r, rfl⟩
  · rintro ⟨c, r, h⟩
    refine ⟨glue (c :: r), ?_⟩
    rw [← glue_pcs p, h, glue_app _ _ _ (pcs_ne d), glue_pcs]
theorem under_root (p : List UInt8) : Under [] p := by
  unfold Under
  rw [PP_nil]
  cases hp : pcs p with
  | nil => exact absurd hp (pcs_ne p)
  | cons c r => exact ⟨c, r, rfl⟩
theorem below_under' {d p : List UInt8} (hp : p ≠ []) : belowP d p = true ↔ Under d p := by
  by_cases hd : d = []
  · subst hd
    exact ⟨fun _ => under_root p, fun _ => by unfold belowP; rw [if_pos rfl]; cases p with | nil => exact absurd rfl hp | cons a r => rfl⟩
  · exact below_under hd
def keepE (p : List UInt8) (x : Ent) : Bool := !(x.path == p) && !belowP p x.path
def withoutL (l : List Ent) (p : List UInt8) : List Ent := l.filter (keepE p)
theorem keepE_false {p : List UInt8} {x : Ent} : keepE p x = false ↔ x.path = p ∨ belowP p x.path = true := by
  unfold keepE
  by_cases h : x.path = p
  · simp [h]
  · simp [h]
theorem Good.without {l : List Ent} (h : Good l) {p : List UInt8} (hp : p ≠ []) : Good (withoutL l p) := by
  have hsub : ∀ x, x ∈ withoutL l p → x ∈ l ∧ keepE p x = true := fun x hx => List.mem_filter.1 hx
  have hinc : Inc (withoutL l p) := List.Pairwise.filter _ h.inc
  refine ⟨fun x hx => h.it x (hsub x hx).1, fun x hx => ?_, hinc, Nat.le_trans (List.length_filter_le _ _) h.len, Nat.le_trans ?_ h.byt⟩
  · obtain ⟨h1, h2⟩ := hsub x hx
    have hu := h.up x h1
    have hnx := checkNo_neat (itselfNo_check (h.it x h1))
    unfold upNo at hu ⊢
    by_cases h0 : parent x.path = []
    · rw [if_pos h0]
    rw [if_neg h0] at hu ⊢
    cases hl : lookE l (parent x.path) with
    | none => rw [hl] at hu; cases hu
    | some z =>
      rw [hl] at hu
      obtain ⟨hz, hzp⟩ := lookE_some hl
      have hk : keepE p z = true := by
        cases hkz : keepE p z with
        | true => rfl
        | false =>
          exfalso
          have : belowP p x.path = true := by
            rw [below_under hp]
            have hux : Under z.path x.path := under_kid hnx hzp.symm
            rcases keepE_false.1 hkz with e | e
            · rw [← e]; exact hux
            · exact under_trans (by rw [hzp]; exact h0) ((below_under hp).1 e) hux
          rw [keepE_false.2 (.inr this)] at h2
          cases h2
      rw [← hzp, lookE_mem hinc (List.mem_filter.2 ⟨hz, hk⟩)]
      exact hu
  · unfold withoutL bytesE
    clear hsub hinc h
    induction l with
    | nil => simp
    | cons a r ih =>
      rw [List.filter_cons]
      split <;> simp <;> omega
/-- what is wrong with a path that is to be taken -/
def takeNo (l : List Ent) (p : List UInt8) : Nat := if p = [] then 15 else match lookE l p with
  | none => 10
  | some _ => 0
end
end
end Go.Proofs.YtipfccfjniglbaaGreatDoor
