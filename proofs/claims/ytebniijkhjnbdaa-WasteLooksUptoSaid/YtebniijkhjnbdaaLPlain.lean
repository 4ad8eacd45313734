/- What layers bring in vain: plain. -/
import Derived.Test.YtebniijkhjnbdaaOrd
import Derived.Test.YtebniijkhjnbdaaSpec
set_option linter.unusedSimpArgs false
set_option linter.unusedVariables false
namespace Go.Proofs.Ytebniijkhjnbdaa
/-- of a change what counts here: its path, whether it takes away, how many bytes it brings -/
structure Cw where
  p : List UInt8
  g : Bool
  n : Nat
structure Cost where
  t : Nat
  all : Nat
  now : Nat
/-- the program's map, as a list -/
abbrev CostM := List (List UInt8 × Cost)
def hits (d p : List UInt8) : Bool := decide (p = d) || belowP d p
def goneM (M : CostM) (d : List UInt8) : CostM := M.map fun x => if hits d x.1 = true then (x.1, ⟨x.2.t, x.2.all, 0⟩) else x
def getM (M : CostM) (p : List UInt8) : Option Cost := (M.find? (fun x => x.1 == p)).map (·.2)
def putM (M : CostM) (p : List UInt8) (n : Nat) : CostM := match getM M p with
  | none => M ++ [(p, ⟨1, n, n⟩)]
  | some _ => M.map fun x => if x.1 = p then (x.1, ⟨x.2.t + 1, x.2.all + n, n⟩) else x
def stepM (M : CostM) (c : Cw) : CostM := if c.g = true then goneM M c.p else putM M c.p c.n
def costsM (l : List Cw) : CostM := l.foldl stepM []
/-- of one path: how often, how many bytes, how many of them are there in the end -/
def timesF (l : List Cw) (p : List UInt8) : Nat := (l.filter fun c => !c.g && c.p == p).length
def allF (l : List Cw) (p : List UInt8) : Nat := ((l.filter fun c => !c.g && c.p == p).map (·.n)).sum
def nowStep (p : List UInt8) (a : Nat) (c : Cw) : Nat := if c.g = true then (if hits c.p p = true then 0 else a) else if c.p = p then c.n else a
def nowF (l : List Cw) (p : List UInt8) : Nat := l.foldl (nowStep p) 0
def costF (l : List Cw) (p : List UInt8) : Option Cost := if timesF l p = 0 then none else some ⟨timesF l p, allF l p, nowF l p⟩
theorem getM_gone (M : CostM) (d p : List UInt8) : getM (goneM M d) p = (getM M p).map fun c => if hits d p = true then ⟨c.t, c.all, 0⟩ else c := by
  induction M with
  | nil => rfl
  | cons x r ih =>
    unfold getM goneM at ih ⊢
    rw [List.map_cons, List.find?_cons, List.find?_cons]
    by_cases h : x.1 = p
    · subst h
      by_cases hh : hits d x.1 = true
      · simp [hh]
      · simp [hh]
    · by_cases hh : hits d x.1 = true
      · rw [if_pos hh]
        have e : (x.1 == p) = false := by simpa using h
        simp only [e]
        exact ih
      · rw [if_neg hh]
        have e : (x.1 == p) = false := by simpa using h
        simp only [e]
        exact ih
theorem getM_append (M : CostM) (y : List UInt8 × Cost) (p : List UInt8) : getM (M ++ [y]) p = (getM M p).or (if y.1 = p then some y.2 else none) := by
  unfold getM
  rw [List.find?_append]
  cases M.find? (fun x => x.1 == p) with
  | some z => rfl
  | none =>
    by_cases h : y.1 = p
    · rw [if_pos h]; simp [h]
    · rw [if_neg h]
      have e : (y.1 == p) = false := by simpa using h
      simp [e]
theorem getM_turn (M : CostM) (d p : List UInt8) (f : Cost → Cost) : getM (M.map fun x => if x.1 = d then (x.1, f x.2) else x) p = (getM M p).map fun c => if p = d then f c else c := by
  induction M with
  | nil => rfl
  | cons x r ih =>
    unfold getM at ih ⊢
    rw [List.map_cons, List.find?_cons, List.find?_cons]
    by_cases h : x.1 = p
    · subst h
      by_cases hh : x.1 = d
      · simp [hh]
      · simp [hh]
    · have e : (x.1 == p) = false := by simpa using h
      by_cases hh : x.1 = d
      · rw [if_pos hh]
        simp only [e]
        exact ih
      · rw [if_neg hh]
        simp only [e]
        exact ih
theorem timesF_snoc (l : List Cw) (c : Cw) (p : List UInt8) : timesF (l ++ [c]) p = timesF l p + (if c.g = false ∧ c.p = p then 1 else 0) := by
  unfold timesF
  rw [List.filter_append, List.length_append]
  by_cases h : c.g = false ∧ c.p = p
  · rw [if_pos h]; simp [h.1, h.2]
  · rw [if_neg h]
    have e : (!c.g && c.p == p) = false := by
      cases hg : c.g with
      | true => rfl
      | false => simpa using fun hp => h ⟨hg, hp⟩
    simp [e]
theorem allF_snoc (l : List Cw) (c : Cw) (p : List UInt8) : allF (l ++ [c]) p = allF l p + (if c.g = false ∧ c.p = p then c.n else 0) := by
  unfold allF
  rw [List.filter_append, List.map_append, List.sum_append]
  by_cases h : c.g = false ∧ c.p = p
  · rw [if_pos h]; simp [h.1, h.2]
  · rw [if_neg h]
    have e : (!c.g && c.p == p) = false := by
      cases hg : c.g with
      | true => rfl
      | false => simpa using fun hp => h ⟨hg, hp⟩
    simp [e]
theorem nowF_snoc (l : List Cw) (c : Cw) (p : List UInt8) : nowF (l ++ [c]) p = nowStep p (nowF l p) c := by
  unfold nowF; rw [List.foldl_append]; rfl
theorem snoc_ind {P : List Cw → Prop} (h0 : P []) (h1 : ∀ l a, P l → P (l ++ [a])) : ∀ l, P l := fun l => by
  have : ∀ l : List Cw, P l.reverse := fun l => by
    induction l with
    | nil => exact h0
    | cons x r ih => rw [List.reverse_cons]; exact h1 _ _ ih
  rw [← List.reverse_reverse l]
  exact this _
/-- the map holds of each path what it costs -/
theorem costs_get (p : List UInt8) : ∀ (l : List Cw), getM (costsM l) p = costF l p := by
  refine snoc_ind rfl fun l c ih => ?_
  · have e : costsM (l ++ [c]) = stepM (costsM l) c := by unfold costsM; rw [List.foldl_append]; rfl
    rw [e]
    unfold stepM costF
    rw [timesF_snoc, allF_snoc, nowF_snoc]
    unfold nowStep
    cases hg : c.g with
    | true =>
      rw [if_pos rfl, getM_gone, ih]
      unfold costF
      simp only [Bool.true_eq_false, false_and, if_false, Nat.add_zero, if_true]
      by_cases h0 : timesF l p = 0
      · rw [if_pos h0, if_pos h0]; rfl
      · rw [if_neg h0, if_neg h0]
        by_cases hh : hits c.p p = true
        · simp [hh]
        · simp [hh]
    | false =>
      rw [if_neg (by decide)]
      simp only [true_and, Bool.false_eq_true, if_false]
      unfold putM
      by_cases hp : c.p = p
      · subst hp
        rw [ih]
        unfold costF
        by_cases h0 : timesF l c.p = 0
        · rw [if_pos h0]
          simp only []
          rw [getM_append, ih]
          unfold costF
          rw [if_pos h0]
          have hz : allF l c.p = 0 := by
            unfold timesF at h0
            unfold allF
            rw [List.length_eq_zero_iff.1 h0]
            rfl
          simp [h0, hz]
        · rw [if_neg h0]
          simp only []
          rw [getM_turn (f := fun x => ⟨x.t + 1, x.all + c.n, c.n⟩), ih]
          unfold costF
          rw [if_neg h0]
          simp
      · have hp2 : ¬ p = c.p := fun x => hp x.symm
        simp only [if_neg hp, Nat.add_zero]
        cases hq : getM (costsM l) c.p with
        | none =>
          simp only []
          rw [getM_append, ih, if_neg hp]
          unfold costF
          simp
        | some y =>
          simp only []
          rw [getM_turn (f := fun x => ⟨x.t + 1, x.all + c.n, c.n⟩), ih]
          unfold costF
          by_cases h0 : timesF l p = 0
          · rw [if_pos h0]; rfl
          · rw [if_neg h0]; simp [hp2]
/-! ## the reference -/
def staysF (c : Cw) (r : List Cw) : Bool := !c.g && r.all fun x => !(x.p == c.p || (x.g && belowP x.p c.p))
def bringsF (c : Cw) : Nat := if c.g = true then 0 else c.n
def leastR : List Cw → Nat
  | [] => 0
  | c :: r => (if staysF c r = true then bringsF c else 0) + leastR r
def stayR (p : List UInt8) : List Cw → Nat
  | [] => 0
  | c :: r => (if c.p = p ∧ staysF c r = true then bringsF c else 0) + stayR p r
def lostR (p : List UInt8) : List Cw → Nat
  | [] => 0
  | c :: r => (if c.p = p ∧ staysF c r = false then bringsF c else 0) + lostR p r
theorem leastR_cons (c : Cw) (r : List Cw) : leastR (c :: r) = (if staysF c r = true then bringsF c else 0) + leastR r := rfl
theorem stayR_cons (p : List UInt8) (c : Cw) (r : List Cw) : stayR p (c :: r) = (if c.p = p ∧ staysF c r = true then bringsF c else 0) + stayR p r := rfl
theorem lostR_cons (p : List UInt8) (c : Cw) (r : List Cw) : lostR p (c :: r) = (if c.p = p ∧ staysF c r = false then bringsF c else 0) + lostR p r := rfl
theorem allF_cons (c : Cw) (r : List Cw) (p : List UInt8) : allF (c :: r) p = (if c.p = p then bringsF c else 0) + allF r p := by
  unfold allF bringsF
  rw [List.filter_cons]
  cases hg : c.g with
  | true => simp
  | false =>
    by_cases h : c.p = p
    · simp [h]
    · have e : (c.p == p) = false := by simpa using h
      simp [e, h]
theorem all_parts (p : List UInt8) : ∀ l : List Cw, stayR p l + lostR p l = allF l p
  | [] => rfl
  | c :: r => by
    rw [allF_cons, ← all_parts p r, stayR_cons, lostR_cons]
    by_cases h : c.p = p
    · cases hs : staysF c r <;> simp [h] <;> omega
    · simp [h]
def touches (p : List UInt8) (c : Cw) : Bool := c.p == p || (c.g && belowP c.p p)
theorem now_stay (p : List UInt8) : ∀ (l : List Cw) (a : Nat), l.foldl (nowStep p) a = if l.any (touches p) = true then stayR p l else a
  | [], a => rfl
  | c :: r, a => by
    rw [List.foldl_cons, now_stay p r, List.any_cons, stayR_cons]
    by_cases hr : r.any (touches p) = true
    · rw [if_pos hr, if_pos (by rw [hr]; simp)]
      have : ¬ (c.p = p ∧ staysF c r = true) := fun ⟨h1, h2⟩ => by
        unfold staysF at h2
        rw [Bool.and_eq_true] at h2
        obtain ⟨x, hx, hx2⟩ := List.any_eq_true.1 hr
        have := List.all_eq_true.1 h2.2 x hx
        unfold touches at hx2
        rw [h1, hx2] at this
        cases this
      rw [if_neg this, Nat.zero_add]
    · rw [if_neg hr]
      have hr0 : r.any (touches p) = false := by simpa using hr
      have hs : stayR p r = 0 := by
        clear hr
        induction r with
        | nil => rfl
        | cons x r ih =>
          rw [List.any_cons, Bool.or_eq_false_iff] at hr0
          rw [stayR_cons]
          have hx : ¬ x.p = p := fun e => by
            have := hr0.1
            unfold touches at this
            rw [e] at this
            simp at this
          rw [if_neg (fun h => hx h.1), ih hr0.2]
      rw [hs, hr0, Bool.or_false, Nat.add_zero]
      unfold nowStep bringsF
      have hst : c.p = p → c.g = false → staysF c r = true := fun h1 h2 => by
        unfold staysF
        rw [h2, Bool.and_eq_true]
        refine ⟨rfl, List.all_eq_true.2 fun x hx => ?_⟩
        have := List.any_eq_false.1 hr0 x hx
        unfold touches at this
        rw [h1]
        simp only [Bool.not_eq_true] at this
        rw [this]
        rfl
      cases hg : c.g with
      | true =>
        have hst2 : staysF c r = false := by unfold staysF; rw [hg]; rfl
        by_cases hh : hits c.p p = true
        · have ht : touches p c = true := by
            unfold hits at hh
            unfold touches
            rw [hg]
            simp only [Bool.or_eq_true, decide_eq_true_eq] at hh
            rcases hh with h | h
            · simp [h]
            · simp [h]
          rw [ht, if_pos rfl, if_pos hh, if_pos rfl, if_neg (fun h => by rw [hst2] at h; cases h.2)]
        · have ht : touches p c = false := by
            unfold hits at hh
            unfold touches
            rw [hg]
            simp only [Bool.or_eq_true, decide_eq_true_eq, not_or] at hh
            have h1 : (c.p == p) = false := by simpa using fun e => hh.1 e.symm
            have h2 : belowP c.p p = false := by simpa using hh.2
            rw [h1, h2]; rfl
          rw [ht, if_pos rfl, if_neg hh, if_neg (by decide)]
      | false =>
        rw [if_neg (by decide)]
        by_cases h : c.p = p
        · have hs2 := hst h hg
          have ht : touches p c = true := by unfold touches; simp [h]
          rw [if_pos h, ht, if_pos rfl, if_pos ⟨h, hs2⟩, if_neg (by decide)]
        · have ht : touches p c = false := by
            unfold touches
            have e : (c.p == p) = false := by simpa using h
            rw [e, hg]; rfl
          rw [if_neg h, ht, if_neg (by decide)]
theorem now_is (p : List UInt8) (l : List Cw) : nowF l p = stayR p l := by
  unfold nowF
  rw [now_stay]
  by_cases h : l.any (touches p) = true
  · rw [if_pos h]
  · rw [if_neg h]
    have h0 : l.any (touches p) = false := by simpa using h
    clear h
    induction l with
    | nil => rfl
    | cons x r ih =>
      rw [List.any_cons, Bool.or_eq_false_iff] at h0
      rw [stayR_cons]
      have hx : ¬ x.p = p := fun e => by
        have := h0.1
        unfold touches at this
        rw [e] at this
        simp at this
      rw [if_neg (fun h => hx h.1), ← ih h0.2]
/-- what is in vain at a path, as the reference says it -/
theorem lost_is (p : List UInt8) (l : List Cw) : nowF l p + lostR p l = allF l p := by rw [now_is, all_parts]
/-- what is there in the end: told by the paths of the map, and as the reference says it -/
theorem least_is : ∀ (l : List Cw) (K : List (List UInt8)), K.Nodup → (∀ c ∈ l, c.g = false → c.p ∈ K) → (K.map fun p => stayR p l).sum = leastR l
  | [], K, _, _ => by
    unfold leastR
    induction K with
    | nil => rfl
    | cons x r ih => 
      rename_i h _
      rw [List.map_cons, List.sum_cons, ih (List.nodup_cons.1 h).2 (fun c hc => by cases hc)]; rfl
  | c :: r, K, hK, hc => by
    rw [leastR_cons, ← least_is r K hK fun x hx => hc x (List.mem_cons_of_mem _ hx)]
    have key : ∀ (K : List (List UInt8)), K.Nodup → (K.map fun p => stayR p (c :: r)).sum = (if staysF c r = true ∧ c.p ∈ K then bringsF c else 0) + (K.map fun p => stayR p r).sum := by
      intro K
      induction K with
      | nil => intro _; simp
      | cons x k ih =>
        intro hn
        have hn2 := List.nodup_cons.1 hn
        rw [List.map_cons, List.sum_cons, List.map_cons, List.sum_cons, ih hn2.2]
        rw [stayR_cons]
        by_cases hs : staysF c r = true
        · by_cases hx : c.p = x
          · have : ¬ c.p ∈ k := by rw [hx]; exact hn2.1
            simp [hs, hx, this]
            have h3 : x ∉ k := hn2.1
            simp [h3]
            omega
          · simp [hs, hx]
            omega
        · simp [hs]
    rw [key K hK]
    by_cases hs : staysF c r = true
    · have hg : c.g = false := by
        unfold staysF at hs
        cases hg : c.g with
        | false => rfl
        | true => rw [hg] at hs; cases hs
      rw [if_pos hs, if_pos ⟨hs, hc c (List.mem_cons_self ..) hg⟩]
    · rw [if_neg hs, if_neg (fun h => hs h.1)]
/-! ## the worst first -/
structure LostN where
  p : List UInt8
  t : Nat
  b : Nat
def aheadB (a b : LostN) : Bool := if a.b = b.b then decide (compareP a.p b.p < 0) else decide (b.b < a.b)
theorem ahead_iff {a b : LostN} : aheadB a b = true ↔ b.b < a.b ∨ (a.b = b.b ∧ compareP a.p b.p < 0) := by
  unfold aheadB
  by_cases h : a.b = b.b
  · rw [if_pos h, decide_eq_true_eq]
    constructor
    · exact fun k => .inr ⟨h, k⟩
    · rintro (k | k)
      · omega
      · exact k.2
  · rw [if_neg h, decide_eq_true_eq]
    constructor
    · exact fun k => .inl k
    · rintro (k | k)
      · exact k
      · exact absurd k.1 h
theorem ahead_irrefl (a : LostN) : ¬ aheadB a a = true := fun h => by
  rcases ahead_iff.1 h with h | h
  · omega
  · exact compareP_irrefl _ h.2
theorem ahead_trans {a b c : LostN} (h : aheadB a b = true) (k : aheadB b c = true) : aheadB a c = true := by
  rw [ahead_iff] at h k ⊢
  rcases h with h | h <;> rcases k with k | k
  · exact .inl (by omega)
  · exact .inl (by omega)
  · exact .inl (by omega)
  · exact .inr ⟨by omega, compareP_trans h.2 k.2⟩
theorem ahead_total {a b : LostN} (hne : a.p ≠ b.p) (h : ¬ aheadB a b = true) : aheadB b a = true := by
  rw [ahead_iff] at h ⊢
  by_cases h1 : a.b < b.b
  · exact .inl h1
  · by_cases h2 : a.b = b.b
    · refine .inr ⟨h2.symm, ?_⟩
      rw [compareP_flip]
      have h3 : ¬ compareP a.p b.p < 0 := fun x => h (.inr ⟨h2, x⟩)
      have h4 : compareP a.p b.p ≠ 0 := fun x => hne (compareP_zero.1 x)
      omega
    · exact absurd (.inl (by omega)) h
/-- in order there is one list alone of the same things -/
theorem sorted_one : ∀ {A B : List LostN}, A.Pairwise (fun a b => aheadB a b = true) → B.Pairwise (fun a b => aheadB a b = true) → (∀ x, x ∈ A ↔ x ∈ B) → A = B
  | [], [], _, _, _ => rfl
  | [], b :: B, _, _, h => by have := (h b).2 (List.mem_cons_self ..); cases this
  | a :: A, [], _, _, h => by have := (h a).1 (List.mem_cons_self ..); cases this
  | a :: A, b :: B, hA, hB, h => by
    have hA2 := List.pairwise_cons.1 hA
    have hB2 := List.pairwise_cons.1 hB
    have e : a = b := by
      rcases List.mem_cons.1 ((h a).1 (List.mem_cons_self ..)) with e | h1
      · exact e
      · rcases List.mem_cons.1 ((h b).2 (List.mem_cons_self ..)) with e | h2
        · exact e.symm
        · exact absurd (ahead_trans (hA2.1 b h2) (hB2.1 a h1)) (ahead_irrefl _)
    subst e
    rw [sorted_one hA2.2 hB2.2 fun x => ?_]
    constructor
    · intro hx
      rcases List.mem_cons.1 ((h x).1 (List.mem_cons_of_mem _ hx)) with e | k
      · subst e; exact absurd (hA2.1 _ hx) (ahead_irrefl _)
      · exact k
    · intro hx
      rcases List.mem_cons.1 ((h x).2 (List.mem_cons_of_mem _ hx)) with e | k
      · subst e; exact absurd (hB2.1 _ hx) (ahead_irrefl _)
      · exact k
def insW : List LostN → LostN → List LostN
  | [], x => [x]
  | y :: w, x => if aheadB y x = true then y :: insW w x else x :: y :: w
theorem mem_insW {x z : LostN} : ∀ {w : List LostN}, z ∈ insW w x ↔ z = x ∨ z ∈ w
  | [] => by simp [insW]
  | y :: w => by
    unfold insW
    by_cases h : aheadB y x = true
    · rw [if_pos h, List.mem_cons, List.mem_cons, mem_insW]
      constructor
      · rintro (h | h | h)
        · exact .inr (.inl h)
        · exact .inl h
        · exact .inr (.inr h)
      · rintro (h | h | h)
        · exact .inr (.inl h)
        · exact .inl h
        · exact .inr (.inr h)
    · rw [if_neg h, List.mem_cons]
theorem sorted_ins {x : LostN} : ∀ {w : List LostN}, w.Pairwise (fun a b => aheadB a b = true) → (∀ y ∈ w, y.p ≠ x.p) → (insW w x).Pairwise (fun a b => aheadB a b = true)
  | [], _, _ => List.pairwise_singleton _ _
  | y :: w, hw, hne => by
    have hw2 := List.pairwise_cons.1 hw
    unfold insW
    by_cases h : aheadB y x = true
    · rw [if_pos h]
      refine List.pairwise_cons.2 ⟨fun z hz => ?_, sorted_ins hw2.2 fun z hz => hne z (List.mem_cons_of_mem _ hz)⟩
      rcases mem_insW.1 hz with e | hz
      · subst e; exact h
      · exact hw2.1 z hz
    · rw [if_neg h]
      have hx := ahead_total (hne y (List.mem_cons_self ..)) h
      refine List.pairwise_cons.2 ⟨fun z hz => ?_, hw⟩
      rcases List.mem_cons.1 hz with e | hz
      · subst e; exact hx
      · exact ahead_trans hx (hw2.1 z hz)
def lostN (l : List Cw) (p : List UInt8) : LostN := ⟨p, timesF l p, lostR p l⟩
/-- as the reference goes: at each path's first change -/
def worstGo (l : List Cw) : List (List UInt8) → List Cw → List LostN → List LostN
  | _, [], w => w
  | seen, c :: r, w => if c.p ∈ seen ∨ lostR c.p l = 0 then worstGo l (c.p :: seen) r w else worstGo l (c.p :: seen) r (insW w (lostN l c.p))
theorem worstGo_law (l : List Cw) : ∀ (r : List Cw) (seen : List (List UInt8)) (w : List LostN), w.Pairwise (fun a b => aheadB a b = true) → (∀ x, x ∈ w ↔ ∃ p ∈ seen, lostR p l ≠ 0 ∧ x = lostN l p) →
    (worstGo l seen r w).Pairwise (fun a b => aheadB a b = true) ∧ ∀ x, x ∈ worstGo l seen r w ↔ ∃ p, (p ∈ seen ∨ ∃ c ∈ r, c.p = p) ∧ lostR p l ≠ 0 ∧ x = lostN l p
  | [], seen, w, h1, h2 => ⟨h1, fun x => (h2 x).trans ⟨fun ⟨p, a, b⟩ => ⟨p, .inl a, b⟩, fun ⟨p, a, b⟩ => by
    rcases a with a | ⟨c, hc, _⟩
    · exact ⟨p, a, b⟩
    · cases hc⟩⟩
  | c :: r, seen, w, h1, h2 => by
    unfold worstGo
    have fin : ∀ x p, ((p ∈ c.p :: seen ∨ ∃ d ∈ r, d.p = p) ∧ lostR p l ≠ 0 ∧ x = lostN l p) ↔ ((p ∈ seen ∨ ∃ d ∈ c :: r, d.p = p) ∧ lostR p l ≠ 0 ∧ x = lostN l p) := fun x p => by
      refine and_congr_left fun _ => ?_
      rw [List.mem_cons]
      constructor
      · rintro ((h | h) | ⟨d, h, k⟩)
        · exact .inr ⟨c, List.mem_cons_self .., h.symm⟩
        · exact .inl h
        · exact .inr ⟨d, List.mem_cons_of_mem _ h, k⟩
      · rintro (h | ⟨d, h, k⟩)
        · exact .inl (.inr h)
        · rcases List.mem_cons.1 h with e | h
          · subst e; exact .inl (.inl k.symm)
          · exact .inr ⟨d, h, k⟩
    by_cases h : c.p ∈ seen ∨ lostR c.p l = 0
    · rw [if_pos h]
      obtain ⟨q1, q2⟩ := worstGo_law l r (c.p :: seen) w h1 (fun x => (h2 x).trans ⟨fun ⟨p, a, b⟩ => ⟨p, List.mem_cons_of_mem _ a, b⟩, fun ⟨p, a, b⟩ => by
        rcases List.mem_cons.1 a with e | a
        · subst e
          rcases h with h | h
          · exact ⟨_, h, b⟩
          · exact absurd h b.1
        · exact ⟨p, a, b⟩⟩)
      exact ⟨q1, fun x => (q2 x).trans (exists_congr fun p => fin x p)⟩
    · rw [if_neg h]
      rw [not_or] at h
      obtain ⟨q1, q2⟩ := worstGo_law l r (c.p :: seen) (insW w (lostN l c.p)) (sorted_ins h1 fun y hy => by
        obtain ⟨p, hp, _, e⟩ := (h2 y).1 hy
        subst e
        intro e
        exact h.1 ((show p = c.p from e) ▸ hp)) (fun x => by
        rw [mem_insW, h2 x]
        constructor
        · rintro (e | ⟨p, a, b⟩)
          · exact ⟨c.p, List.mem_cons_self .., h.2, e⟩
          · exact ⟨p, List.mem_cons_of_mem _ a, b⟩
        · rintro ⟨p, a, b⟩
          rcases List.mem_cons.1 a with e | a
          · subst e; exact .inl b.2
          · exact .inr ⟨p, a, b⟩)
      exact ⟨q1, fun x => (q2 x).trans (exists_congr fun p => fin x p)⟩
def worstR (l : List Cw) : List LostN := worstGo l [] l []
/-- what the reference lists -/
theorem worstR_law (l : List Cw) : (worstR l).Pairwise (fun a b => aheadB a b = true) ∧ ∀ x, x ∈ worstR l ↔ ∃ c ∈ l, lostR c.p l ≠ 0 ∧ x = lostN l c.p := by
  obtain ⟨q1, q2⟩ := worstGo_law l l [] [] List.Pairwise.nil (fun x => by simp)
  refine ⟨q1, fun x => (q2 x).trans ⟨?_, ?_⟩⟩
  · rintro ⟨p, a, b⟩
    rcases a with a | ⟨c, hc, e⟩
    · cases a
    · subst e; exact ⟨c, hc, b⟩
  · rintro ⟨c, hc, b⟩
    exact ⟨c.p, .inr ⟨c, hc, rfl⟩, b⟩
/-! ## the map's entries -/
theorem keys_gone (M : CostM) (d : List UInt8) : (goneM M d).map (·.1) = M.map (·.1) := by
  unfold goneM
  rw [List.map_map]
  refine List.map_congr_left fun x _ => ?_
  simp only [Function.comp_apply]
  split <;> rfl
theorem getM_none {M : CostM} {p : List UInt8} : getM M p = none ↔ p ∉ M.map (·.1) := by
  unfold getM
  rw [Option.map_eq_none_iff, List.find?_eq_none]
  constructor
  · intro h hp
    obtain ⟨x, hx, e⟩ := List.mem_map.1 hp
    exact absurd (by simpa using e) (h x hx)
  · intro h x hx e
    exact h (List.mem_map.2 ⟨x, hx, by simpa using e⟩)
theorem keys_put (M : CostM) (p : List UInt8) (n : Nat) : (putM M p n).map (·.1) = if p ∈ M.map (·.1) then M.map (·.1) else M.map (·.1) ++ [p] := by
  unfold putM
  cases h : getM M p with
  | none =>
    rw [if_neg (getM_none.1 h)]
    simp
  | some c =>
    have hp : p ∈ M.map (·.1) := by
      by_cases hp : p ∈ M.map (·.1)
      · exact hp
      · rw [getM_none.2 hp] at h; cases h
    rw [if_pos hp]
    simp only [List.map_map]
    refine List.map_congr_left fun x _ => ?_
    simp only [Function.comp_apply]
    split <;> rfl
theorem costs_keys : ∀ l : List Cw, ((costsM l).map (·.1)).Nodup ∧ ∀ p, p ∈ (costsM l).map (·.1) ↔ ∃ c ∈ l, c.g = false ∧ c.p = p := by
  refine snoc_ind ⟨List.nodup_nil, fun p => ⟨fun h => (by cases h), fun ⟨c, h, _⟩ => (by cases h)⟩⟩ fun l c ih => ?_
  have e : costsM (l ++ [c]) = stepM (costsM l) c := by unfold costsM; rw [List.foldl_append]; rfl
  rw [e]
  unfold stepM
  have ext : ∀ p, (∃ x ∈ l ++ [c], x.g = false ∧ x.p = p) ↔ (∃ x ∈ l, x.g = false ∧ x.p = p) ∨ (c.g = false ∧ c.p = p) := fun p => by
    constructor
    · rintro ⟨x, hx, h⟩
      rcases List.mem_append.1 hx with hx | hx
      · exact .inl ⟨x, hx, h⟩
      · rw [List.mem_singleton.1 hx] at h; exact .inr h
    · rintro (⟨x, hx, h⟩ | h)
      · exact ⟨x, List.mem_append_left _ hx, h⟩
      · exact ⟨c, List.mem_append_right _ (List.mem_singleton.2 rfl), h⟩
  cases hg : c.g with
  | true =>
    rw [if_pos rfl, keys_gone]
    refine ⟨ih.1, fun p => ?_⟩
    rw [ih.2 p, ext p, hg]
    simp
  | false =>
    rw [if_neg (by decide), keys_put]
    by_cases hm : c.p ∈ (costsM l).map (·.1)
    · rw [if_pos hm]
      refine ⟨ih.1, fun p => ?_⟩
      rw [ih.2 p, ext p]
      refine ⟨fun h => .inl h, ?_⟩
      rintro (h | ⟨_, h⟩)
      · exact h
      · subst h; exact (ih.2 c.p).1 hm
    · rw [if_neg hm]
      refine ⟨?_, fun p => ?_⟩
      · rw [List.nodup_append]
        refine ⟨ih.1, by simp, fun a ha b hb => ?_⟩
        rw [List.mem_singleton.1 hb]
        exact fun e => hm (e ▸ ha)
      · rw [List.mem_append, ih.2 p, ext p, List.mem_singleton]
        refine or_congr_right ⟨fun h => ⟨hg, h.symm⟩, fun h => h.2.symm⟩
theorem getM_mem {M : CostM} (hn : (M.map (·.1)).Nodup) {x : List UInt8 × Cost} (hx : x ∈ M) : getM M x.1 = some x.2 := by
  induction M with
  | nil => cases hx
  | cons y r ih =>
    have hn2 := List.nodup_cons.1 (show (y.1 :: r.map (·.1)).Nodup from hn)
    unfold getM
    rw [List.find?_cons]
    rcases List.mem_cons.1 hx with e | hx
    · subst e; simp
    · have hne : (y.1 == x.1) = false := by
        rw [beq_eq_false_iff_ne]
        exact fun e => hn2.1 (e ▸ List.mem_map.2 ⟨x, hx, rfl⟩)
      simp only [hne]
      exact ih hn2.2 hx
/-- each entry of the map -/
theorem costs_mem {l : List Cw} {x : List UInt8 × Cost} (hx : x ∈ costsM l) : x.2 = ⟨timesF l x.1, allF l x.1, nowF l x.1⟩ := by
  have h := getM_mem (costs_keys l).1 hx
  rw [costs_get] at h
  unfold costF at h
  by_cases h0 : timesF l x.1 = 0
  · rw [if_pos h0] at h; cases h
  · rw [if_neg h0] at h; exact (Option.some.inj h).symm
/-- the program's sum of what is there -/
theorem costs_least (l : List Cw) : ((costsM l).map fun x => x.2.now).sum = leastR l := by
  have h := costs_keys l
  rw [← least_is l ((costsM l).map (·.1)) h.1 (fun c hc hg => (h.2 c.p).2 ⟨c, hc, hg, rfl⟩), List.map_map]
  refine congrArg List.sum (List.map_congr_left fun x hx => ?_)
  rw [costs_mem hx]
  exact now_is _ _
/-- what the program sorts: the same things as the reference lists -/
theorem costs_worst (l : List Cw) (y : LostN) : y ∈ ((costsM l).filter fun x => decide (x.2.now < x.2.all)).map (fun x => ⟨x.1, x.2.t, x.2.all - x.2.now⟩) ↔ y ∈ worstR l := by
  have hk := costs_keys l
  rw [(worstR_law l).2 y]
  have one : ∀ x ∈ costsM l, x.2.all - x.2.now = lostR x.1 l := fun x hx => by
    have := costs_mem hx
    have h2 := lost_is x.1 l
    rw [this]
    simp only []
    omega
  have tim : ∀ x ∈ costsM l, x.2.t = timesF l x.1 := fun x hx => by rw [costs_mem hx]
  constructor
  · intro h
    obtain ⟨x, hx, e⟩ := List.mem_map.1 h
    obtain ⟨hx1, hx2⟩ := List.mem_filter.1 hx
    obtain ⟨c, hc, _, hp⟩ := (hk.2 x.1).1 (List.mem_map.2 ⟨x, hx1, rfl⟩)
    have h1 := one x hx1
    have h2 : x.2.now < x.2.all := by simpa using hx2
    refine ⟨c, hc, by rw [hp]; omega, ?_⟩
    rw [← e, hp]
    unfold lostN
    rw [h1, tim x hx1]
  · rintro ⟨c, hc, h0, e⟩
    have hg : ∃ d ∈ l, d.g = false ∧ d.p = c.p := by
      apply Classical.byContradiction
      intro hno
      apply h0
      have : ∀ (r : List Cw), (∀ d ∈ r, ¬ (d.g = false ∧ d.p = c.p)) → lostR c.p r = 0 := by
        intro r
        induction r with
        | nil => intro _; rfl
        | cons d r ih =>
          intro hr
          rw [lostR_cons, ih fun x hx => hr x (List.mem_cons_of_mem _ hx)]
          have := hr d (List.mem_cons_self ..)
          by_cases hd : d.p = c.p
          · have : d.g = true := by
              cases hg : d.g with
              | true => rfl
              | false => exact absurd ⟨hg, hd⟩ this
            unfold bringsF
            simp [this]
          · simp [hd]
      exact this l fun d hd hh => hno ⟨d, hd, hh⟩
    obtain ⟨x, hx, hxp⟩ := List.mem_map.1 ((hk.2 c.p).2 hg)
    have h1 := one x hx
    rw [hxp] at h1
    refine List.mem_map.2 ⟨x, List.mem_filter.2 ⟨hx, by simp; omega⟩, ?_⟩
    rw [e]
    unfold lostN
    rw [h1, tim x hx, hxp]
/-! ## the sums -/
def totalR (l : List Cw) : Nat := (l.map bringsF).sum
theorem lost_sum : ∀ (l : List Cw) (K : List (List UInt8)), K.Nodup → (∀ c ∈ l, c.g = false → c.p ∈ K) → (K.map fun p => lostR p l).sum + leastR l = totalR l
  | [], K, _, _ => by
    have : ∀ K : List (List UInt8), (K.map fun p => lostR p []).sum = 0 := fun K => by
      induction K with
      | nil => rfl
      | cons x r ih => rw [List.map_cons, List.sum_cons, ih]; rfl
    rw [this]; rfl
  | c :: r, K, hK, hc => by
    have ih := lost_sum r K hK fun x hx => hc x (List.mem_cons_of_mem _ hx)
    have key : ∀ (K : List (List UInt8)), K.Nodup → (K.map fun p => lostR p (c :: r)).sum = (if staysF c r = false ∧ c.p ∈ K then bringsF c else 0) + (K.map fun p => lostR p r).sum := by
      intro K
      induction K with
      | nil => intro _; simp
      | cons x k ih =>
        intro hn
        have hn2 := List.nodup_cons.1 hn
        rw [List.map_cons, List.sum_cons, List.map_cons, List.sum_cons, ih hn2.2]
        rw [lostR_cons]
        by_cases hs : staysF c r = false
        · by_cases hx : c.p = x
          · have h3 : x ∉ k := hn2.1
            simp [hs, hx, h3]
            omega
          · simp [hs, hx]
            omega
        · simp [hs]
    have ht : totalR (c :: r) = bringsF c + totalR r := by unfold totalR; rw [List.map_cons, List.sum_cons]
    rw [key K hK, leastR_cons, ht, ← ih]
    by_cases hs : staysF c r = false
    · have hl : (if staysF c r = true then bringsF c else 0) = 0 := if_neg (by rw [hs]; decide)
      rw [hl]
      by_cases hm : c.p ∈ K
      · rw [if_pos ⟨hs, hm⟩]; omega
      · rw [if_neg fun h => hm h.2]
        have hg : c.g = true := by
          cases hg : c.g with
          | true => rfl
          | false => exact absurd (hc c (List.mem_cons_self ..) hg) hm
        have : bringsF c = 0 := by unfold bringsF; rw [if_pos hg]
        omega
    · rw [if_neg fun h => hs h.1, if_pos (by simpa using hs)]; omega
/-- what is in vain and what is there are together all that is brought -/
theorem costs_sum (l : List Cw) : (((costsM l).filter fun x => decide (x.2.now < x.2.all)).map fun x => x.2.all - x.2.now).sum + leastR l = totalR l := by
  have h := costs_keys l
  rw [← lost_sum l ((costsM l).map (·.1)) h.1 (fun c hc hg => (h.2 c.p).2 ⟨c, hc, hg, rfl⟩), List.map_map]
  have e : (costsM l).map ((fun p => lostR p l) ∘ (·.1)) = (costsM l).map fun x => x.2.all - x.2.now := List.map_congr_left fun x hx => by
    have h2 := lost_is x.1 l
    rw [costs_mem hx]
    simp only [Function.comp_apply]
    omega
  rw [e]
  have drop : ∀ M : CostM, ((M.filter fun x => decide (x.2.now < x.2.all)).map fun x => x.2.all - x.2.now).sum = (M.map fun x => x.2.all - x.2.now).sum := fun M => by
    induction M with
    | nil => rfl
    | cons x r ih =>
      rw [List.filter_cons]
      by_cases hx : x.2.now < x.2.all
      · rw [if_pos (by simpa using hx), List.map_cons, List.sum_cons, List.map_cons, List.sum_cons, ih]
      · rw [if_neg (by simpa using hx), List.map_cons, List.sum_cons, ih]; omega
  rw [drop]
end Go.Proofs.Ytebniijkhjnbdaa
