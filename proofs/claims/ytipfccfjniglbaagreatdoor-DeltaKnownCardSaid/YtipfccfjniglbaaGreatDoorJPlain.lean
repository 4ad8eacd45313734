/- Joined: what these texts prove stands at the head of each part: DPlain, DRef, DUndo, DPos, DProbe, DLaid. -/
import Derived.Test.YtipfccfjniglbaaGreatDoorRPlain
import Derived.Test.YtipfccfjniglbaaGreatDoorJOrd
set_option linter.unusedSimpArgs false
set_option linter.unusedVariables false
namespace Go.Proofs.YtipfccfjniglbaaGreatDoor
section
/-- a change -/
structure Chg where
  p : ByteArray
  g : Bool
  e : Ent
def Chg.path (c : Chg) : List UInt8 := c.p.data.toList
def entZ : Ent := ⟨⟨#[]⟩, 0, 0, ⟨#[]⟩, ⟨#[]⟩⟩
def goneOf (x : Ent) : Chg := ⟨x.p, true, entZ⟩
def layOf (y : Ent) : Chg := ⟨y.p, false, y⟩
def entEq (x y : Ent) : Bool := x.p.data.toList == y.p.data.toList && x.k == y.k && x.m == y.m && x.d.data.toList == y.d.data.toList && x.l.data.toList == y.l.data.toList
theorem entEq_iff {x y : Ent} : entEq x y = true ↔ x = y := by
  obtain ⟨⟨⟨a⟩⟩, b, c, ⟨⟨d⟩⟩, ⟨⟨e⟩⟩⟩ := x
  obtain ⟨⟨⟨a2⟩⟩, b2, c2, ⟨⟨d2⟩⟩, ⟨⟨e2⟩⟩⟩ := y
  simp [entEq, and_assoc]
/-- is a path below what was taken away last? -/
def hid (top : Option (List UInt8)) (q : List UInt8) : Bool := match top with
  | none => false
  | some t => belowP t q
/-- both directories, or neither -/
def alike (x y : Ent) : Bool := decide (x.k = 1) == decide (y.k = 1)
/-- the changes of two lists in order, as the program goes -/
def chgF : Nat → List Ent → List Ent → Option (List UInt8) → List Chg
  | 0, _, _, _ => []
  | _ + 1, [], [], _ => []
  | f + 1, x :: a, [], top => if hid top x.path = true then chgF f a [] top else goneOf x :: chgF f a [] (some x.path)
  | f + 1, [], y :: b, top => layOf y :: chgF f [] b top
  | f + 1, x :: a, y :: b, top =>
    if compareP x.path y.path < 0 then (if hid top x.path = true then chgF f a (y :: b) top else goneOf x :: chgF f a (y :: b) (some x.path))
    else if 0 < compareP x.path y.path then layOf y :: chgF f (x :: a) b top
    else if alike x y = true then (if entEq x y = true then chgF f a b top else layOf y :: chgF f a b top)
    else if hid top x.path = true then layOf y :: chgF f a b top
    else goneOf x :: layOf y :: chgF f a b (some x.path)
def chgL (a b : List Ent) : List Chg := chgF (a.length + b.length) a b none
/-- one change done -/
def doneL (L : List Ent) (c : Chg) : Except Nat (List Ent) :=
  if c.g = true then (if c.path = [] then .error 15 else if lookE L c.path = none then .error 10 else .ok (withoutL L c.path))
  else if c.e.path ≠ c.path then .error 1 else if itselfNo c.e ≠ 0 then .error (itselfNo c.e) else if upNo L c.path ≠ 0 then .error (upNo L c.path)
  else match lookE L c.path with
    | some x => if alike x c.e = true then .ok (laidL L c.e) else .error 14
    | none => .ok (laidL L c.e)
/-- changes done, one behind the other: what comes out, or what is wrong, and at which -/
def doL : List Ent → List Chg → Nat → Except (Nat × Nat) (List Ent)
  | L, [], _ => .ok L
  | L, c :: r, i => match doneL L c with
    | .error n => .error (n, i)
    | .ok L' => doL L' r (i + 1)
theorem doL_cons {L L' : List Ent} {c : Chg} {r : List Chg} {i : Nat} (h : doneL L c = .ok L') : doL L (c :: r) i = doL L' r (i + 1) := by
  conv => lhs; unfold doL
  rw [h]
/-- what lies between a directory and what is below it in order is below it -/
theorem cmp_between : ∀ (T X Q : List (List UInt8)) (c : List UInt8) (r : List (List UInt8)), cmpPs T X < 0 → cmpPs X Q ≤ 0 → Q = T ++ c :: r → ∃ c' r', X = T ++ c' :: r'
  | [], X, Q, c, r, h1, h2, h3 => by
    cases X with
    | nil => exact absurd h1 (by decide)
    | cons y s => exact ⟨y, s, rfl⟩
  | u :: T, X, Q, c, r, h1, h2, h3 => by
    cases X with
    | nil => exact absurd (show (1 : Int) < 0 from h1) (by decide)
    | cons y s =>
      subst h3
      rw [cmpPs_cons] at h1
      rw [List.cons_append, cmpPs_cons] at h2
      have hf := cmpB_flip u y
      by_cases h0 : cmpB u y = 0
      · rw [if_pos h0] at h1
        rw [if_pos (by omega)] at h2
        obtain ⟨c', r', h⟩ := cmp_between T s _ c r h1 h2 rfl
        exact ⟨c', r', by rw [h, cmpB_zero.1 h0]; rfl⟩
      · rw [if_neg h0] at h1
        rw [if_neg (by omega)] at h2
        omega
theorem contig {t x q : List UInt8} (ht : t ≠ []) (h1 : compareP t x < 0) (h2 : compareP x q ≤ 0) (h : belowP t q = true) : belowP t x = true := by
  rw [below_under ht] at h ⊢
  obtain ⟨c, r, hq⟩ := h
  unfold Under
  rw [PP_ne ht] at hq ⊢
  obtain ⟨c', r', hx⟩ := cmp_between _ _ _ c r h1 h2 hq
  exact ⟨c', r', hx⟩
theorem below_trans {a b c : List UInt8} (ha : a ≠ []) (hb : b ≠ []) (h : belowP a b = true) (k : belowP b c = true) : belowP a c = true := by
  rw [below_under ha] at h ⊢
  rw [below_under hb] at k
  exact under_trans hb h k
theorem below_less {a b : List UInt8} (ha : a ≠ []) (h : belowP a b = true) : compareP a b < 0 := under_less ha ((below_under ha).1 h)
theorem parent_less {p : List UInt8} (hp : Neat p) (h0 : parent p ≠ []) : compareP (parent p) p < 0 := under_less h0 (under_kid hp rfl)
theorem lookE_cons (x : Ent) (l : List Ent) (q : List UInt8) : lookE (x :: l) q = if x.path = q then some x else lookE l q := by
  unfold lookE
  by_cases h : x.path = q
  · rw [if_pos h, List.find?_cons_of_pos (by simpa using h)]
  · rw [if_neg h, List.find?_cons_of_neg (by simpa using h)]
theorem lookE_not {l : List Ent} {q : List UInt8} (h : ∀ x ∈ l, x.path ≠ q) : lookE l q = none := by
  unfold lookE
  rw [List.find?_eq_none]
  intro x hx
  simpa using h x hx
theorem lookE_without (l : List Ent) (p q : List UInt8) : lookE (withoutL l p) q = if q = p ∨ belowP p q = true then none else lookE l q := by
  unfold lookE withoutL
  rw [List.find?_filter]
  by_cases h : q = p ∨ belowP p q = true
  · rw [if_pos h, List.find?_eq_none]
    intro x hx hh
    simp at hh
    obtain ⟨h1, h2⟩ := hh
    have : keepE p x = false := keepE_false.2 (by rw [h2]; exact h)
    rw [this] at h1
    cases h1
  · rw [if_neg h]
    refine find_congr fun x hx => ?_
    by_cases h2 : x.path = q
    · have : keepE p x = true := by
        cases hk : keepE p x with
        | true => rfl
        | false => exact absurd (by have := keepE_false.1 hk; rwa [h2] at this) h
      simp [this, h2]
    · simp [h2]
theorem lt_ne {a b : List UInt8} (h : compareP a b < 0) : a ≠ b := fun e => by subst e; exact compareP_irrefl _ h
theorem lt_not {a b : List UInt8} (h : compareP a b < 0) : ¬ compareP b a < 0 := fun k => by have := compareP_flip a b; omega
/-- two lists in order that answer alike are one -/
theorem inc_ext {l r : List Ent} (hl : Inc l) (hr : Inc r) (h : ∀ q, lookE l q = lookE r q) : l = r := by
  refine order_ext (lt := fun a b : Ent => compareP a.path b.path < 0) (fun a => compareP_irrefl _) (fun h k => compareP_trans h k) hl hr fun x => ⟨fun hx => ?_, fun hx => ?_⟩
  · have := lookE_mem hl hx
    rw [h] at this
    exact (lookE_some this).1
  · have := lookE_mem hr hx
    rw [← h] at this
    exact (lookE_some this).1
/-- where the changes of two trees stand when they are done: what is left of both, what was taken away last, what has come out -/
structure DInv (a0 b0 ra rb : List Ent) (top : Option (List UInt8)) (L : List Ent) : Prop where
  inc : Inc L
  ia : Inc ra
  ib : Inc rb
  sa : ∀ x ∈ ra, x ∈ a0
  sb : ∀ y ∈ rb, y ∈ b0
  old : ∀ y ∈ b0, y ∈ rb ∨ ((∀ x ∈ ra, compareP y.path x.path < 0) ∧ ∀ z ∈ rb, compareP y.path z.path < 0)
  left : ∀ q, lookE ra q ≠ none ∨ lookE rb q ≠ none → lookE L q = if hid top q = true then none else lookE ra q
  done : ∀ q, lookE ra q = none → lookE rb q = none → lookE L q = lookE b0 q
  topA : ∀ t, top = some t → t ≠ [] ∧ (∀ x ∈ ra, compareP t x.path < 0) ∧ ∀ y ∈ rb, compareP t y.path < 0
  topB : ∀ t, top = some t → ∀ x ∈ ra, belowP t x.path = true → ¬ ∃ e, lookE b0 t = some e ∧ e.k = 1
section
variable {a0 b0 ra rb L : List Ent} {x y : Ent} {top : Option (List UInt8)}
theorem good_ne {l : List Ent} (h : Good l) {x : Ent} (hx : x ∈ l) : x.path ≠ [] := (good_neat h (lookE_mem h.inc hx)).ne
/-- what is left lies behind the head -/
theorem left_behind {l : List Ent} {q : List UInt8} (h : ∀ z ∈ l, compareP x.path z.path < 0) (hq : lookE l q ≠ none) : compareP x.path q < 0 := by
  cases hl : lookE l q with
  | none => exact absurd hl hq
  | some z =>
    obtain ⟨h1, h2⟩ := lookE_some hl
    rw [← h2]
    exact h z h1
theorem DInv.b_none (h : DInv a0 b0 (x :: ra) rb top L) {q : List UInt8} (hq : compareP x.path q ≤ 0) (hr : lookE rb q = none) : lookE b0 q = none := by
  cases hl : lookE b0 q with
  | none => rfl
  | some y =>
    obtain ⟨h1, h2⟩ := lookE_some hl
    rcases h.old y h1 with h3 | ⟨h3, _⟩
    · exact absurd h2 (lookE_none hr y h3)
    · have h4 := h3 x (List.mem_cons_self ..)
      rw [h2] at h4
      have := compareP_flip q x.path
      omega
theorem hid_contig {q : List UInt8} (hA : ∀ t, top = some t → t ≠ [] ∧ compareP t x.path < 0) (hh : hid top x.path = false) (hq : compareP x.path q ≤ 0) : hid top q = false := by
  cases top with
  | none => rfl
  | some t =>
    cases hb : hid (some t) q with
    | false => rfl
    | true =>
      obtain ⟨h1, h2⟩ := hA t rfl
      have := contig h1 h2 hq hb
      have h3 : belowP t x.path = false := hh
      rw [this] at h3
      cases h3
theorem DInv.gone (h : DInv a0 b0 (x :: ra) rb top L) (ga : Good a0) (gb : Good b0) (hx : ∀ y ∈ rb, compareP x.path y.path < 0) (hh : hid top x.path = false) :
    doneL L (goneOf x) = .ok (withoutL L x.path) ∧ DInv a0 b0 ra rb (some x.path) (withoutL L x.path) := by
  have hne := good_ne ga (h.sa x (List.mem_cons_self ..))
  have hxa : ∀ z ∈ ra, compareP x.path z.path < 0 := (List.pairwise_cons.1 h.ia).1
  have hlx : lookE L x.path = some x := by
    rw [h.left x.path (.inl (by rw [lookE_cons, if_pos rfl]; simp)), hh, lookE_cons, if_pos rfl]
    rfl
  have hbn : lookE b0 x.path = none := h.b_none (by rw [compareP_zero.2 rfl]; exact Int.le_refl _) (lookE_not fun z hz e => by have := hx z hz; rw [e] at this; exact compareP_irrefl _ this)
  refine ⟨?_, ⟨List.Pairwise.filter _ h.inc, (List.pairwise_cons.1 h.ia).2, h.ib, fun z hz => h.sa z (List.mem_cons_of_mem _ hz), h.sb, fun y hy => ?_, fun q hq => ?_, fun q h1 h2 => ?_, fun t ht => ?_, fun t ht z hz hb => ?_⟩⟩
  · unfold doneL
    rw [if_pos (show (goneOf x).g = true from rfl)]
    show (if x.path = [] then _ else if lookE L x.path = none then _ else _) = _
    rw [if_neg hne, hlx, if_neg (by simp)]
    rfl
  · rcases h.old y hy with h1 | ⟨h1, h2⟩
    · exact .inl h1
    · exact .inr ⟨fun z hz => h1 z (List.mem_cons_of_mem _ hz), h2⟩
  · have hlt : compareP x.path q < 0 := by
      rcases hq with hq | hq
      · exact left_behind hxa hq
      · exact left_behind hx hq
    have hqx : q ≠ x.path := (lt_ne hlt).symm
    rw [lookE_without]
    by_cases hb : belowP x.path q = true
    · rw [if_pos (.inr hb), if_pos (show hid (some x.path) q = true from hb)]
    · rw [if_neg (fun e => e.elim hqx hb), if_neg (show ¬ hid (some x.path) q = true from hb)]
      rw [h.left q (by rw [lookE_cons, if_neg hqx.symm]; exact hq), hid_contig (fun t ht => ⟨(h.topA t ht).1, (h.topA t ht).2.1 x (List.mem_cons_self ..)⟩) hh (Int.le_of_lt hlt), lookE_cons, if_neg hqx.symm]
      rfl
  · rw [lookE_without]
    by_cases hq : q = x.path
    · subst hq
      rw [if_pos (.inl rfl), hbn]
    by_cases hb : belowP x.path q = true
    · rw [if_pos (.inr hb), h.b_none (Int.le_of_lt (below_less hne hb)) h2]
    · rw [if_neg (fun e => e.elim hq hb)]
      exact h.done q (by rw [lookE_cons, if_neg (Ne.symm hq)]; exact h1) h2
  · injection ht with ht
    subst ht
    exact ⟨hne, hxa, hx⟩
  · injection ht with ht
    subst ht
    rw [hbn]
    rintro ⟨e, he, _⟩
    cases he
theorem DInv.hide (h : DInv a0 b0 (x :: ra) rb top L) (hx : ∀ y ∈ rb, compareP x.path y.path < 0) (hh : hid top x.path = true) : DInv a0 b0 ra rb top L := by
  have hxa : ∀ z ∈ ra, compareP x.path z.path < 0 := (List.pairwise_cons.1 h.ia).1
  refine ⟨h.inc, (List.pairwise_cons.1 h.ia).2, h.ib, fun z hz => h.sa z (List.mem_cons_of_mem _ hz), h.sb, fun y hy => ?_, fun q hq => ?_, fun q h1 h2 => ?_, fun t ht => ?_, fun t ht z hz hb => h.topB t ht z (List.mem_cons_of_mem _ hz) hb⟩
  · rcases h.old y hy with h1 | ⟨h1, h2⟩
    · exact .inl h1
    · exact .inr ⟨fun z hz => h1 z (List.mem_cons_of_mem _ hz), h2⟩
  · have hlt : compareP x.path q < 0 := by
      rcases hq with hq | hq
      · exact left_behind hxa hq
      · exact left_behind hx hq
    have hqx := lt_ne hlt
    rw [h.left q (by rw [lookE_cons, if_neg hqx]; exact hq), lookE_cons, if_neg hqx]
  · by_cases hq : x.path = q
    · subst hq
      rw [h.left _ (.inl (by rw [lookE_cons, if_pos rfl]; simp)), hh, h.b_none (by rw [compareP_zero.2 rfl]; exact Int.le_refl _) h2]
      rfl
    · exact h.done q (by rw [lookE_cons, if_neg hq]; exact h1) h2
  · obtain ⟨h1, h2, h3⟩ := h.topA t ht
    exact ⟨h1, fun z hz => h2 z (List.mem_cons_of_mem _ hz), h3⟩
/-- the directory above what is laid next is there -/
theorem up_there (gb : Good b0) (hy : y ∈ b0) (hp : parent y.path ≠ [] → lookE L (parent y.path) = lookE b0 (parent y.path)) : upNo L y.path = 0 := by
  have hu := gb.up y hy
  unfold upNo at hu ⊢
  by_cases h0 : parent y.path = []
  · rw [if_pos h0]
  · rw [if_neg h0] at hu ⊢
    rw [hp h0]
    exact hu
theorem lay_done (gb : Good b0) (hy : y ∈ b0) (hu : upNo L y.path = 0) (hl : lookE L y.path = none ∨ ∃ x, lookE L y.path = some x ∧ alike x y = true) : doneL L (layOf y) = .ok (laidL L y) := by
  unfold doneL
  rw [if_neg (show ¬ (layOf y).g = true from fun h => by cases h)]
  show (if y.path ≠ y.path then _ else if itselfNo y ≠ 0 then _ else if upNo L y.path ≠ 0 then _ else _) = _
  rw [if_neg (by simp), gb.it y hy, if_neg (by decide), hu, if_neg (by decide)]
  show (match lookE L y.path with | some x => if alike x y = true then Except.ok (laidL L y) else .error 14 | none => .ok (laidL L y)) = _
  rcases hl with hl | ⟨x, hl, ha⟩
  · rw [hl]
  · rw [hl]
    simp only []
    rw [if_pos ha]
theorem DInv.lay (h : DInv a0 b0 ra (y :: rb) top L) (gb : Good b0) (hy : ∀ x ∈ ra, compareP y.path x.path < 0) :
    doneL L (layOf y) = .ok (laidL L y) ∧ DInv a0 b0 ra rb top (laidL L y) := by
  have hyb := h.sb y (List.mem_cons_self ..)
  have hn := good_neat gb (lookE_mem gb.inc hyb)
  have hyr : ∀ z ∈ rb, compareP y.path z.path < 0 := (List.pairwise_cons.1 h.ib).1
  have hly : lookE L y.path = none := by
    rw [h.left y.path (.inr (by rw [lookE_cons, if_pos rfl]; simp)), lookE_not (l := ra) fun z hz e => by have := hy z hz; rw [e] at this; exact compareP_irrefl _ this]
    split <;> rfl
  refine ⟨lay_done gb hyb (up_there gb hyb fun h0 => ?_) (.inl hly), ⟨inc_laid h.inc, h.ia, (List.pairwise_cons.1 h.ib).2, h.sa, fun z hz => h.sb z (List.mem_cons_of_mem _ hz), fun z hz => ?_, fun q hq => ?_, fun q h1 h2 => ?_, fun t ht => ?_, h.topB⟩⟩
  · have hpl := parent_less hn h0
    refine h.done _ (lookE_not fun z hz e => ?_) (lookE_not fun z hz e => ?_)
    · have := hy z hz
      rw [e] at this
      exact lt_not hpl this
    · rcases List.mem_cons.1 hz with e2 | e2
      · subst e2; rw [← e] at hpl; exact compareP_irrefl _ hpl
      · have := hyr z e2
        rw [e] at this
        exact lt_not hpl this
  · rcases h.old z hz with h1 | ⟨h1, h2⟩
    · rcases List.mem_cons.1 h1 with e | e
      · subst e; exact .inr ⟨hy, hyr⟩
      · exact .inl e
    · exact .inr ⟨h1, fun w hw => h2 w (List.mem_cons_of_mem _ hw)⟩
  · have hqy : y.path ≠ q := by
      rcases hq with hq | hq
      · exact lt_ne (left_behind hy hq)
      · exact lt_ne (left_behind hyr hq)
    rw [lookE_laid h.inc, if_neg (Ne.symm hqy)]
    exact h.left q (by rw [lookE_cons y, if_neg hqy]; exact hq)
  · rw [lookE_laid h.inc]
    by_cases hq : q = y.path
    · subst hq
      rw [if_pos rfl, lookE_mem gb.inc hyb]
    · rw [if_neg hq]
      exact h.done q h1 (by rw [lookE_cons, if_neg (Ne.symm hq)]; exact h2)
  · obtain ⟨h1, h2, h3⟩ := h.topA t ht
    exact ⟨h1, h2, fun z hz => h3 z (List.mem_cons_of_mem _ hz)⟩
/-- where both have something, it is not hidden -/
theorem DInv.seen (h : DInv a0 b0 (x :: ra) (y :: rb) top L) (gb : Good b0) (e : x.path = y.path) : hid top x.path = false := by
  cases hh : hid top x.path with
  | false => rfl
  | true =>
    exfalso
    cases top with
    | none => cases hh
    | some t =>
      obtain ⟨h1, _, _⟩ := h.topA t rfl
      have hb : belowP t x.path = true := hh
      refine h.topB t rfl x (List.mem_cons_self ..) hb ?_
      rw [e] at hb
      obtain ⟨c, hc⟩ := (below_pre h1).1 hb
      have hl := lookE_mem gb.inc (h.sb y (List.mem_cons_self ..))
      rw [hc] at hl
      exact above_dir gb _ _ _ _ (Nat.le_refl _) h1 hl
theorem DInv.both_old (h : DInv a0 b0 (x :: ra) (y :: rb) top L) (e : x.path = y.path) : ∀ z ∈ b0, z ∈ rb ∨ ((∀ w ∈ ra, compareP z.path w.path < 0) ∧ ∀ w ∈ rb, compareP z.path w.path < 0) := fun z hz => by
  rcases h.old z hz with h1 | ⟨h1, h2⟩
  · rcases List.mem_cons.1 h1 with e2 | e2
    · subst e2
      exact .inr ⟨by rw [← e]; exact (List.pairwise_cons.1 h.ia).1, (List.pairwise_cons.1 h.ib).1⟩
    · exact .inl e2
  · exact .inr ⟨fun w hw => h1 w (List.mem_cons_of_mem _ hw), fun w hw => h2 w (List.mem_cons_of_mem _ hw)⟩
theorem DInv.both_lt (h : DInv a0 b0 (x :: ra) (y :: rb) top L) (e : x.path = y.path) {q : List UInt8} (hq : lookE ra q ≠ none ∨ lookE rb q ≠ none) : compareP x.path q < 0 := by
  rcases hq with hq | hq
  · exact left_behind (List.pairwise_cons.1 h.ia).1 hq
  · rw [e]; exact left_behind (List.pairwise_cons.1 h.ib).1 hq
theorem DInv.both_up (h : DInv a0 b0 (x :: ra) (y :: rb) top L) (gb : Good b0) (e : x.path = y.path) (h0 : parent y.path ≠ []) : lookE L (parent y.path) = lookE b0 (parent y.path) := by
  have hn := good_neat gb (lookE_mem gb.inc (h.sb y (List.mem_cons_self ..)))
  have hpl := parent_less hn h0
  refine h.done _ (lookE_not fun z hz e2 => ?_) (lookE_not fun z hz e2 => ?_)
  · rcases List.mem_cons.1 hz with e3 | e3
    · subst e3; rw [← e2, e] at hpl; exact compareP_irrefl _ hpl
    · have := (List.pairwise_cons.1 h.ia).1 z e3
      rw [e2, e] at this
      exact lt_not hpl this
  · rcases List.mem_cons.1 hz with e3 | e3
    · subst e3; rw [← e2] at hpl; exact compareP_irrefl _ hpl
    · have := (List.pairwise_cons.1 h.ib).1 z e3
      rw [e2] at this
      exact lt_not hpl this
theorem DInv.at_both (h : DInv a0 b0 (x :: ra) (y :: rb) top L) (gb : Good b0) (e : x.path = y.path) : lookE L y.path = some x := by
  rw [← e, h.left x.path (.inl (by rw [lookE_cons, if_pos rfl]; simp)), h.seen gb e, lookE_cons, if_pos rfl]
  rfl
theorem DInv.keep (h : DInv a0 b0 (x :: ra) (y :: rb) top L) (gb : Good b0) (e : x = y) : DInv a0 b0 ra rb top L := by
  subst e
  have hp : x.path = x.path := rfl
  refine ⟨h.inc, (List.pairwise_cons.1 h.ia).2, (List.pairwise_cons.1 h.ib).2, fun z hz => h.sa z (List.mem_cons_of_mem _ hz), fun z hz => h.sb z (List.mem_cons_of_mem _ hz), h.both_old hp, fun q hq => ?_, fun q h1 h2 => ?_, fun t ht => ?_, fun t ht z hz hb => h.topB t ht z (List.mem_cons_of_mem _ hz) hb⟩
  · have hqx := lt_ne (h.both_lt hp hq)
    rw [h.left q (by rw [lookE_cons, lookE_cons, if_neg hqx, if_neg hqx]; exact hq), lookE_cons, if_neg hqx]
  · by_cases hq : x.path = q
    · subst hq
      rw [h.at_both gb hp, lookE_mem gb.inc (h.sb x (List.mem_cons_self ..))]
    · exact h.done q (by rw [lookE_cons, if_neg hq]; exact h1) (by rw [lookE_cons, if_neg hq]; exact h2)
  · obtain ⟨h1, h2, h3⟩ := h.topA t ht
    exact ⟨h1, fun z hz => h2 z (List.mem_cons_of_mem _ hz), fun z hz => h3 z (List.mem_cons_of_mem _ hz)⟩
theorem DInv.turn (h : DInv a0 b0 (x :: ra) (y :: rb) top L) (gb : Good b0) (e : x.path = y.path) (hk : alike x y = true) :
    doneL L (layOf y) = .ok (laidL L y) ∧ DInv a0 b0 ra rb top (laidL L y) := by
  have hyb := h.sb y (List.mem_cons_self ..)
  refine ⟨lay_done gb hyb (up_there gb hyb fun h0 => h.both_up gb e h0) (.inr ⟨x, h.at_both gb e, hk⟩), ⟨inc_laid h.inc, (List.pairwise_cons.1 h.ia).2, (List.pairwise_cons.1 h.ib).2, fun z hz => h.sa z (List.mem_cons_of_mem _ hz), fun z hz => h.sb z (List.mem_cons_of_mem _ hz), h.both_old e, fun q hq => ?_, fun q h1 h2 => ?_, fun t ht => ?_, fun t ht z hz hb => h.topB t ht z (List.mem_cons_of_mem _ hz) hb⟩⟩
  · have hqx := lt_ne (h.both_lt e hq)
    have hqy : y.path ≠ q := by rw [← e]; exact hqx
    rw [lookE_laid h.inc, if_neg (Ne.symm hqy), h.left q (by rw [lookE_cons, lookE_cons, if_neg hqx, if_neg hqy]; exact hq), lookE_cons, if_neg hqx]
  · rw [lookE_laid h.inc]
    by_cases hq : q = y.path
    · subst hq
      rw [if_pos rfl, lookE_mem gb.inc hyb]
    · rw [if_neg hq]
      exact h.done q (by rw [lookE_cons, if_neg (by rw [e]; exact Ne.symm hq)]; exact h1) (by rw [lookE_cons, if_neg (Ne.symm hq)]; exact h2)
  · obtain ⟨h1, h2, h3⟩ := h.topA t ht
    exact ⟨h1, fun z hz => h2 z (List.mem_cons_of_mem _ hz), fun z hz => h3 z (List.mem_cons_of_mem _ hz)⟩
theorem DInv.swap (h : DInv a0 b0 (x :: ra) (y :: rb) top L) (ga : Good a0) (gb : Good b0) (e : x.path = y.path) (hk : alike x y = false) :
    doneL L (goneOf x) = .ok (withoutL L x.path) ∧ doneL (withoutL L x.path) (layOf y) = .ok (laidL (withoutL L x.path) y) ∧ DInv a0 b0 ra rb (some x.path) (laidL (withoutL L x.path) y) := by
  have hyb := h.sb y (List.mem_cons_self ..)
  have hxa := h.sa x (List.mem_cons_self ..)
  have hne := good_ne ga hxa
  have hh := h.seen gb e
  have hi : Inc (withoutL L x.path) := List.Pairwise.filter _ h.inc
  have hlx := h.at_both gb e
  rw [← e] at hlx
  have hn := good_neat gb (lookE_mem gb.inc hyb)
  refine ⟨?_, lay_done gb hyb (up_there gb hyb fun h0 => ?_) (.inl ?_), ⟨inc_laid hi, (List.pairwise_cons.1 h.ia).2, (List.pairwise_cons.1 h.ib).2, fun z hz => h.sa z (List.mem_cons_of_mem _ hz), fun z hz => h.sb z (List.mem_cons_of_mem _ hz), h.both_old e, fun q hq => ?_, fun q h1 h2 => ?_, fun t ht => ?_, fun t ht z hz hb => ?_⟩⟩
  · unfold doneL
    rw [if_pos (show (goneOf x).g = true from rfl)]
    show (if x.path = [] then _ else if lookE L x.path = none then _ else _) = _
    rw [if_neg hne, hlx, if_neg (by simp)]
    rfl
  · have hpl := parent_less hn h0
    rw [lookE_without, if_neg, h.both_up gb e h0]
    rintro (h1 | h1)
    · rw [h1, e] at hpl; exact compareP_irrefl _ hpl
    · have := below_less hne h1
      rw [e] at this
      exact lt_not hpl this
  · rw [lookE_without, if_pos (.inl e.symm)]
  · have hlt := h.both_lt e hq
    have hqx := lt_ne hlt
    have hqy : y.path ≠ q := by rw [← e]; exact hqx
    rw [lookE_laid hi, if_neg (Ne.symm hqy), lookE_without]
    by_cases hb : belowP x.path q = true
    · rw [if_pos (.inr hb), if_pos (show hid (some x.path) q = true from hb)]
    · rw [if_neg (fun e => e.elim (fun e => hqx e.symm) hb), if_neg (show ¬ hid (some x.path) q = true from hb)]
      rw [h.left q (by rw [lookE_cons, lookE_cons, if_neg hqx, if_neg hqy]; exact hq), hid_contig (fun t ht => ⟨(h.topA t ht).1, (h.topA t ht).2.1 x (List.mem_cons_self ..)⟩) hh (Int.le_of_lt hlt), lookE_cons, if_neg hqx]
      rfl
  · rw [lookE_laid hi]
    by_cases hq : q = y.path
    · subst hq
      rw [if_pos rfl, lookE_mem gb.inc hyb]
    · rw [if_neg hq, lookE_without]
      by_cases hb : belowP x.path q = true
      · rw [if_pos (.inr hb), h.b_none (Int.le_of_lt (below_less hne hb)) (by rw [lookE_cons, if_neg (Ne.symm hq)]; exact h2)]
      · rw [if_neg (fun e2 => e2.elim (fun e2 => hq (by rw [e2, e])) hb)]
        exact h.done q (by rw [lookE_cons, if_neg (by rw [e]; exact Ne.symm hq)]; exact h1) (by rw [lookE_cons, if_neg (Ne.symm hq)]; exact h2)
  · injection ht with ht
    subst ht
    exact ⟨hne, (List.pairwise_cons.1 h.ia).1, by rw [e]; exact (List.pairwise_cons.1 h.ib).1⟩
  · injection ht with ht
    subst ht
    rintro ⟨f, hf, hfk⟩
    rw [e, lookE_mem gb.inc hyb] at hf
    injection hf with hf
    subst hf
    obtain ⟨c, hc⟩ := (below_pre hne).1 hb
    have hl := lookE_mem ga.inc (h.sa z (List.mem_cons_of_mem _ hz))
    rw [hc] at hl
    obtain ⟨d, hd, hdk⟩ := above_dir ga _ _ _ _ (Nat.le_refl _) hne hl
    rw [lookE_mem ga.inc hxa] at hd
    injection hd with hd
    subst hd
    unfold alike at hk
    rw [decide_eq_true hdk, decide_eq_true hfk] at hk
    cases hk
/-- THE LAW: what is unlike makes the second list of the first one -/
theorem chg_makes (ga : Good a0) (gb : Good b0) : ∀ (f : Nat) (ra rb : List Ent) (top : Option (List UInt8)) (L : List Ent) (i : Nat), ra.length + rb.length ≤ f → DInv a0 b0 ra rb top L → doL L (chgF f ra rb top) i = .ok b0
  | f, [], [], top, L, i, hf, h => by
    have : L = b0 := inc_ext h.inc gb.inc fun q => h.done q rfl rfl
    subst this
    cases f <;> rfl
  | 0, x :: a, rb, top, L, i, hf, h => by simp at hf
  | 0, [], y :: b, top, L, i, hf, h => by simp at hf
  | f + 1, x :: a, [], top, L, i, hf, h => by
    have hx : ∀ y ∈ ([] : List Ent), compareP x.path y.path < 0 := fun y hy => by cases hy
    unfold chgF
    by_cases hh : hid top x.path = true
    · rw [if_pos hh]
      exact chg_makes ga gb f _ _ _ _ _ (by simp at hf ⊢; omega) (h.hide hx hh)
    · rw [if_neg hh]
      obtain ⟨h1, h2⟩ := h.gone ga gb hx (by simpa using hh)
      rw [doL_cons h1]
      exact chg_makes ga gb f _ _ _ _ _ (by simp at hf ⊢; omega) h2
  | f + 1, [], y :: b, top, L, i, hf, h => by
    unfold chgF
    obtain ⟨h1, h2⟩ := h.lay gb (fun x hx => by cases hx)
    rw [doL_cons h1]
    exact chg_makes ga gb f _ _ _ _ _ (by simp at hf ⊢; omega) h2
  | f + 1, x :: a, y :: b, top, L, i, hf, h => by
    unfold chgF
    by_cases c1 : compareP x.path y.path < 0
    · rw [if_pos c1]
      have hx : ∀ z ∈ y :: b, compareP x.path z.path < 0 := fun z hz => by
        rcases List.mem_cons.1 hz with e | e
        · subst e; exact c1
        · exact compareP_trans c1 ((List.pairwise_cons.1 h.ib).1 z e)
      by_cases hh : hid top x.path = true
      · rw [if_pos hh]
        exact chg_makes ga gb f _ _ _ _ _ (by simp at hf ⊢; omega) (h.hide hx hh)
      · rw [if_neg hh]
        obtain ⟨h1, h2⟩ := h.gone ga gb hx (by simpa using hh)
        rw [doL_cons h1]
        exact chg_makes ga gb f _ _ _ _ _ (by simp at hf ⊢; omega) h2
    rw [if_neg c1]
    by_cases c2 : 0 < compareP x.path y.path
    · rw [if_pos c2]
      have c3 : compareP y.path x.path < 0 := by have := compareP_flip x.path y.path; omega
      obtain ⟨h1, h2⟩ := h.lay gb (fun z hz => by
        rcases List.mem_cons.1 hz with e | e
        · subst e; exact c3
        · exact compareP_trans c3 ((List.pairwise_cons.1 h.ia).1 z e))
      rw [doL_cons h1]
      exact chg_makes ga gb f _ _ _ _ _ (by simp at hf ⊢; omega) h2
    rw [if_neg c2]
    have e : x.path = y.path := compareP_zero.1 (by omega)
    by_cases hk : alike x y = true
    · rw [if_pos hk]
      by_cases he : entEq x y = true
      · rw [if_pos he]
        exact chg_makes ga gb f _ _ _ _ _ (by simp at hf ⊢; omega) (h.keep gb (entEq_iff.1 he))
      · rw [if_neg he]
        obtain ⟨h1, h2⟩ := h.turn gb e hk
        rw [doL_cons h1]
        exact chg_makes ga gb f _ _ _ _ _ (by simp at hf ⊢; omega) h2
    · rw [if_neg hk, if_neg (by rw [h.seen gb e]; decide)]
      obtain ⟨h1, h2, h3⟩ := h.swap ga gb e (by simpa using hk)
      rw [doL_cons h1, doL_cons h2]
      exact chg_makes ga gb f _ _ _ _ _ (by simp at hf ⊢; omega) h3
end
theorem DInv.start {a b : List Ent} (ga : Good a) (gb : Good b) : DInv a b a b none a := by
  exact ⟨ga.inc, ga.inc, gb.inc, fun x hx => hx, fun y hy => hy, fun y hy => .inl hy, fun q _ => rfl, fun q h1 h2 => by rw [h1, h2], (fun t ht => by cases ht), (fun t ht => by cases ht)⟩
theorem diff_makes {a b : List Ent} (ga : Good a) (gb : Good b) : doL a (chgL a b) 0 = .ok b := chg_makes ga gb _ _ _ _ _ _ (Nat.le_refl _) (.start ga gb)
end
end Go.Proofs.YtipfccfjniglbaaGreatDoor
namespace Go.Proofs.YtipfccfjniglbaaGreatDoor
section
/-- is a's entry none of b's, or of another sort there? -/
def lostE (b0 : List Ent) (x : Ent) : Bool := match lookE b0 x.path with
  | none => true
  | some y => !alike y x
def goneR (b0 pa : List Ent) (x : Ent) : Bool := lostE b0 x && !(pa.any fun z => belowP z.path x.path && lostE b0 z)
def laidR (a0 : List Ent) (y : Ent) : Bool := match lookE a0 y.path with
  | none => true
  | some x => !entEq x y
def refF (a0 b0 : List Ent) : Nat → List Ent → List Ent → List Ent → List Chg
  | 0, _, _, _ => []
  | _ + 1, _, [], [] => []
  | f + 1, pa, x :: a, [] => (if goneR b0 pa x = true then [goneOf x] else []) ++ refF a0 b0 f (pa ++ [x]) a []
  | f + 1, pa, [], y :: b => (if laidR a0 y = true then [layOf y] else []) ++ refF a0 b0 f pa [] b
  | f + 1, pa, x :: a, y :: b =>
    if compareP x.path y.path < 0 then (if goneR b0 pa x = true then [goneOf x] else []) ++ refF a0 b0 f (pa ++ [x]) a (y :: b)
    else if 0 < compareP x.path y.path then (if laidR a0 y = true then [layOf y] else []) ++ refF a0 b0 f pa (x :: a) b
    else (if goneR b0 pa x = true then [goneOf x] else []) ++ ((if laidR a0 y = true then [layOf y] else []) ++ refF a0 b0 f (pa ++ [x]) a b)
def refL (a b : List Ent) : List Chg := refF a b (a.length + b.length) [] a b
/-- what is left of two lists in order -/
structure ROrd (a0 b0 ra rb : List Ent) : Prop where
  ia : Inc ra
  ib : Inc rb
  sa : ∀ x ∈ ra, x ∈ a0
  sb : ∀ y ∈ rb, y ∈ b0
  olda : ∀ x ∈ a0, x ∈ ra ∨ ((∀ z ∈ ra, compareP x.path z.path < 0) ∧ ∀ z ∈ rb, compareP x.path z.path < 0)
  oldb : ∀ y ∈ b0, y ∈ rb ∨ ((∀ x ∈ ra, compareP y.path x.path < 0) ∧ ∀ z ∈ rb, compareP y.path z.path < 0)
structure RHid (b0 pa ra rb : List Ent) (top : Option (List UInt8)) : Prop where
  topA : ∀ t, top = some t → t ≠ [] ∧ (∀ x ∈ ra, compareP t x.path < 0) ∧ ∀ y ∈ rb, compareP t y.path < 0
  hidI : ∀ q, lookE ra q ≠ none ∨ lookE rb q ≠ none → (hid top q = true ↔ ∃ z ∈ pa, lostE b0 z = true ∧ belowP z.path q = true)
section
variable {a0 b0 pa ra rb rb2 : List Ent} {x y : Ent} {top : Option (List UInt8)}
theorem ROrd.a (h : ROrd a0 b0 (x :: ra) rb) (hx : ∀ y ∈ rb, compareP x.path y.path < 0) : ROrd a0 b0 ra rb := by
  refine ⟨(List.pairwise_cons.1 h.ia).2, h.ib, fun z hz => h.sa z (List.mem_cons_of_mem _ hz), h.sb, fun z hz => ?_, fun z hz => ?_⟩
  · rcases h.olda z hz with h1 | ⟨h1, h2⟩
    · rcases List.mem_cons.1 h1 with e | e
      · subst e; exact .inr ⟨(List.pairwise_cons.1 h.ia).1, hx⟩
      · exact .inl e
    · exact .inr ⟨fun w hw => h1 w (List.mem_cons_of_mem _ hw), h2⟩
  · rcases h.oldb z hz with h1 | ⟨h1, h2⟩
    · exact .inl h1
    · exact .inr ⟨fun w hw => h1 w (List.mem_cons_of_mem _ hw), h2⟩
theorem ROrd.b (h : ROrd a0 b0 ra (y :: rb)) (hy : ∀ x ∈ ra, compareP y.path x.path < 0) : ROrd a0 b0 ra rb := by
  refine ⟨h.ia, (List.pairwise_cons.1 h.ib).2, h.sa, fun z hz => h.sb z (List.mem_cons_of_mem _ hz), fun z hz => ?_, fun z hz => ?_⟩
  · rcases h.olda z hz with h1 | ⟨h1, h2⟩
    · exact .inl h1
    · exact .inr ⟨h1, fun w hw => h2 w (List.mem_cons_of_mem _ hw)⟩
  · rcases h.oldb z hz with h1 | ⟨h1, h2⟩
    · rcases List.mem_cons.1 h1 with e | e
      · subst e; exact .inr ⟨hy, (List.pairwise_cons.1 h.ib).1⟩
      · exact .inl e
    · exact .inr ⟨h1, fun w hw => h2 w (List.mem_cons_of_mem _ hw)⟩
theorem ROrd.ab (h : ROrd a0 b0 (x :: ra) (y :: rb)) (e : x.path = y.path) : ROrd a0 b0 ra rb := by
  have hxa := (List.pairwise_cons.1 h.ia).1
  have hyb := (List.pairwise_cons.1 h.ib).1
  refine ⟨(List.pairwise_cons.1 h.ia).2, (List.pairwise_cons.1 h.ib).2, fun z hz => h.sa z (List.mem_cons_of_mem _ hz), fun z hz => h.sb z (List.mem_cons_of_mem _ hz), fun z hz => ?_, fun z hz => ?_⟩
  · rcases h.olda z hz with h1 | ⟨h1, h2⟩
    · rcases List.mem_cons.1 h1 with e2 | e2
      · subst e2; exact .inr ⟨hxa, by rw [e]; exact hyb⟩
      · exact .inl e2
    · exact .inr ⟨fun w hw => h1 w (List.mem_cons_of_mem _ hw), fun w hw => h2 w (List.mem_cons_of_mem _ hw)⟩
  · rcases h.oldb z hz with h1 | ⟨h1, h2⟩
    · rcases List.mem_cons.1 h1 with e2 | e2
      · subst e2; exact .inr ⟨by rw [← e]; exact hxa, hyb⟩
      · exact .inl e2
    · exact .inr ⟨fun w hw => h1 w (List.mem_cons_of_mem _ hw), fun w hw => h2 w (List.mem_cons_of_mem _ hw)⟩
theorem rest_lt (h : ROrd a0 b0 (x :: ra) rb) (hx : ∀ y ∈ rb2, compareP x.path y.path < 0) {q : List UInt8} (hq : lookE ra q ≠ none ∨ lookE rb2 q ≠ none) : compareP x.path q < 0 := by
  rcases hq with hq | hq
  · exact left_behind (List.pairwise_cons.1 h.ia).1 hq
  · exact left_behind hx hq
theorem look_in (hs : ∀ y ∈ rb2, y ∈ rb) (hb : Inc rb) {q : List UInt8} (hq : lookE rb2 q ≠ none) : lookE rb q ≠ none := by
  cases hl : lookE rb2 q with
  | none => exact absurd hl hq
  | some z =>
    obtain ⟨h1, h2⟩ := lookE_some hl
    rw [← h2, lookE_mem hb (hs z h1)]
    simp
theorem more_left (ho : ROrd a0 b0 (x :: ra) rb) (hs : ∀ y ∈ rb2, y ∈ rb) {q : List UInt8} (hq : lookE ra q ≠ none ∨ lookE rb2 q ≠ none) : lookE (x :: ra) q ≠ none ∨ lookE rb q ≠ none := by
  rcases hq with hq | hq
  · exact .inl (look_in (fun y hy => List.mem_cons_of_mem _ hy) ho.ia hq)
  · exact .inr (look_in hs ho.ib hq)
/-- taken away: it is the top now -/
theorem RHid.gone (h : RHid b0 pa (x :: ra) rb top) (ho : ROrd a0 b0 (x :: ra) rb) (hne : x.path ≠ []) (hs : ∀ y ∈ rb2, y ∈ rb) (hx : ∀ y ∈ rb2, compareP x.path y.path < 0) (hl : lostE b0 x = true) (hh : hid top x.path = false) : RHid b0 (pa ++ [x]) ra rb2 (some x.path) := by
  refine ⟨fun t ht => ?_, fun q hq => ⟨fun hb => ⟨x, by simp, hl, hb⟩, fun ⟨z, hz, hzl, hzb⟩ => ?_⟩⟩
  · injection ht with ht
    subst ht
    exact ⟨hne, (List.pairwise_cons.1 ho.ia).1, hx⟩
  · rcases List.mem_append.1 hz with hz | hz
    · have h1 := (h.hidI q (more_left ho hs hq)).2 ⟨z, hz, hzl, hzb⟩
      have h2 := hid_contig (fun t ht => ⟨(h.topA t ht).1, (h.topA t ht).2.1 x (List.mem_cons_self ..)⟩) hh (Int.le_of_lt (rest_lt ho hx hq))
      rw [h1] at h2
      cases h2
    · rw [List.mem_singleton.1 hz] at hzb
      exact hzb
/-- hidden, or not lost: the top stays -/
theorem RHid.pass (h : RHid b0 pa (x :: ra) rb top) (ho : ROrd a0 b0 (x :: ra) rb) (hne : x.path ≠ []) (hs : ∀ y ∈ rb2, y ∈ rb) (hh : hid top x.path = true ∨ lostE b0 x = false) : RHid b0 (pa ++ [x]) ra rb2 top := by
  refine ⟨fun t ht => ?_, fun q hq => ⟨fun hb => ?_, fun ⟨z, hz, hzl, hzb⟩ => ?_⟩⟩
  · obtain ⟨h1, h2, h3⟩ := h.topA t ht
    exact ⟨h1, fun z hz => h2 z (List.mem_cons_of_mem _ hz), fun z hz => h3 z (hs z hz)⟩
  · obtain ⟨z, hz, h1, h2⟩ := (h.hidI q (more_left ho hs hq)).1 hb
    exact ⟨z, List.mem_append_left _ hz, h1, h2⟩
  · rcases List.mem_append.1 hz with hz | hz
    · exact (h.hidI q (more_left ho hs hq)).2 ⟨z, hz, hzl, hzb⟩
    · rw [List.mem_singleton.1 hz] at hzb hzl
      rcases hh with hh | hh
      · cases top with
        | none => cases hh
        | some t => exact below_trans (h.topA t rfl).1 hne hh hzb
      · rw [hzl] at hh; cases hh
theorem RHid.b (h : RHid b0 pa ra rb top) (hb : Inc rb) (hs : ∀ y ∈ rb2, y ∈ rb) : RHid b0 pa ra rb2 top := by
  refine ⟨fun t ht => ?_, fun q hq => h.hidI q (hq.imp id (look_in hs hb))⟩
  obtain ⟨h1, h2, h3⟩ := h.topA t ht
  exact ⟨h1, h2, fun z hz => h3 z (hs z hz)⟩
theorem RHid.goneR (h : RHid b0 pa (x :: ra) rb top) : goneR b0 pa x = (lostE b0 x && !hid top x.path) := by
  have hi := h.hidI x.path (.inl (by rw [lookE_cons, if_pos rfl]; simp))
  unfold Go.Proofs.YtipfccfjniglbaaGreatDoor.goneR
  congr 2
  cases hh : hid top x.path with
  | true =>
    obtain ⟨z, hz, h1, h2⟩ := hi.1 hh
    rw [List.any_eq_true]
    exact ⟨z, hz, by rw [h1, h2]; rfl⟩
  | false =>
    rw [List.any_eq_false]
    intro z hz h1
    simp at h1
    rw [hi.2 ⟨z, hz, h1.2, h1.1⟩] at hh
    cases hh
theorem ROrd.b_none (h : ROrd a0 b0 (x :: ra) rb) (hx : ∀ y ∈ rb, compareP x.path y.path < 0) : lookE b0 x.path = none := lookE_not fun y hy e => by
  rcases h.oldb y hy with h1 | ⟨h1, _⟩
  · have := hx y h1
    rw [e] at this
    exact compareP_irrefl _ this
  · have := h1 x (List.mem_cons_self ..)
    rw [e] at this
    exact compareP_irrefl _ this
theorem ROrd.a_none (h : ROrd a0 b0 ra (y :: rb)) (hy : ∀ x ∈ ra, compareP y.path x.path < 0) : lookE a0 y.path = none := lookE_not fun x hx e => by
  rcases h.olda x hx with h1 | ⟨_, h1⟩
  · have := hy x h1
    rw [e] at this
    exact compareP_irrefl _ this
  · have := h1 y (List.mem_cons_self ..)
    rw [e] at this
    exact compareP_irrefl _ this
theorem alike_comm (x y : Ent) : alike x y = alike y x := by unfold alike; exact Bool.beq_comm
/-- THE LAW: the reference says what the program says -/
theorem ref_chg (ga : Good a0) (gb : Good b0) : ∀ (f : Nat) (pa ra rb : List Ent) (top : Option (List UInt8)), ROrd a0 b0 ra rb → RHid b0 pa ra rb top → refF a0 b0 f pa ra rb = chgF f ra rb top
  | 0, pa, ra, rb, top, ho, h => by unfold refF chgF; rfl
  | f + 1, pa, [], [], top, ho, h => by unfold refF chgF; rfl
  | f + 1, pa, x :: a, [], top, ho, h => by
    have hx : ∀ y ∈ ([] : List Ent), compareP x.path y.path < 0 := fun y hy => by cases hy
    have hne := good_ne ga (ho.sa x (List.mem_cons_self ..))
    have hl : lostE b0 x = true := by unfold lostE; rw [ho.b_none hx]
    unfold refF chgF
    rw [h.goneR, hl]
    cases hh : hid top x.path with
    | true =>
      rw [ref_chg ga gb f _ _ _ _ (ho.a hx) (h.pass ho hne (fun y hy => hy) (.inl hh))]
      simp
    | false =>
      rw [ref_chg ga gb f _ _ _ _ (ho.a hx) (h.gone ho hne (fun y hy => hy) hx hl hh)]
      simp
  | f + 1, pa, [], y :: b, top, ho, h => by
    have hy : ∀ x ∈ ([] : List Ent), compareP y.path x.path < 0 := fun x hx => by cases hx
    have hl : laidR a0 y = true := by unfold laidR; rw [ho.a_none hy]
    unfold refF chgF
    rw [hl, ref_chg ga gb f _ _ _ _ (ho.b hy) (h.b ho.ib (fun z hz => List.mem_cons_of_mem _ hz))]
    simp
  | f + 1, pa, x :: a, y :: b, top, ho, h => by
    have hne := good_ne ga (ho.sa x (List.mem_cons_self ..))
    unfold refF chgF
    by_cases c1 : compareP x.path y.path < 0
    · rw [if_pos c1, if_pos c1]
      have hx : ∀ z ∈ y :: b, compareP x.path z.path < 0 := fun z hz => by
        rcases List.mem_cons.1 hz with e | e
        · subst e; exact c1
        · exact compareP_trans c1 ((List.pairwise_cons.1 ho.ib).1 z e)
      have hl : lostE b0 x = true := by unfold lostE; rw [ho.b_none hx]
      rw [h.goneR, hl]
      cases hh : hid top x.path with
      | true =>
        rw [ref_chg ga gb f _ _ _ _ (ho.a hx) (h.pass ho hne (fun y hy => hy) (.inl hh))]
        simp
      | false =>
        rw [ref_chg ga gb f _ _ _ _ (ho.a hx) (h.gone ho hne (fun y hy => hy) hx hl hh)]
        simp
    rw [if_neg c1, if_neg c1]
    by_cases c2 : 0 < compareP x.path y.path
    · rw [if_pos c2, if_pos c2]
      have c3 : compareP y.path x.path < 0 := by have := compareP_flip x.path y.path; omega
      have hy : ∀ z ∈ x :: a, compareP y.path z.path < 0 := fun z hz => by
        rcases List.mem_cons.1 hz with e | e
        · subst e; exact c3
        · exact compareP_trans c3 ((List.pairwise_cons.1 ho.ia).1 z e)
      have hl : laidR a0 y = true := by unfold laidR; rw [ho.a_none hy]
      rw [hl, ref_chg ga gb f _ _ _ _ (ho.b hy) (h.b ho.ib (fun z hz => List.mem_cons_of_mem _ hz))]
      simp
    rw [if_neg c2, if_neg c2]
    have e : x.path = y.path := compareP_zero.1 (by omega)
    have hbs : ∀ z ∈ b, z ∈ y :: b := fun z hz => List.mem_cons_of_mem _ hz
    have hxb : ∀ z ∈ b, compareP x.path z.path < 0 := by rw [e]; exact (List.pairwise_cons.1 ho.ib).1
    have hly : lookE a0 y.path = some x := by rw [← e]; exact lookE_mem ga.inc (ho.sa x (List.mem_cons_self ..))
    have hlx : lookE b0 x.path = some y := by rw [e]; exact lookE_mem gb.inc (ho.sb y (List.mem_cons_self ..))
    have hl : lostE b0 x = !alike x y := by unfold lostE; rw [hlx, alike_comm]
    have hr : laidR a0 y = !entEq x y := by unfold laidR; rw [hly]
    rw [h.goneR, hl, hr]
    cases hk : alike x y with
    | true =>
      rw [ref_chg ga gb f _ _ _ _ (ho.ab e) (h.pass ho hne hbs (.inr (by rw [hl, hk]; rfl)))]
      cases he : entEq x y <;> simp
    | false =>
      have he : entEq x y = false := by
        cases he : entEq x y with
        | false => rfl
        | true =>
          have := entEq_iff.1 he
          subst this
          unfold alike at hk
          simp at hk
      rw [he]
      cases hh : hid top x.path with
      | true =>
        rw [ref_chg ga gb f _ _ _ _ (ho.ab e) (h.pass ho hne hbs (.inl hh))]
        simp
      | false =>
        rw [ref_chg ga gb f _ _ _ _ (ho.ab e) (h.gone ho hne hbs hxb (by rw [hl, hk]; rfl) hh)]
        simp
theorem ROrd.start {a b : List Ent} (ga : Good a) (gb : Good b) : ROrd a b a b := ⟨ga.inc, gb.inc, fun x hx => hx, fun x hx => hx, fun x hx => .inl hx, fun x hx => .inl hx⟩
theorem refL_chg {a b : List Ent} (ga : Good a) (gb : Good b) : refL a b = chgL a b := by
  unfold refL chgL
  exact ref_chg ga gb _ _ _ _ _ (.start ga gb) ⟨(fun t ht => by cases ht), fun q hq => ⟨(fun h => by cases h), fun ⟨z, hz, _⟩ => by cases hz⟩⟩
/- the form -/
theorem chg_from : ∀ (f : Nat) (ra rb : List Ent) (top : Option (List UInt8)), ∀ c ∈ chgF f ra rb top, (c.g = true ∧ ∃ x ∈ ra, c = goneOf x) ∨ (c.g = false ∧ ∃ y ∈ rb, c = layOf y)
  | 0, ra, rb, top, c, hc => by unfold chgF at hc; cases hc
  | f + 1, [], [], top, c, hc => by unfold chgF at hc; cases hc
  | f + 1, x :: a, [], top, c, hc => by
    have up : ∀ top, c ∈ chgF f a [] top → (c.g = true ∧ ∃ z ∈ x :: a, c = goneOf z) ∨ (c.g = false ∧ ∃ y ∈ ([] : List Ent), c = layOf y) := fun top h => by
      rcases chg_from f a [] top c h with ⟨h1, z, h2, h3⟩ | h
      · exact .inl ⟨h1, z, List.mem_cons_of_mem _ h2, h3⟩
      · exact .inr h
    unfold chgF at hc
    split at hc
    · exact up _ hc
    · rcases List.mem_cons.1 hc with e | e
      · exact .inl ⟨by rw [e]; rfl, x, List.mem_cons_self .., e⟩
      · exact up _ e
  | f + 1, [], y :: b, top, c, hc => by
    unfold chgF at hc
    rcases List.mem_cons.1 hc with e | e
    · exact .inr ⟨by rw [e]; rfl, y, List.mem_cons_self .., e⟩
    · rcases chg_from f [] b top c e with ⟨h1, z, h2, h3⟩ | ⟨h1, z, h2, h3⟩
      · cases h2
      · exact .inr ⟨h1, z, List.mem_cons_of_mem _ h2, h3⟩
  | f + 1, x :: a, y :: b, top, c, hc => by
    have up : ∀ (ra rb : List Ent) (top : Option (List UInt8)), (∀ z ∈ ra, z ∈ x :: a) → (∀ z ∈ rb, z ∈ y :: b) → c ∈ chgF f ra rb top → (c.g = true ∧ ∃ z ∈ x :: a, c = goneOf z) ∨ (c.g = false ∧ ∃ z ∈ y :: b, c = layOf z) := fun ra rb top h1 h2 h => by
      rcases chg_from f ra rb top c h with ⟨h3, z, h4, h5⟩ | ⟨h3, z, h4, h5⟩
      · exact .inl ⟨h3, z, h1 z h4, h5⟩
      · exact .inr ⟨h3, z, h2 z h4, h5⟩
    have gx : c = goneOf x → (c.g = true ∧ ∃ z ∈ x :: a, c = goneOf z) ∨ (c.g = false ∧ ∃ z ∈ y :: b, c = layOf z) := fun e => .inl ⟨by rw [e]; rfl, x, List.mem_cons_self .., e⟩
    have ly : c = layOf y → (c.g = true ∧ ∃ z ∈ x :: a, c = goneOf z) ∨ (c.g = false ∧ ∃ z ∈ y :: b, c = layOf z) := fun e => .inr ⟨by rw [e]; rfl, y, List.mem_cons_self .., e⟩
    have ta : ∀ z ∈ a, z ∈ x :: a := fun z hz => List.mem_cons_of_mem _ hz
    have tb : ∀ z ∈ b, z ∈ y :: b := fun z hz => List.mem_cons_of_mem _ hz
    unfold chgF at hc
    split at hc
    · split at hc
      · exact up _ _ _ ta (fun z hz => hz) hc
      · rcases List.mem_cons.1 hc with e | e
        · exact gx e
        · exact up _ _ _ ta (fun z hz => hz) e
    split at hc
    · rcases List.mem_cons.1 hc with e | e
      · exact ly e
      · exact up _ _ _ (fun z hz => hz) tb e
    split at hc
    · split at hc
      · exact up _ _ _ ta tb hc
      · rcases List.mem_cons.1 hc with e | e
        · exact ly e
        · exact up _ _ _ ta tb e
    split at hc
    · rcases List.mem_cons.1 hc with e | e
      · exact ly e
      · exact up _ _ _ ta tb e
    · rcases List.mem_cons.1 hc with e | e
      · exact gx e
      · rcases List.mem_cons.1 e with e | e
        · exact ly e
        · exact up _ _ _ ta tb e
theorem chg_len : ∀ (f : Nat) (ra rb : List Ent) (top : Option (List UInt8)), (chgF f ra rb top).length ≤ ra.length + rb.length
  | 0, ra, rb, top => by unfold chgF; simp
  | f + 1, [], [], top => by unfold chgF; simp
  | f + 1, x :: a, [], top => by
    have h1 := chg_len f a [] top
    have h2 := chg_len f a [] (some x.path)
    unfold chgF
    split <;> simp at * <;> omega
  | f + 1, [], y :: b, top => by
    have h1 := chg_len f [] b top
    unfold chgF
    simp at *
    omega
  | f + 1, x :: a, y :: b, top => by
    have h1 := chg_len f a (y :: b) top
    have h2 := chg_len f a (y :: b) (some x.path)
    have h3 := chg_len f (x :: a) b top
    have h4 := chg_len f a b top
    have h5 := chg_len f a b (some x.path)
    unfold chgF
    repeat (first | (simp at *; omega) | split)
/-- one change ahead of another: in order; at one path the one that is gone first; nothing that is gone below what is gone -/
def CRel (c d : Chg) : Prop := (compareP c.path d.path < 0 ∨ (c.path = d.path ∧ c.g = true ∧ d.g = false)) ∧ (c.g = true → d.g = true → belowP c.path d.path = false)
theorem chg_shown : ∀ (f : Nat) (ra rb : List Ent) (top : Option (List UInt8)), Inc ra → Inc rb → (∀ t, top = some t → t ≠ [] ∧ (∀ x ∈ ra, compareP t x.path < 0)) → (∀ x ∈ ra, x.path ≠ []) → ∀ c ∈ chgF f ra rb top, c.g = true → hid top c.path = false
  | 0, ra, rb, top, ia, ib, ht, hn, c, hc, hg => by unfold chgF at hc; cases hc
  | f + 1, [], rb, top, ia, ib, ht, hn, c, hc, hg => by
    rcases chg_from _ _ _ _ c hc with ⟨_, x, hx, _⟩ | ⟨h, _⟩
    · cases hx
    · rw [hg] at h; cases h
  | f + 1, x :: a, rb, top, ia, ib, ht, hn, c, hc, hg => by
    have hxa := (List.pairwise_cons.1 ia).1
    have ia2 := (List.pairwise_cons.1 ia).2
    have hn2 : ∀ z ∈ a, z.path ≠ [] := fun z hz => hn z (List.mem_cons_of_mem _ hz)
    have ht2 : ∀ t, top = some t → t ≠ [] ∧ (∀ z ∈ a, compareP t z.path < 0) := fun t h => ⟨(ht t h).1, fun z hz => (ht t h).2 z (List.mem_cons_of_mem _ hz)⟩
    have htx : ∀ t, some x.path = some t → t ≠ [] ∧ (∀ z ∈ a, compareP t z.path < 0) := fun t h => by
      injection h with h
      subst h
      exact ⟨hn x (List.mem_cons_self ..), hxa⟩
    have hx : ∀ rb2, c ∈ chgF f a rb2 (some x.path) → hid top x.path = false → hid top c.path = false := fun rb2 h hh => by
      rcases chg_from _ _ _ _ c h with ⟨_, z, hz, he⟩ | ⟨h1, _⟩
      · rw [he]
        exact hid_contig (fun t h => ⟨(ht t h).1, (ht t h).2 x (List.mem_cons_self ..)⟩) hh (Int.le_of_lt (hxa z hz))
      · rw [hg] at h1; cases h1
    have hgx : c = goneOf x → hid top x.path = false → hid top c.path = false := fun e h => by rw [e]; exact h
    cases rb with
    | nil =>
      unfold chgF at hc
      split at hc
      · exact chg_shown f _ _ _ ia2 ib ht2 hn2 c hc hg
      · rename_i hh
        rcases List.mem_cons.1 hc with e | e
        · exact hgx e (by simpa using hh)
        · exact hx _ e (by simpa using hh)
    | cons y b =>
      have ib2 := (List.pairwise_cons.1 ib).2
      have hly : c ≠ layOf y := fun e => by rw [e] at hg; cases hg
      unfold chgF at hc
      split at hc
      · split at hc
        · exact chg_shown f _ _ _ ia2 ib ht2 hn2 c hc hg
        · rename_i hh
          rcases List.mem_cons.1 hc with e | e
          · exact hgx e (by simpa using hh)
          · exact hx _ e (by simpa using hh)
      split at hc
      · rcases List.mem_cons.1 hc with e | e
        · exact absurd e hly
        · exact chg_shown f _ _ _ ia ib2 ht hn c e hg
      split at hc
      · split at hc
        · exact chg_shown f _ _ _ ia2 ib2 ht2 hn2 c hc hg
        · rcases List.mem_cons.1 hc with e | e
          · exact absurd e hly
          · exact chg_shown f _ _ _ ia2 ib2 ht2 hn2 c e hg
      split at hc
      · rcases List.mem_cons.1 hc with e | e
        · exact absurd e hly
        · exact chg_shown f _ _ _ ia2 ib2 ht2 hn2 c e hg
      · rename_i hh
        rcases List.mem_cons.1 hc with e | e
        · exact hgx e (by simpa using hh)
        · rcases List.mem_cons.1 e with e | e
          · exact absurd e hly
          · exact hx _ e (by simpa using hh)
theorem chg_behind {p : List UInt8} {f : Nat} {ra rb : List Ent} {top : Option (List UInt8)} (ha : ∀ x ∈ ra, compareP p x.path < 0) (hb : ∀ y ∈ rb, compareP p y.path < 0) : ∀ c ∈ chgF f ra rb top, compareP p c.path < 0 := fun c hc => by
  rcases chg_from _ _ _ _ c hc with ⟨_, x, hx, he⟩ | ⟨_, y, hy, he⟩
  · rw [he]; exact ha x hx
  · rw [he]; exact hb y hy
theorem chg_form : ∀ (f : Nat) (ra rb : List Ent) (top : Option (List UInt8)), Inc ra → Inc rb → (∀ x ∈ ra, x.path ≠ []) → (chgF f ra rb top).Pairwise CRel
  | 0, ra, rb, top, ia, ib, hn => by unfold chgF; exact List.Pairwise.nil
  | f + 1, [], [], top, ia, ib, hn => by unfold chgF; exact List.Pairwise.nil
  | f + 1, x :: a, [], top, ia, ib, hn => by
    have hxa := (List.pairwise_cons.1 ia).1
    have ia2 := (List.pairwise_cons.1 ia).2
    have hn2 : ∀ z ∈ a, z.path ≠ [] := fun z hz => hn z (List.mem_cons_of_mem _ hz)
    unfold chgF
    split
    · exact chg_form f _ _ _ ia2 ib hn2
    · refine List.pairwise_cons.2 ⟨fun c hc => ⟨.inl (chg_behind hxa (fun y hy => by cases hy) c hc), fun _ hg => ?_⟩, chg_form f _ _ _ ia2 ib hn2⟩
      exact chg_shown f _ _ _ ia2 ib (fun t ht => by injection ht with ht; subst ht; exact ⟨hn x (List.mem_cons_self ..), hxa⟩) hn2 c hc hg
  | f + 1, [], y :: b, top, ia, ib, hn => by
    unfold chgF
    exact List.pairwise_cons.2 ⟨fun c hc => ⟨.inl (chg_behind (fun y hy => by cases hy) (List.pairwise_cons.1 ib).1 c hc), fun h => by cases h⟩, chg_form f _ _ _ ia (List.pairwise_cons.1 ib).2 hn⟩
  | f + 1, x :: a, y :: b, top, ia, ib, hn => by
    have hxa := (List.pairwise_cons.1 ia).1
    have ia2 := (List.pairwise_cons.1 ia).2
    have hyb := (List.pairwise_cons.1 ib).1
    have ib2 := (List.pairwise_cons.1 ib).2
    have hne := hn x (List.mem_cons_self ..)
    have hn2 : ∀ z ∈ a, z.path ≠ [] := fun z hz => hn z (List.mem_cons_of_mem _ hz)
    have htx : ∀ t, some x.path = some t → t ≠ [] ∧ (∀ z ∈ a, compareP t z.path < 0) := fun t h => by
      injection h with h
      subst h
      exact ⟨hne, hxa⟩
    unfold chgF
    by_cases c1 : compareP x.path y.path < 0
    · rw [if_pos c1]
      have hx : ∀ z ∈ y :: b, compareP x.path z.path < 0 := fun z hz => by
        rcases List.mem_cons.1 hz with e | e
        · subst e; exact c1
        · exact compareP_trans c1 (hyb z e)
      split
      · exact chg_form f _ _ _ ia2 ib hn2
      · refine List.pairwise_cons.2 ⟨fun c hc => ⟨.inl (chg_behind hxa hx c hc), fun _ hg => ?_⟩, chg_form f _ _ _ ia2 ib hn2⟩
        exact chg_shown f _ _ _ ia2 ib htx hn2 c hc hg
    rw [if_neg c1]
    by_cases c2 : 0 < compareP x.path y.path
    · rw [if_pos c2]
      have c3 : compareP y.path x.path < 0 := by have := compareP_flip x.path y.path; omega
      have hy : ∀ z ∈ x :: a, compareP y.path z.path < 0 := fun z hz => by
        rcases List.mem_cons.1 hz with e | e
        · subst e; exact c3
        · exact compareP_trans c3 (hxa z e)
      exact List.pairwise_cons.2 ⟨fun c hc => ⟨.inl (chg_behind hy hyb c hc), fun h => by cases h⟩, chg_form f _ _ _ ia ib2 hn⟩
    rw [if_neg c2]
    have e : x.path = y.path := compareP_zero.1 (by omega)
    have hya : ∀ z ∈ a, compareP y.path z.path < 0 := by rw [← e]; exact hxa
    have hxb : ∀ z ∈ b, compareP x.path z.path < 0 := by rw [e]; exact hyb
    have one : ∀ top, (layOf y :: chgF f a b top).Pairwise CRel := fun top =>
      List.pairwise_cons.2 ⟨fun c hc => ⟨.inl (chg_behind hya hyb c hc), fun h => by cases h⟩, chg_form f _ _ _ ia2 ib2 hn2⟩
    split
    · split
      · exact chg_form f _ _ _ ia2 ib2 hn2
      · exact one _
    split
    · exact one _
    · refine List.pairwise_cons.2 ⟨fun c hc => ?_, one _⟩
      rcases List.mem_cons.1 hc with e2 | hc
      · subst e2
        exact ⟨.inr ⟨e, rfl, rfl⟩, fun _ h => by cases h⟩
      · exact ⟨.inl (chg_behind hxa hxb c hc), fun _ hg => chg_shown f _ _ _ ia2 ib2 htx hn2 c hc hg⟩
end
theorem chgL_form {a b : List Ent} (ga : Good a) (gb : Good b) : (chgL a b).Pairwise CRel := chg_form _ _ _ _ ga.inc gb.inc (fun x hx => good_ne ga hx)
/-- there is nothing unlike just where they are the same -/
theorem chgL_none {a b : List Ent} (ga : Good a) (gb : Good b) : chgL a b = [] ↔ a = b := by
  constructor
  · intro h
    have := diff_makes ga gb
    rw [h] at this
    injection this
  · intro h
    subst h
    unfold chgL
    generalize a.length + a.length = f
    have : ∀ (f : Nat) (l : List Ent) (top : Option (List UInt8)), chgF f l l top = [] := by
      intro f
      induction f with
      | zero => intro l top; unfold chgF; rfl
      | succ f ih =>
        intro l top
        cases l with
        | nil => unfold chgF; rfl
        | cons x r =>
          unfold chgF
          have h0 : compareP x.path x.path = 0 := compareP_zero.2 rfl
          rw [if_neg (by omega), if_neg (by omega), if_pos (by unfold alike; simp), if_pos (entEq_iff.2 rfl)]
          exact ih r top
    exact this f a none
end
end Go.Proofs.YtipfccfjniglbaaGreatDoor
namespace Go.Proofs.YtipfccfjniglbaaGreatDoor
section
/-- entries that are a tree but for its size -/
structure Pre (l : List Ent) : Prop where
  it : ∀ e ∈ l, itselfNo e = 0
  up : ∀ e ∈ l, upNo l e.path = 0
  inc : l.Pairwise (fun a b => compareP a.path b.path < 0)
theorem Good.pre {l : List Ent} (h : Good l) : Pre l := ⟨h.it, h.up, h.inc⟩
theorem Pre.good {l : List Ent} (h : Pre l) (h1 : l.length ≤ 4096) (h2 : bytesE l ≤ 16777216) : Good l := ⟨h.it, h.up, h.inc, h1, h2⟩
theorem Pre.laid {l : List Ent} (h : Pre l) {e : Ent} (h1 : itselfNo e = 0) (h2 : upNo l e.path = 0) (hp : ∀ x, lookE l e.path = some x → alike x e = true) : Pre (laidL l e) := by
  have hne := (checkNo_neat (itselfNo_check h1)).ne
  have hup : ∀ x : Ent, upNo l x.path = 0 → (x = e ∨ x ∈ l) → upNo (laidL l e) x.path = 0 := by
    intro x hx hxe
    unfold upNo at hx ⊢
    by_cases h0 : parent x.path = []
    · rw [if_pos h0]
    rw [if_neg h0] at hx ⊢
    rw [lookE_laid h.inc]
    by_cases hq : parent x.path = e.path
    · rw [if_pos hq]
      rw [hq] at hx
      rcases hxe with rfl | hxl
      · have := parent_shorter hne
        rw [hq] at this
        omega
      · cases hl : lookE l e.path with
        | none => rw [hl] at hx; cases hx
        | some z =>
          rw [hl] at hx
          have hp := hp z hl
          have hz : z.k = 1 := by
            by_cases hk : z.k = 1
            · exact hk
            · simp [hk] at hx
          have he : e.k = 1 := by
            unfold alike at hp
            rw [decide_eq_true hz] at hp
            simpa using hp
          simp [he]
    · rw [if_neg hq]
      exact hx
  refine ⟨fun x hx => ?_, fun x hx => ?_, inc_laid h.inc⟩
  · rcases (mem_laid h.inc).1 hx with rfl | ⟨h3, _⟩
    · exact h1
    · exact h.it x h3
  · rcases (mem_laid h.inc).1 hx with rfl | ⟨h3, _⟩
    · exact hup _ h2 (.inl rfl)
    · exact hup x (h.up x h3) (.inr h3)
theorem Pre.without {l : List Ent} (h : Pre l) {p : List UInt8} (hp : p ≠ []) : Pre (withoutL l p) := by
  have hsub : ∀ x, x ∈ withoutL l p → x ∈ l ∧ keepE p x = true := fun x hx => List.mem_filter.1 hx
  have hinc : Inc (withoutL l p) := List.Pairwise.filter _ h.inc
  refine ⟨fun x hx => h.it x (hsub x hx).1, fun x hx => ?_, hinc⟩
  · obtain ⟨h1, h2⟩ := hsub x hx
    have hu := h.up x h1
    have hnx := checkNo_neat (itselfNo_check (h.it x h1))
    unfold upNo at hu ⊢
    by_cases h0 : parent x.path = []
    · rw [if_pos h0]
    rw [if_neg h0] at hu ⊢
    cases hl : lookE l (parent x.path) with
    | none => rw [hl] at hu; cases hu
    | some z =>
      rw [hl] at hu
      obtain ⟨hz, hzp⟩ := lookE_some hl
      have hk : keepE p z = true := by
        cases hkz : keepE p z with
        | true => rfl
        | false =>
          exfalso
          have : belowP p x.path = true := by
            rw [below_under hp]
            have hux : Under z.path x.path := under_kid hnx hzp.symm
            rcases keepE_false.1 hkz with e | e
            · rw [← e]; exact hux
            · exact under_trans (by rw [hzp]; exact h0) ((below_under hp).1 e) hux
          rw [keepE_false.2 (.inr this)] at h2
          cases h2
      rw [← hzp, lookE_mem hinc (List.mem_filter.2 ⟨hz, hk⟩)]
      exact hu
theorem doneL_pre {L L' : List Ent} {c : Chg} (h : Pre L) (hd : doneL L c = .ok L') : Pre L' := by
  unfold doneL at hd
  split at hd
  · split at hd
    · cases hd
    rename_i hne
    split at hd
    · cases hd
    injection hd with hd
    subst hd
    exact h.without hne
  split at hd
  · cases hd
  rename_i hp
  have hp : c.e.path = c.path := Classical.not_not.1 hp
  split at hd
  · cases hd
  split at hd
  · cases hd
  have h1 : itselfNo c.e = 0 := by omega
  have h2 : upNo L c.e.path = 0 := by rw [hp]; omega
  cases hl : lookE L c.path with
  | none =>
    rw [hl] at hd
    injection hd with hd
    subst hd
    exact h.laid h1 h2 (fun x hx => by rw [hp, hl] at hx; cases hx)
  | some x =>
    rw [hl] at hd
    simp only [] at hd
    split at hd
    · rename_i hk
      injection hd with hd
      subst hd
      exact h.laid h1 h2 (fun z hz => by rw [hp, hl] at hz; injection hz with hz; subst hz; exact hk)
    · cases hd
theorem doL_pre : ∀ {l : List Chg} {L L' : List Ent} {i : Nat}, Pre L → doL L l i = .ok L' → Pre L'
  | [], L, L', i, h, hd => by
    injection hd with hd
    subst hd
    exact h
  | c :: r, L, L', i, h, hd => by
    unfold doL at hd
    cases hc : doneL L c with
    | error n => rw [hc] at hd; cases hd
    | ok L1 =>
      rw [hc] at hd
      exact doL_pre (doneL_pre h hc) hd
/-- what Apply answers: what comes out, or the error, its line and its place -/
def applyL (t : List Ent) (l : List Chg) : Except (Nat × Nat × Nat) (List Ent) :=
  if (checkL t).1 ≠ 0 then .error ((checkL t).1, 0, (checkL t).2)
  else match doL t l 0 with
    | .error (n, i) => .error (n, 1, i)
    | .ok L => if 4096 < L.length ∨ 16777216 < bytesE L then .error (5, 1, l.length) else .ok L
theorem applyL_good {t u : List Ent} {l : List Chg} (hg : (checkL t).1 = 0 → Good t) (h : applyL t l = .ok u) : Good t ∧ Good u := by
  unfold applyL at h
  split at h
  · cases h
  have ht := hg (by omega)
  refine ⟨ht, ?_⟩
  cases hd : doL t l 0 with
  | error x => rw [hd] at h; cases h
  | ok L =>
    rw [hd] at h
    simp only [] at h
    split at h
    · cases h
    · injection h with h
      subst h
      exact (doL_pre ht.pre hd).good (by omega) (by omega)
theorem applyL_diff {a b : List Ent} (hc : (checkL a).1 = 0) (ga : Good a) (gb : Good b) : applyL a (chgL a b) = .ok b := by
  unfold applyL
  rw [if_neg (by omega), diff_makes ga gb]
  have h1 := gb.len
  have h2 := gb.byt
  simp only []
  rw [if_neg (by omega)]
end
end Go.Proofs.YtipfccfjniglbaaGreatDoor
namespace Go.Proofs.YtipfccfjniglbaaGreatDoor
section
/-- how many entries come ahead of a path -/
def posL (L : List Ent) (p : List UInt8) : Nat := L.countP fun x => decide (compareP x.path p < 0)
theorem posL_cons (x : Ent) (L : List Ent) (p : List UInt8) : posL (x :: L) p = posL L p + if compareP x.path p < 0 then 1 else 0 := by
  unfold posL
  rw [List.countP_cons]
  simp
theorem posL_le (L : List Ent) (p : List UInt8) : posL L p ≤ L.length := List.countP_le_length
/-- the first i come ahead, the others do not -/
theorem posL_at {p : List UInt8} : ∀ (L : List Ent) (i : Nat), i ≤ L.length → (∀ t x, t < i → L[t]? = some x → compareP x.path p < 0) → (∀ t x, i ≤ t → L[t]? = some x → ¬ compareP x.path p < 0) → posL L p = i
  | [], i, h, _, _ => by simp at h; simp [posL, h]
  | a :: r, 0, _, _, h2 => by
    have h3 : posL r p = 0 := posL_at r 0 (Nat.zero_le _) (fun t x h => absurd h (Nat.not_lt_zero _)) fun t x _ h => h2 (t + 1) x (Nat.zero_le _) (by simpa using h)
    rw [posL_cons, h3, if_neg (h2 0 a (Nat.le_refl _) rfl)]
  | a :: r, i + 1, h, h1, h2 => by
    have h3 : posL r p = i := posL_at r i (by simpa using h) (fun t x ht hx => h1 (t + 1) x (by omega) (by simpa using hx)) fun t x ht hx => h2 (t + 1) x (by omega) (by simpa using hx)
    rw [posL_cons, h3, if_pos (h1 0 a (by omega) rfl)]
theorem inc_get {L : List Ent} (h : Inc L) {i j : Nat} {x y : Ent} (hij : i < j) (hx : L[i]? = some x) (hy : L[j]? = some y) : compareP x.path y.path < 0 := by
  obtain ⟨h1, e1⟩ := List.getElem?_eq_some_iff.1 hx
  obtain ⟨h2, e2⟩ := List.getElem?_eq_some_iff.1 hy
  have := List.pairwise_iff_getElem.1 h i j h1 h2 hij
  rw [e1, e2] at this
  exact this
/-- is the path there -/
def hasL (L : List Ent) (p : List UInt8) : Bool := match L[posL L p]? with
  | some x => decide (compareP x.path p = 0)
  | none => false
theorem inc_head {x : Ent} {L : List Ent} (h : Inc (x :: L)) : ∀ y ∈ L, compareP x.path y.path < 0 := (List.pairwise_cons.1 h).1
theorem inc_rest {x : Ent} {L : List Ent} (h : Inc (x :: L)) : Inc L := (List.pairwise_cons.1 h).2
theorem behind {x : Ent} {L : List Ent} {p : List UInt8} (h : Inc (x :: L)) (hx : ¬ compareP x.path p < 0) : ∀ y ∈ L, compareP p y.path < 0 := fun y hy => by
  have h1 := inc_head h y hy
  have h2 := compareP_flip x.path p
  rcases Int.lt_or_eq_of_le (Int.not_lt.1 hx) with h3 | h3
  · exact compareP_trans (by omega) h1
  · rw [← compareP_zero.1 h3.symm]; exact h1
theorem posL_zero {x : Ent} {L : List Ent} {p : List UInt8} (h : Inc (x :: L)) (hx : ¬ compareP x.path p < 0) : posL (x :: L) p = 0 := by
  rw [posL_cons, if_neg hx]
  unfold posL
  rw [Nat.add_zero, List.countP_eq_zero]
  intro y hy
  have h1 := behind h hx y hy
  have h2 := compareP_flip p y.path
  simp
  omega
theorem posL_succ {x : Ent} {L : List Ent} {p : List UInt8} (hx : compareP x.path p < 0) : posL (x :: L) p = posL L p + 1 := by rw [posL_cons, if_pos hx]
theorem hasL_succ {x : Ent} {L : List Ent} {p : List UInt8} (hx : compareP x.path p < 0) : hasL (x :: L) p = hasL L p := by
  unfold hasL
  rw [posL_succ hx]
  simp
theorem hasL_zero {x : Ent} {L : List Ent} {p : List UInt8} (h : Inc (x :: L)) (hx : ¬ compareP x.path p < 0) : hasL (x :: L) p = decide (x.path = p) := by
  unfold hasL
  rw [posL_zero h hx]
  simp [compareP_zero]
theorem hasL_look {p : List UInt8} : ∀ {L : List Ent}, Inc L → hasL L p = (lookE L p).isSome
  | [], _ => rfl
  | x :: L, h => by
    rw [lookE_cons]
    by_cases hx : compareP x.path p < 0
    · rw [hasL_succ hx, if_neg (lt_ne hx)]
      exact hasL_look (inc_rest h)
    · rw [hasL_zero h hx]
      by_cases e : x.path = p
      · simp [e]
      · rw [if_neg e, lookE_not (fun y hy => (lt_ne (behind h hx y hy)).symm)]
        simp [e]
theorem look_pos {p : List UInt8} {z : Ent} : ∀ {L : List Ent}, Inc L → lookE L p = some z → L[posL L p]? = some z
  | [], _, h => by cases h
  | x :: L, h, hl => by
    rw [lookE_cons] at hl
    by_cases hx : compareP x.path p < 0
    · rw [if_neg (lt_ne hx)] at hl
      rw [posL_succ hx]
      simpa using look_pos (inc_rest h) hl
    · rw [posL_zero h hx]
      by_cases e : x.path = p
      · rw [if_pos e] at hl
        simpa using hl
      · rw [if_neg e, lookE_not (fun y hy => (lt_ne (behind h hx y hy)).symm)] at hl
        cases hl
/-- an entry that is there is laid: it takes its place -/
theorem laid_set : ∀ {L : List Ent} {e : Ent}, Inc L → hasL L e.path = true → laidL L e = L.set (posL L e.path) e
  | [], e, _, h => by cases h
  | x :: L, e, h, hh => by
    unfold laidL
    by_cases hx : compareP x.path e.path < 0
    · rw [if_pos hx, posL_succ hx, List.set_cons_succ]
      rw [hasL_succ hx] at hh
      rw [laid_set (inc_rest h) hh]
    · rw [hasL_zero h hx, decide_eq_true_eq] at hh
      rw [if_neg hx, if_pos hh, posL_zero h hx, List.set_cons_zero]
/-- an entry that is not there is laid: it is put in -/
theorem laid_insert : ∀ {L : List Ent} {e : Ent}, Inc L → hasL L e.path = false → laidL L e = L.take (posL L e.path) ++ e :: L.drop (posL L e.path)
  | [], e, _, h => by simp [laidL, posL]
  | x :: L, e, h, hh => by
    unfold laidL
    by_cases hx : compareP x.path e.path < 0
    · rw [hasL_succ hx] at hh
      rw [if_pos hx, posL_succ hx, List.take_succ_cons, List.drop_succ_cons, List.cons_append, laid_insert (inc_rest h) hh]
    · rw [hasL_zero h hx, decide_eq_false_iff_not] at hh
      rw [if_neg hx, if_neg hh, posL_zero h hx]
      rfl
/-- what lies below a path stands behind it without a gap -/
theorem filter_drop {p : List UInt8} (hp : p ≠ []) : ∀ {B : List Ent}, Inc B → (∀ y ∈ B, compareP p y.path < 0) → B.filter (keepE p) = B.dropWhile fun y => belowP p y.path
  | [], _, _ => rfl
  | y :: B, h, hb => by
    have hy := hb y (List.mem_cons_self ..)
    by_cases hc : belowP p y.path = true
    · rw [List.filter_cons, keepE_false.2 (.inr hc), List.dropWhile_cons, if_pos hc, if_neg (by decide)]
      exact filter_drop hp (inc_rest h) fun z hz => hb z (List.mem_cons_of_mem _ hz)
    · rw [List.dropWhile_cons, if_neg hc, List.filter_eq_self]
      intro z hz
      cases hk : keepE p z with
      | true => rfl
      | false =>
        exfalso
        have hzb := hb z hz
        rcases keepE_false.1 hk with e | e
        · rw [e] at hzb; exact compareP_irrefl _ hzb
        · rcases List.mem_cons.1 hz with rfl | hz
          · exact hc e
          · exact hc (contig hp hy (by have := inc_head h z hz; omega) e)
theorem without_split {p : List UInt8} (hp : p ≠ []) : ∀ {L : List Ent}, Inc L → hasL L p = true → withoutL L p = L.take (posL L p) ++ (L.drop (posL L p + 1)).dropWhile fun y => belowP p y.path
  | [], _, h => by cases h
  | x :: L, h, hh => by
    by_cases hx : compareP x.path p < 0
    · rw [hasL_succ hx] at hh
      have hk : keepE p x = true := by
        cases hk : keepE p x with
        | true => rfl
        | false =>
          exfalso
          rcases keepE_false.1 hk with e | e
          · exact lt_ne hx e
          · exact lt_not hx (below_less hp e)
      rw [posL_succ hx, List.take_succ_cons, List.drop_succ_cons, List.cons_append, ← without_split hp (inc_rest h) hh]
      unfold withoutL
      rw [List.filter_cons, if_pos hk]
    · rw [hasL_zero h hx, decide_eq_true_eq] at hh
      rw [posL_zero h hx]
      unfold withoutL
      rw [List.filter_cons, keepE_false.2 (.inl hh), if_neg (by decide)]
      exact filter_drop hp (inc_rest h) (behind h hx)
end
end Go.Proofs.YtipfccfjniglbaaGreatDoor
namespace Go.Proofs.YtipfccfjniglbaaGreatDoor
section
theorem split_no (l : List UInt8) : (splitP l).2.2 = 0 ∨ (splitP l).2.2 = 9 := by
  unfold splitP
  split
  · exact .inl rfl
  · split
    · exact .inr rfl
    · split
      · exact .inr rfl
      · exact .inl rfl
theorem check_not14 (l : List UInt8) : checkNo l ≠ 14 := by
  unfold checkNo
  have := split_no (whiteout l)
  split
  · decide
  · split
    · decide
    · split
      · decide
      · omega
theorem check_last {l : List UInt8} (h : checkNo l = 0) : checkNo (lastName l) = 0 := by
  have hn := checkNo_neat h
  unfold checkNo at h
  split at h
  · cases h
  split at h
  · cases h
  rename_i h0 h1
  have hok : nameOk (lastName l) = true := by
    cases hk : nameOk (lastName l) with
    | true => rfl
    | false =>
      refine absurd (List.any_eq_true.2 ⟨lastName l, ?_, by rw [hk]; rfl⟩) h1
      rw [PP_parent hn]
      simp
  have hs := last_no47 l
  have hl : (lastName l).length ≤ 96 := by
    unfold nameOk at hok
    simp only [Bool.and_eq_true, decide_eq_true_eq] at hok
    exact hok.1.1.1.1.2
  have hne : lastName l ≠ [] := fun e => by rw [e] at hok; exact absurd hok (by decide)
  unfold checkNo
  rw [if_neg hne, pcs_plain hs, if_neg (by simp [hok]), if_neg (by simp; omega)]
  unfold whiteout
  rw [parent_plain hs, last_plain hs]
  show (splitP (white ++ lastName l)).2.2 = 0
  unfold splitP
  rw [if_pos (by rw [List.length_append]; show 4 + _ ≤ 100; omega)]
/-- the entry under its last name -/
def probeE (e : Ent) (p : ByteArray) : Ent := ⟨bs (lastName p.data.toList), e.k, e.m, e.d, e.l⟩
theorem probe_path (e : Ent) (p : ByteArray) : (probeE e p).path = lastName p.data.toList := rfl
theorem itself_of {e f : Ent} (hk : f.k = e.k) (hm : f.m = e.m) (hd : f.d = e.d) (hl : f.l = e.l) (h : checkNo e.path = 0) (hf : checkNo f.path = 0) : itselfNo f = itselfNo e := by
  unfold itselfNo
  rw [hk, hm, hd, hl, h, hf]
theorem itself_small {e : Ent} (h : itselfNo e = 0) : e.d.size ≤ 1048576 := by
  unfold itselfNo at h
  split at h
  · cases h
  split at h
  · omega
  split at h
  · cases h
  split at h
  · cases h
  split at h
  · cases h
  split at h
  · cases h
  rename_i h1 h2 h3 h4 h5 h6
  by_cases hk : e.k = 2
  · have := fun x => h5 ⟨hk, x⟩
    omega
  · have hd : e.d.data.toList = [] := Classical.not_not.1 fun x => h6 (.inl ⟨hk, x⟩)
    have : e.d.size = e.d.data.toList.length := by simp
    rw [this, hd]
    decide
theorem probe_put (e : Ent) (p : ByteArray) : putNo [] (probeE e p) = itselfNo (probeE e p) := by
  by_cases h : itselfNo (probeE e p) = 0
  · have hu : upNo [] (probeE e p).path = 0 := by
      unfold upNo
      rw [probe_path, parent_plain (last_no47 _)]
      rfl
    rw [putNo_rest h hu, h]
    have := itself_small h
    show (if 4096 ≤ ([] : List Ent).length ∨ 16777216 < bytesE [] + (probeE e p).d.size then 5 else 0) = 0
    rw [if_neg (by unfold bytesE; simp; omega)]
  · unfold putNo
    rw [if_pos h]
/-- the number that do tells of the entry itself -/
def probeNo (e : Ent) (p : ByteArray) : Nat :=
  if checkNo p.data.toList ≠ 0 ∧ itselfNo (probeE e p) ≠ 14 then checkNo p.data.toList else itselfNo (probeE e p)
theorem itself_14 {e : Ent} (h : ¬ (e.k = 1 ∨ e.k = 2 ∨ e.k = 3)) : itselfNo e = 14 := by unfold itselfNo; rw [if_pos h]
theorem itself_not14 {e : Ent} (h : e.k = 1 ∨ e.k = 2 ∨ e.k = 3) : itselfNo e ≠ 14 := by
  have := check_not14 e.path
  unfold itselfNo
  rw [if_neg (by simp; omega)]
  split
  · assumption
  repeat (first | decide | split)
theorem probe_no {e : Ent} {p : ByteArray} (hp : e.path = p.data.toList) : probeNo e p = itselfNo e := by
  unfold probeNo
  by_cases hk : e.k = 1 ∨ e.k = 2 ∨ e.k = 3
  · have h1 : itselfNo (probeE e p) ≠ 14 := itself_not14 hk
    by_cases hc : checkNo p.data.toList = 0
    · rw [if_neg (fun x => x.1 hc)]
      exact itself_of rfl rfl rfl rfl (by rw [hp]; exact hc) (check_last hc)
    · rw [if_pos ⟨hc, h1⟩]
      unfold itselfNo
      rw [if_neg (by simp; omega), hp, if_pos hc]
  · rw [itself_14 (e := probeE e p) hk, if_neg (fun x => x.2 rfl), itself_14 hk]
theorem dropWhile_at {α : Type} {f : α → Bool} : ∀ (L : List α) (k : Nat), k ≤ L.length → (∀ t x, t < k → L[t]? = some x → f x = true) → (∀ x, L[k]? = some x → f x = false) → L.dropWhile f = L.drop k
  | [], k, h, _, _ => by simp
  | x :: L, 0, _, _, h2 => by rw [List.dropWhile_cons_of_neg (by rw [h2 x rfl]; decide)]; rfl
  | x :: L, k + 1, h, h1, h2 => by
    rw [List.dropWhile_cons_of_pos (h1 0 x (by omega) rfl), List.drop_succ_cons]
    exact dropWhile_at L k (by simpa using h) (fun t y ht hy => h1 (t + 1) y (by omega) (by simpa using hy)) (fun y hy => h2 y (by simpa using hy))
theorem without_cut {L : List Ent} {p : List UInt8} (hp : p ≠ []) (hi : Inc L) (hh : hasL L p = true) {k : Nat} (h0 : posL L p + 1 ≤ k) (hk : k ≤ L.length)
    (h1 : ∀ t x, posL L p < t → t < k → L[t]? = some x → belowP p x.path = true) (h2 : ∀ x, L[k]? = some x → belowP p x.path = false) : withoutL L p = L.take (posL L p) ++ L.drop k := by
  rw [without_split hp hi hh, dropWhile_at (L.drop (posL L p + 1)) (k - (posL L p + 1)) (by rw [List.length_drop]; omega) (fun t x ht hx => ?_) (fun x hx => ?_), List.drop_drop]
  · rw [show posL L p + 1 + (k - (posL L p + 1)) = k by omega]
  · rw [List.getElem?_drop] at hx
    exact h1 _ x (by omega) (by omega) hx
  · rw [List.getElem?_drop, show posL L p + 1 + (k - (posL L p + 1)) = k by omega] at hx
    exact h2 x hx
theorem has_pos {L : List Ent} {p : List UInt8} (h : hasL L p = true) : posL L p < L.length := by
  unfold hasL at h
  cases hl : L[posL L p]? with
  | none => rw [hl] at h; cases h
  | some x => exact (List.getElem?_eq_some_iff.1 hl).1
/-- what doing a change says, by the place -/
theorem done_gone {L : List Ent} {c : Chg} (hi : Inc L) (hg : c.g = true) : doneL L c = if c.path = [] then .error 15 else if hasL L c.path = true then .ok (withoutL L c.path) else .error 10 := by
  unfold doneL
  rw [if_pos hg, hasL_look hi]
  cases lookE L c.path <;> rfl
theorem done_lay {L : List Ent} {c : Chg} (hi : Inc L) (hg : c.g = false) (hp : c.e.path = c.path) (h1 : itselfNo c.e = 0) (h2 : upNo L c.path = 0) :
    (hasL L c.path = false → doneL L c = .ok (L.take (posL L c.path) ++ c.e :: L.drop (posL L c.path))) ∧
    (∀ x, hasL L c.path = true → L[posL L c.path]? = some x → doneL L c = if alike x c.e = true then .ok (L.set (posL L c.path) c.e) else .error 14) := by
  have he : doneL L c = match lookE L c.path with
      | some x => if alike x c.e = true then .ok (laidL L c.e) else .error 14
      | none => .ok (laidL L c.e) := by
    unfold doneL
    rw [if_neg (by rw [hg]; decide), if_neg (fun x => x hp), if_neg (fun x => x h1), if_neg (fun x => x h2)]
    all_goals rfl
  rw [he]
  constructor
  · intro h
    have hl := hasL_look (p := c.path) hi
    rw [h] at hl
    cases hq : lookE L c.path with
    | some x => rw [hq] at hl; cases hl
    | none =>
      show Except.ok (laidL L c.e) = _
      rw [laid_insert hi (by rw [hp]; exact h), hp]
  · intro x h hx
    have hl := hasL_look (p := c.path) hi
    rw [h] at hl
    cases hq : lookE L c.path with
    | none => rw [hq] at hl; cases hl
    | some y =>
      have hy := look_pos hi hq
      rw [hx] at hy
      injection hy with hy
      subst hy
      show (if alike x c.e = true then Except.ok (laidL L c.e) else .error 14) = _
      rw [laid_set hi (by rw [hp]; exact h), hp]
theorem up_pos {L : List Ent} {p : List UInt8} (hi : Inc L) (h0 : parent p ≠ []) : upNo L p = if hasL L (parent p) = true then (match L[posL L (parent p)]? with | some x => if x.k = 1 then 0 else 13 | none => 10) else 10 := by
  unfold upNo
  rw [if_neg h0, hasL_look hi]
  cases hq : lookE L (parent p) with
  | none => rfl
  | some y =>
    rw [look_pos hi hq]
    rfl
/-- the error of a change that can't be done is one -/
theorem doneL_err {L : List Ent} {c : Chg} {n : Nat} (h : doneL L c = .error n) : 1 ≤ n ∧ n ≤ 17 := by
  have hit : itselfNo c.e ≤ 17 := by
    have : checkNo c.e.path ≤ 17 := by
      unfold checkNo
      have := split_no (whiteout c.e.path)
      repeat (first | omega | split)
    unfold itselfNo
    repeat (first | omega | split)
  have hup : upNo L c.path ≤ 13 := by
    unfold upNo
    split
    · omega
    · split
      · omega
      · split <;> omega
  unfold doneL at h
  split at h
  · split at h
    · injection h with h; omega
    · split at h
      · injection h with h; omega
      · cases h
  split at h
  · injection h with h; omega
  split at h
  · injection h with h; omega
  split at h
  · injection h with h; omega
  split at h
  · split at h
    · cases h
    · injection h with h; omega
  · cases h
end
end Go.Proofs.YtipfccfjniglbaaGreatDoor
namespace Go.Proofs.YtipfccfjniglbaaGreatDoor
section
theorem laidL_cons (x : Ent) (r : List Ent) (e : Ent) : laidL (x :: r) e = if compareP x.path e.path < 0 then x :: laidL r e else if x.path = e.path then e :: r else e :: x :: r := rfl
theorem laid_app_lt : ∀ (A B : List Ent) (e : Ent), (∀ x ∈ A, compareP x.path e.path < 0) → laidL (A ++ B) e = A ++ laidL B e
  | [], B, e, _ => rfl
  | x :: A, B, e, h => by
    show laidL (x :: (A ++ B)) e = _
    rw [laidL_cons, if_pos (h x (List.mem_cons_self ..)), laid_app_lt A B e fun y hy => h y (List.mem_cons_of_mem _ hy)]
    rfl
theorem laid_app_ge : ∀ (A B : List Ent) (e : Ent), (∃ x ∈ A, ¬ compareP x.path e.path < 0) → laidL (A ++ B) e = laidL A e ++ B
  | [], B, e, ⟨_, h, _⟩ => by cases h
  | x :: A, B, e, h => by
    show laidL (x :: (A ++ B)) e = _
    rw [laidL_cons, laidL_cons]
    by_cases hc : compareP x.path e.path < 0
    · rw [if_pos hc, if_pos hc, laid_app_ge A B e (by
        obtain ⟨y, hy, hn⟩ := h
        rcases List.mem_cons.1 hy with rfl | hy
        · exact absurd hc hn
        · exact ⟨y, hy, hn⟩)]
      rfl
    · rw [if_neg hc, if_neg hc]
      split <;> rfl
/-- is e's place among the first k? -/
def pastR (L : List Ent) (e : Ent) (k : Nat) : Bool := (L.take k).any fun x => decide (¬ compareP x.path e.path < 0)
def rlaidL (L : List Ent) (e : Ent) (k : Nat) : List Ent := if pastR L e k = true then laidL (L.take k) e else L.take k
theorem past_f {L : List Ent} {e : Ent} {k : Nat} : pastR L e k = false ↔ ∀ x ∈ L.take k, compareP x.path e.path < 0 := by
  unfold pastR
  rw [List.any_eq_false]
  simp
theorem past_t {L : List Ent} {e : Ent} {k : Nat} : pastR L e k = true ↔ ∃ x ∈ L.take k, ¬ compareP x.path e.path < 0 := by
  unfold pastR
  rw [List.any_eq_true]
  simp
theorem take_get {L : List Ent} {k : Nat} {x : Ent} (h : L[k]? = some x) : L.take (k + 1) = L.take k ++ [x] := by rw [List.take_add_one, h]; rfl
theorem past_succ {L : List Ent} {e x : Ent} {k : Nat} (h : L[k]? = some x) : pastR L e (k + 1) = (pastR L e k || decide (¬ compareP x.path e.path < 0)) := by
  unfold pastR
  rw [take_get h, List.any_append]
  simp
theorem past_lt {L : List Ent} {e x : Ent} {k : Nat} (hi : Inc L) (h : L[k]? = some x) (hc : compareP x.path e.path ≤ 0) : pastR L e k = false := by
  rw [past_f]
  intro y hy
  obtain ⟨j, hj⟩ := List.getElem?_of_mem hy
  have hjk : j < k := by
    have := (List.getElem?_eq_some_iff.1 hj).1
    rw [List.length_take] at this
    omega
  rw [List.getElem?_take, if_pos hjk] at hj
  have h1 : compareP y.path x.path < 0 := by
    have := List.pairwise_iff_getElem.1 hi j k (List.getElem?_eq_some_iff.1 hj).1 (List.getElem?_eq_some_iff.1 h).1 hjk
    rw [(List.getElem?_eq_some_iff.1 hj).2, (List.getElem?_eq_some_iff.1 h).2] at this
    exact this
  rcases Int.lt_or_eq_of_le hc with h2 | h2
  · exact compareP_trans h1 h2
  · rw [← compareP_zero.1 h2]; exact h1
theorem rlaid_zero (L : List Ent) (e : Ent) : rlaidL L e 0 = [] := rfl
theorem rlaid_lt {L : List Ent} {e x : Ent} {k : Nat} (hi : Inc L) (h : L[k]? = some x) (hc : compareP x.path e.path < 0) : pastR L e (k + 1) = false ∧ pastR L e k = false ∧ rlaidL L e (k + 1) = rlaidL L e k ++ [x] := by
  have h1 := past_lt (e := e) hi h (Int.le_of_lt hc)
  have h2 : pastR L e (k + 1) = false := by rw [past_succ h, h1]; simp [hc]
  refine ⟨h2, h1, ?_⟩
  unfold rlaidL
  rw [h1, h2, if_neg (by decide), if_neg (by decide), take_get h]
theorem rlaid_eq {L : List Ent} {e x : Ent} {k : Nat} (hi : Inc L) (h : L[k]? = some x) (hc : compareP x.path e.path = 0) : pastR L e (k + 1) = true ∧ pastR L e k = false ∧ rlaidL L e (k + 1) = rlaidL L e k ++ [e] := by
  have h1 := past_lt (e := e) hi h (by omega)
  have h2 : pastR L e (k + 1) = true := by rw [past_succ h, h1]; simp; omega
  refine ⟨h2, h1, ?_⟩
  unfold rlaidL
  rw [h1, h2, if_pos rfl, if_neg (by decide), take_get h, laid_app_lt _ _ _ (past_f.1 h1)]
  rw [laidL_cons, if_neg (by omega), if_pos (compareP_zero.1 hc)]
theorem rlaid_gt {L : List Ent} {e x : Ent} {k : Nat} (h : L[k]? = some x) (hc : 0 < compareP x.path e.path) :
    pastR L e (k + 1) = true ∧ (pastR L e k = true → rlaidL L e (k + 1) = rlaidL L e k ++ [x]) ∧ (pastR L e k = false → rlaidL L e (k + 1) = rlaidL L e k ++ [e] ++ [x]) := by
  have h2 : pastR L e (k + 1) = true := by rw [past_succ h]; simp; right; omega
  refine ⟨h2, fun h1 => ?_, fun h1 => ?_⟩
  · unfold rlaidL
    rw [h1, h2, if_pos rfl, if_pos rfl, take_get h, laid_app_ge _ _ _ (past_t.1 h1)]
  · unfold rlaidL
    rw [h1, h2, if_pos rfl, if_neg (by decide), take_get h, laid_app_lt _ _ _ (past_f.1 h1)]
    rw [laidL_cons, if_neg (by omega), if_neg (fun he => by rw [compareP_zero.2 he] at hc; omega)]
    simp
theorem rlaid_end (L : List Ent) (e : Ent) : (pastR L e L.length = true → rlaidL L e L.length = laidL L e) ∧ (pastR L e L.length = false → rlaidL L e L.length ++ [e] = laidL L e) := by
  refine ⟨fun h => ?_, fun h => ?_⟩
  · unfold rlaidL
    rw [if_pos h, List.take_length]
  · have h3 := past_f.1 h
    unfold rlaidL
    rw [if_neg (by rw [h]; decide)]
    rw [List.take_length] at h3 ⊢
    have := laid_app_lt L [] e h3
    rw [List.append_nil] at this
    rw [this]
    rfl
end
end Go.Proofs.YtipfccfjniglbaaGreatDoor
