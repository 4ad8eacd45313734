/- Joined: what these texts prove stands at the head of each part: DPlain, DRef. -/
import Derived.Test.YtfanfkogogijpaaGreatDoorRPlain
import Derived.Test.YtfanfkogogijpaaGreatDoorTOrd2
set_option linter.unusedSimpArgs false
set_option linter.unusedVariables false
namespace Go.Proofs.YtfanfkogogijpaaGreatDoor
section
/-- a change -/
structure Chg where
  p : ByteArray
  g : Bool
  e : Ent
def Chg.path (c : Chg) : List UInt8 := c.p.data.toList
def entZ : Ent := ⟨⟨#[]⟩, 0, 0, ⟨#[]⟩, ⟨#[]⟩⟩
def goneOf (x : Ent) : Chg := ⟨x.p, true, entZ⟩
def layOf (y : Ent) : Chg := ⟨y.p, false, y⟩
def entEq (x y : Ent) : Bool := x.p.data.toList == y.p.data.toList && x.k == y.k && x.m == y.m && x.d.data.toList == y.d.data.toList && x.l.data.toList == y.l.data.toList
theorem entEq_iff {x y : Ent} : entEq x y = true ↔ x = y := by
  obtain ⟨⟨⟨a⟩⟩, b, c, ⟨⟨d⟩⟩, ⟨⟨e⟩⟩⟩ := x
  obtain ⟨⟨⟨a2⟩⟩, b2, c2, ⟨⟨d2⟩⟩, ⟨⟨e2⟩⟩⟩ := y
  simp [entEq, and_assoc]
/-- is a path below what was taken away last? -/
def hid (top : Option (List UInt8)) (q : List UInt8) : Bool := match top with
  | none => false
  | some t => belowP t q
/-- both directories, or neither -/
def alike (x y : Ent) : Bool := decide (x.k = 1) == decide (y.k = 1)
/-- the changes of two lists in order, as the program goes -/
def chgF : Nat → List Ent → List Ent → Option (List UInt8) → List Chg
  | 0, _, _, _ => []
  | _ + 1, [], [], _ => []
  | f + 1, x :: a, [], top => if hid top x.path = true then chgF f a [] top else goneOf x :: chgF f a [] (some x.path)
  | f + 1, [], y :: b, top => layOf y :: chgF f [] b top
  | f + 1, x :: a, y :: b, top =>
    if compareP x.path y.path < 0 then (if hid top x.path = true then chgF f a (y :: b) top else goneOf x :: chgF f a (y :: b) (some x.path))
    else if 0 < compareP x.path y.path then layOf y :: chgF f (x :: a) b top
    else if alike x y = true then (if entEq x y = true then chgF f a b top else layOf y :: chgF f a b top)
    else if hid top x.path = true then layOf y :: chgF f a b top
    else goneOf x :: layOf y :: chgF f a b (some x.path)
def chgL (a b : List Ent) : List Chg := chgF (a.length + b.length) a b none
/-- one change done -/
def doneL (L : List Ent) (c : Chg) : Except Nat (List Ent) :=
  if c.g = true then (if c.path = [] then .error 15 else if lookE L c.path = none then .error 10 else .ok (withoutL L c.path))
  else if c.e.path ≠ c.path then .error 1 else if itselfNo c.e ≠ 0 then .error (itselfNo c.e) else if upNo L c.path ≠ 0 then .error (upNo L c.path)
  else match lookE L c.path with
    | some x => if alike x c.e = true then .ok (laidL L c.e) else .error 14
    | none => .ok (laidL L c.e)
/-- changes done, one behind the other: what comes out, or what is wrong, and at which -/
def doL : List Ent → List Chg → Nat → Except (Nat × Nat) (List Ent)
  | L, [], _ => .ok L
  | L, c :: r, i => match doneL L c with
    | .error n => .error (n, i)
    | .ok L' => doL L' r (i + 1)
theorem doL_cons {L L' : List Ent} {c : Chg} {r : List Chg} {i : Nat} (h : doneL L c = .ok L') : doL L (c :: r) i = doL L' r (i + 1) := by
  conv => lhs; unfold doL
  rw [h]
/-- what lies between a directory and what is below it in order is below it -/
theorem cmp_between : ∀ (T X Q : List (List UInt8)) (c : List UInt8) (r : List (List UInt8)), cmpPs T X < 0 → cmpPs X Q ≤ 0 → Q = T ++ c :: r → ∃ c' r', X = T ++ c' :: r'
  | [], X, Q, c, r, h1, h2, h3 => by
    cases X with
    | nil => exact absurd h1 (by decide)
    | cons y s => exact ⟨y, s, rfl⟩
  | u :: T, X, Q, c, r, h1, h2, h3 => by
    cases X with
    | nil => exact absurd (show (1 : Int) < 0 from h1) (by decide)
    | cons y s =>
      subst h3
      rw [cmpPs_cons] at h1
      rw [List.cons_append, cmpPs_cons] at h2
      have hf := cmpB_flip u y
      by_cases h0 : cmpB u y = 0
      · rw [if_pos h0] at h1
        rw [if_pos (by omega)] at h2
        obtain ⟨c', r', h⟩ := cmp_between T s _ c r h1 h2 rfl
        exact ⟨c', r', by rw [h, cmpB_zero.1 h0]; rfl⟩
      · rw [if_neg h0] at h1
        rw [if_neg (by omega)] at h2
        omega
theorem contig {t x q : List UInt8} (ht : t ≠ []) (h1 : compareP t x < 0) (h2 : compareP x q ≤ 0) (h : belowP t q = true) : belowP t x = true := by
  rw [below_under ht] at h ⊢
  obtain ⟨c, r, hq⟩ := h
  unfold Under
  rw [PP_ne ht] at hq ⊢
  obtain ⟨c', r', hx⟩ := cmp_between _ _ _ c r h1 h2 hq
  exact ⟨c', r', hx⟩
theorem below_trans {a b c : List UInt8} (ha : a ≠ []) (hb : b ≠ []) (h : belowP a b = true) (k : belowP b c = true) : belowP a c = true := by
  rw [below_under ha] at h ⊢
  rw [below_under hb] at k
  exact under_trans hb h k
theorem below_less {a b : List UInt8} (ha : a ≠ []) (h : belowP a b = true) : compareP a b < 0 := under_less ha ((below_under ha).1 h)
theorem parent_less {p : List UInt8} (hp : Neat p) (h0 : parent p ≠ []) : compareP (parent p) p < 0 := under_less h0 (under_kid hp rfl)
theorem lookE_cons (x : Ent) (l : List Ent) (q : List UInt8) : lookE (x :: l) q = if x.path = q then some x else lookE l q := by
  unfold lookE
  by_cases h : x.path = q
  · rw [if_pos h, List.find?_cons_of_pos (by simpa using h)]
  · rw [if_neg h, List.find?_cons_of_neg (by simpa using h)]
theorem lookE_not {l : List Ent} {q : List UInt8} (h : ∀ x ∈ l, x.path ≠ q) : lookE l q = none := by
  unfold lookE
  rw [List.find?_eq_none]
  intro x hx
  simpa using h x hx
theorem lookE_without (l : List Ent) (p q : List UInt8) : lookE (withoutL l p) q = if q = p ∨ belowP p q = true then none else lookE l q := by
  unfold lookE withoutL
  rw [List.find?_filter]
  by_cases h : q = p ∨ belowP p q = true
  · rw [if_pos h, List.find?_eq_none]
    intro x hx hh
    simp at hh
    obtain ⟨h1, h2⟩ := hh
    have : keepE p x = false := keepE_false.2 (by rw [h2]; exact h)
    rw [this] at h1
    cases h1
  · rw [if_neg h]
    refine find_congr fun x hx => ?_
    by_cases h2 : x.path = q
    · have : keepE p x = true := by
        cases hk : keepE p x with
        | true => rfl
        | false => exact absurd (by have := keepE_false.1 hk; rwa [h2] at this) h
      simp [this, h2]
    · simp [h2]
theorem lt_ne {a b : List UInt8} (h : compareP a b < 0) : a ≠ b := fun e => by subst e; exact compareP_irrefl _ h
theorem lt_not {a b : List UInt8} (h : compareP a b < 0) : ¬ compareP b a < 0 := fun k => by have := compareP_flip a b; omega
/-- two lists in order that answer alike are one -/
theorem inc_ext {l r : List Ent} (hl : Inc l) (hr : Inc r) (h : ∀ q, lookE l q = lookE r q) : l = r := by
  refine order_ext (lt := fun a b : Ent => compareP a.path b.path < 0) (fun a => compareP_irrefl _) (fun h k => compareP_trans h k) hl hr fun x => ⟨fun hx => ?_, fun hx => ?_⟩
  · have := lookE_mem hl hx
    rw [h] at this
    exact (lookE_some this).1
  · have := lookE_mem hr hx
    rw [← h] at this
    exact (lookE_some this).1
/-- where the changes of two trees stand when they are done: what is left of both, what was taken away last, what has come out -/
structure DInv (a0 b0 ra rb : List Ent) (top : Option (List UInt8)) (L : List Ent) : Prop where
  inc : Inc L
  ia : Inc ra
  ib : Inc rb
  sa : ∀ x ∈ ra, x ∈ a0
  sb : ∀ y ∈ rb, y ∈ b0
  old : ∀ y ∈ b0, y ∈ rb ∨ ((∀ x ∈ ra, compareP y.path x.path < 0) ∧ ∀ z ∈ rb, compareP y.path z.path < 0)
  left : ∀ q, lookE ra q ≠ none ∨ lookE rb q ≠ none → lookE L q = if hid top q = true then none else lookE ra q
  done : ∀ q, lookE ra q = none → lookE rb q = none → lookE L q = lookE b0 q
  topA : ∀ t, top = some t → t ≠ [] ∧ (∀ x ∈ ra, compareP t x.path < 0) ∧ ∀ y ∈ rb, compareP t y.path < 0
  topB : ∀ t, top = some t → ∀ x ∈ ra, belowP t x.path = true → ¬ ∃ e, lookE b0 t = some e ∧ e.k = 1
section
variable {a0 b0 ra rb L : List Ent} {x y : Ent} {top : Option (List UInt8)}
theorem good_ne {l : List Ent} (h : Good l) {x : Ent} (hx : x ∈ l) : x.path ≠ [] := (good_neat h (lookE_mem h.inc hx)).ne
/-- what is left lies behind the head -/
theorem left_behind {l : List Ent} {q : List UInt8} (h : ∀ z ∈ l, compareP x.path z.path < 0) (hq : lookE l q ≠ none) : compareP x.path q < 0 := by
  cases hl : lookE l q with
  | none => exact absurd hl hq
  | some z =>
    obtain ⟨h1, h2⟩ := lookE_some hl
    rw [← h2]
    exact h z h1
theorem DInv.b_none (h : DInv a0 b0 (x :: ra) rb top L) {q : List UInt8} (hq : compareP x.path q ≤ 0) (hr : lookE rb q = none) : lookE b0 q = none := by
  cases hl : lookE b0 q with
  | none => rfl
  | some y =>
    obtain ⟨h1, h2⟩ := lookE_some hl
    rcases h.old y h1 with h3 | ⟨h3, _⟩
    · exact absurd h2 (lookE_none hr y h3)
    · have h4 := h3 x (List.mem_cons_self ..)
      rw [h2] at h4
      have := compareP_flip q x.path
      omega
theorem hid_contig {q : List UInt8} (hA : ∀ t, top = some t → t ≠ [] ∧ compareP t x.path < 0) (hh : hid top x.path = false) (hq : compareP x.path q ≤ 0) : hid top q = false := by
  cases top with
  | none => rfl
  | some t =>
    cases hb : hid (some t) q with
    | false => rfl
    | true =>
      obtain ⟨h1, h2⟩ := hA t rfl
      have := contig h1 h2 hq hb
      have h3 : belowP t x.path = false := hh
      rw [this] at h3
      cases h3
theorem DInv.gone (h : DInv a0 b0 (x :: ra) rb top L) (ga : Good a0) (gb : Good b0) (hx : ∀ y ∈ rb, compareP x.path y.path < 0) (hh : hid top x.path = false) :
    doneL L (goneOf x) = .ok (withoutL L x.path) ∧ DInv a0 b0 ra rb (some x.path) (withoutL L x.path) := by
  have hne := good_ne ga (h.sa x (List.mem_cons_self ..))
  have hxa : ∀ z ∈ ra, compareP x.path z.path < 0 := (List.pairwise_cons.1 h.ia).1
  have hlx : lookE L x.path = some x := by
    rw [h.left x.path (.inl (by rw [lookE_cons, if_pos rfl]; simp)), hh, lookE_cons, if_pos rfl]
    rfl
  have hbn : lookE b0 x.path = none := h.b_none (by rw [compareP_zero.2 rfl]; exact Int.le_refl _) (lookE_not fun z hz e => by have := hx z hz; rw [e] at this; exact compareP_irrefl _ this)
  refine ⟨?_, ⟨List.Pairwise.filter _ h.inc, (List.pairwise_cons.1 h.ia).2, h.ib, fun z hz => h.sa z (List.mem_cons_of_mem _ hz), h.sb, fun y hy => ?_, fun q hq => ?_, fun q h1 h2 => ?_, fun t ht => ?_, fun t ht z hz hb => ?_⟩⟩
  · unfold doneL
    rw [if_pos (show (goneOf x).g = true from rfl)]
    show (if x.path = [] then _ else if lookE L x.path = none then _ else _) = _
    rw [if_neg hne, hlx, if_neg (by simp)]
    rfl
  · rcases h.old y hy with h1 | ⟨h1, h2⟩
    · exact .inl h1
    · exact .inr ⟨fun z hz => h1 z (List.mem_cons_of_mem _ hz), h2⟩
  · have hlt : compareP x.path q < 0 := by
      rcases hq with hq | hq
      · exact left_behind hxa hq
      · exact left_behind hx hq
    have hqx : q ≠ x.path := (lt_ne hlt).symm
    rw [lookE_without]
    by_cases hb : belowP x.path q = true
    · rw [if_pos (.inr hb), if_pos (show hid (some x.path) q = true from hb)]
    · rw [if_neg (fun e => e.elim hqx hb), if_neg (show ¬ hid (some x.path) q = true from hb)]
      rw [h.left q (by rw [lookE_cons, if_neg hqx.symm]; exact hq), hid_contig (fun t ht => ⟨(h.topA t ht).1, (h.topA t ht).2.1 x (List.mem_cons_self ..)⟩) hh (Int.le_of_lt hlt), lookE_cons, if_neg hqx.symm]
      rfl
  · rw [lookE_without]
    by_cases hq : q = x.path
    · subst hq
      rw [if_pos (.inl rfl), hbn]
    by_cases hb : belowP x.path q = true
    · rw [if_pos (.inr hb), h.b_none (Int.le_of_lt (below_less hne hb)) h2]
    · rw [if_neg (fun e => e.elim hq hb)]
      exact h.done q (by rw [lookE_cons, if_neg (Ne.symm hq)]; exact h1) h2
  · injection ht with ht
    subst ht
    exact ⟨hne, hxa, hx⟩
  · injection ht with ht
    subst ht
    rw [hbn]
    rintro ⟨e, he, _⟩
    cases he
theorem DInv.hide (h : DInv a0 b0 (x :: ra) rb top L) (hx : ∀ y ∈ rb, compareP x.path y.path < 0) (hh : hid top x.path = true) : DInv a0 b0 ra rb top L := by
  have hxa : ∀ z ∈ ra, compareP x.path z.path < 0 := (List.pairwise_cons.1 h.ia).1
  refine ⟨h.inc, (List.pairwise_cons.1 h.ia).2, h.ib, fun z hz => h.sa z (List.mem_cons_of_mem _ hz), h.sb, fun y hy => ?_, fun q hq => ?_, fun q h1 h2 => ?_, fun t ht => ?_, fun t ht z hz hb => h.topB t ht z (List.mem_cons_of_mem _ hz) hb⟩
  · rcases h.old y hy with h1 | ⟨h1, h2⟩
    · exact .inl h1
    · exact .inr ⟨fun z hz => h1 z (List.mem_cons_of_mem _ hz), h2⟩
  · have hlt : compareP x.path q < 0 := by
      rcases hq with hq | hq
      · exact left_behind hxa hq
      · exact left_behind hx hq
    have hqx := lt_ne hlt
    rw [h.left q (by rw [lookE_cons, if_neg hqx]; exact hq), lookE_cons, if_neg hqx]
  · by_cases hq : x.path = q
    · subst hq
      rw [h.left _ (.inl (by rw [lookE_cons, if_pos rfl]; simp)), hh, h.b_none (by rw [compareP_zero.2 rfl]; exact Int.le_refl _) h2]
      rfl
    · exact h.done q (by rw [lookE_cons, if_neg hq]; exact h1) h2
  · obtain ⟨h1, h2, h3⟩ := h.topA t ht
    exact ⟨h1, fun z hz => h2 z (List.mem_cons_of_mem _ hz), h3⟩
/-- the directory above what is laid next is there -/
theorem up_there (gb : Good b0) (hy : y ∈ b0) (hp : parent y.path ≠ [] → lookE L (parent y.path) = lookE b0 (parent y.path)) : upNo L y.path = 0 := by
  have hu := gb.up y hy
  unfold upNo at hu ⊢
  by_cases h0 : parent y.path = []
  · rw [if_pos h0]
  · rw [if_neg h0] at hu ⊢
    rw [hp h0]
    exact hu
theorem lay_done (gb : Good b0) (hy : y ∈ b0) (hu : upNo L y.path = 0) (hl : lookE L y.path = none ∨ ∃ x, lookE L y.path = some x ∧ alike x y = true) : doneL L (layOf y) = .ok (laidL L y) := by
  unfold doneL
  rw [if_neg (show ¬ (layOf y).g = true from fun h => by cases h)]
  show (if y.path ≠ y.path then _ else if itselfNo y ≠ 0 then _ else if upNo L y.path ≠ 0 then _ else _) = _
  rw [if_neg (by simp), gb.it y hy, if_neg (by decide), hu, if_neg (by decide)]
  show (match lookE L y.path with | some x => if alike x y = true then Except.ok (laidL L y) else .error 14 | none => .ok (laidL L y)) = _
  rcases hl with hl | ⟨x, hl, ha⟩
  · rw [hl]
  · rw [hl]
    simp only []
    rw [if_pos ha]
theorem DInv.lay (h : DInv a0 b0 ra (y :: rb) top L) (gb : Good b0) (hy : ∀ x ∈ ra, compareP y.path x.path < 0) :
    doneL L (layOf y) = .ok (laidL L y) ∧ DInv a0 b0 ra rb top (laidL L y) := by
  have hyb := h.sb y (List.mem_cons_self ..)
  have hn := good_neat gb (lookE_mem gb.inc hyb)
  have hyr : ∀ z ∈ rb, compareP y.path z.path < 0 := (List.pairwise_cons.1 h.ib).1
  have hly : lookE L y.path = none := by
    rw [h.left y.path (.inr (by rw [lookE_cons, if_pos rfl]; simp)), lookE_not (l := ra) fun z hz e => by have := hy z hz; rw [e] at this; exact compareP_irrefl _ this]
    split <;> rfl
  refine ⟨lay_done gb hyb (up_there gb hyb fun h0 => ?_) (.inl hly), ⟨inc_laid h.inc, h.ia, (List.pairwise_cons.1 h.ib).2, h.sa, fun z hz => h.sb z (List.mem_cons_of_mem _ hz), fun z hz => ?_, fun q hq => ?_, fun q h1 h2 => ?_, fun t ht => ?_, h.topB⟩⟩
  · have hpl := parent_less hn h0
    refine h.done _ (lookE_not fun z hz e => ?_) (lookE_not fun z hz e => ?_)
    · have := hy z hz
      rw [e] at this
      exact lt_not hpl this
    · rcases List.mem_cons.1 hz with e2 | e2
      · subst e2; rw [← e] at hpl; exact compareP_irrefl _ hpl
      · have := hyr z e2
        rw [e] at this
        exact lt_not hpl this
  · rcases h.old z hz with h1 | ⟨h1, h2⟩
    · rcases List.mem_cons.1 h1 with e | e
      · subst e; exact .inr ⟨hy, hyr⟩
      · exact .inl e
    · exact .inr ⟨h1, fun w hw => h2 w (List.mem_cons_of_mem _ hw)⟩
  · have hqy : y.path ≠ q := by
      rcases hq with hq | hq
      · exact lt_ne (left_behind hy hq)
      · exact lt_ne (left_behind hyr hq)
    rw [lookE_laid h.inc, if_neg (Ne.symm hqy)]
    exact h.left q (by rw [lookE_cons y, if_neg hqy]; exact hq)
  · rw [lookE_laid h.inc]
    by_cases hq : q = y.path
    · subst hq
      rw [if_pos rfl, lookE_mem gb.inc hyb]
    · rw [if_neg hq]
      exact h.done q h1 (by rw [lookE_cons, if_neg (Ne.symm hq)]; exact h2)
  · obtain ⟨h1, h2, h3⟩ := h.topA t ht
    exact ⟨h1, h2, fun z hz => h3 z (List.mem_cons_of_mem _ hz)⟩
/-- where both have something, it is not hidden -/
theorem DInv.seen (h : DInv a0 b0 (x :: ra) (y :: rb) top L) (gb : Good b0) (e : x.path = y.path) : hid top x.path = false := by
  cases hh : hid top x.path with
  | false => rfl
  | true =>
    exfalso
    cases top with
    | none => cases hh
    | some t =>
      obtain ⟨h1, _, _⟩ := h.topA t rfl
      have hb : belowP t x.path = true := hh
      refine h.topB t rfl x (List.mem_cons_self ..) hb ?_
      rw [e] at hb
      obtain ⟨c, hc⟩ := (below_pre h1).1 hb
      have hl := lookE_mem gb.inc (h.sb y (List.mem_cons_self ..))
      rw [hc] at hl
      exact above_dir gb _ _ _ _ (Nat.le_refl _) h1 hl
theorem DInv.both_old (h : DInv a0 b0 (x :: ra) (y :: rb) top L) (e : x.path = y.path) : ∀ z ∈ b0, z ∈ rb ∨ ((∀ w ∈ ra, compareP z.path w.path < 0) ∧ ∀ w ∈ rb, compareP z.path w.path < 0) := fun z hz => by
  rcases h.old z hz with h1 | ⟨h1, h2⟩
  · rcases List.mem_cons.1 h1 with e2 | e2
    · subst e2
      exact .inr ⟨by rw [← e]; exact (List.pairwise_cons.1 h.ia).1, (List.pairwise_cons.1 h.ib).1⟩
    · exact .inl e2
  · exact .inr ⟨fun w hw => h1 w (List.mem_cons_of_mem _ hw), fun w hw => h2 w (List.mem_cons_of_mem _ hw)⟩
theorem DInv.both_lt (h : DInv a0 b0 (x :: ra) (y :: rb) top L) (e : x.path = y.path) {q : List UInt8} (hq : lookE ra q ≠ none ∨ lookE rb q ≠ none) : compareP x.path q < 0 := by
  rcases hq with hq | hq
  · exact left_behind (List.pairwise_cons.1 h.ia).1 hq
  · rw [e]; exact left_behind (List.pairwise_cons.1 h.ib).1 hq
theorem DInv.both_up (h : DInv a0 b0 (x :: ra) (y :: rb) top L) (gb : Good b0) (e : x.path = y.path) (h0 : parent y.path ≠ []) : lookE L (parent y.path) = lookE b0 (parent y.path) := by
  have hn := good_neat gb (lookE_mem gb.inc (h.sb y (List.mem_cons_self ..)))
  have hpl := parent_less hn h0
  refine h.done _ (lookE_not fun z hz e2 => ?_) (lookE_not fun z hz e2 => ?_)
  · rcases List.mem_cons.1 hz with e3 | e3
    · subst e3; rw [← e2, e] at hpl; exact compareP_irrefl _ hpl
    · have := (List.pairwise_cons.1 h.ia).1 z e3
      rw [e2, e] at this
      exact lt_not hpl this
  · rcases List.mem_cons.1 hz with e3 | e3
    · subst e3; rw [← e2] at hpl; exact compareP_irrefl _ hpl
    · have := (List.pairwise_cons.1 h.ib).1 z e3
      rw [e2] at this
      exact lt_not hpl this
theorem DInv.at_both (h : DInv a0 b0 (x :: ra) (y :: rb) top L) (gb : Good b0) (e : x.path = y.path) : lookE L y.path = some x := by
  rw [← e, h.left x.path (.inl (by rw [lookE_cons, if_pos rfl]; simp)), h.seen gb e, lookE_cons, if_pos rfl]
  rfl
theorem DInv.keep (h : DInv a0 b0 (x :: ra) (y :: rb) top L) (gb : Good b0) (e : x = y) : DInv a0 b0 ra rb top L := by
  subst e
  have hp : x.path = x.path := rfl
  refine ⟨h.inc, (List.pairwise_cons.1 h.ia).2, (List.pairwise_cons.1 h.ib).2, fun z hz => h.sa z (List.mem_cons_of_mem _ hz), fun z hz => h.sb z (List.mem_cons_of_mem _ hz), h.both_old hp, fun q hq => ?_, fun q h1 h2 => ?_, fun t ht => ?_, fun t ht z hz hb => h.topB t ht z (List.mem_cons_of_mem _ hz) hb⟩
  · have hqx := lt_ne (h.both_lt hp hq)
    rw [h.left q (by rw [lookE_cons, lookE_cons, if_neg hqx, if_neg hqx]; exact hq), lookE_cons, if_neg hqx]
  · by_cases hq : x.path = q
    · subst hq
      rw [h.at_both gb hp, lookE_mem gb.inc (h.sb x (List.mem_cons_self ..))]
    · exact h.done q (by rw [lookE_cons, if_neg hq]; exact h1) (by rw [lookE_cons, if_neg hq]; exact h2)
  · obtain ⟨h1, h2, h3⟩ := h.topA t ht
    exact ⟨h1, fun z hz => h2 z (List.mem_cons_of_mem _ hz), fun z hz => h3 z (List.mem_cons_of_mem _ hz)⟩
theorem DInv.turn (h : DInv a0 b0 (x :: ra) (y :: rb) top L) (gb : Good b0) (e : x.path = y.path) (hk : alike x y = true) :
    doneL L (layOf y) = .ok (laidL L y) ∧ DInv a0 b0 ra rb top (laidL L y) := by
  have hyb := h.sb y (List.mem_cons_self ..)
  refine ⟨lay_done gb hyb (up_there gb hyb fun h0 => h.both_up gb e h0) (.inr ⟨x, h.at_both gb e, hk⟩), ⟨inc_laid h.inc, (List.pairwise_cons.1 h.ia).2, (List.pairwise_cons.1 h.ib).2, fun z hz => h.sa z (List.mem_cons_of_mem _ hz), fun z hz => h.sb z (List.mem_cons_of_mem _ hz), h.both_old e, fun q hq => ?_, fun q h1 h2 => ?_, fun t ht => ?_, fun t ht z hz hb => h.topB t ht z (List.mem_cons_of_mem _ hz) hb⟩⟩
  · have hqx := lt_ne (h.both_lt e hq)
    have hqy : y.path ≠ q := by rw [← e]; exact hqx
    rw [lookE_laid h.inc, if_neg (Ne.symm hqy), h.left q (by rw [lookE_cons, lookE_cons, if_neg hqx, if_neg hqy]; exact hq), lookE_cons, if_neg hqx]
  · rw [lookE_laid h.inc]
    by_cases hq : q = y.path
    · subst hq
      rw [if_pos rfl, lookE_mem gb.inc hyb]
    · rw [if_neg hq]
      exact h.done q (by rw [lookE_cons, if_neg (by rw [e]; exact Ne.symm hq)]; exact h1) (by rw [lookE_cons, if_neg (Ne.symm hq)]; exact h2)
  · obtain ⟨h1, h2, h3⟩ := h.topA t ht
    exact ⟨h1, fun z hz => h2 z (List.mem_cons_of_mem _ hz), fun z hz => h3 z (List.mem_cons_of_mem _ hz)⟩
theorem DInv.swap (h : DInv a0 b0 (x :: ra) (y :: rb) top L) (ga : Good a0) (gb : Good b0) (e : x.path = y.path) (hk : alike x y = false) :
    doneL L (goneOf x) = .ok (withoutL L x.path) ∧ doneL (withoutL L x.path) (layOf y) = .ok (laidL (withoutL L x.path) y) ∧ DInv a0 b0 ra rb (some x.path) (laidL (withoutL L x.path) y) := by
  have hyb := h.sb y (List.mem_cons_self ..)
  have hxa := h.sa x (List.mem_cons_self ..)
  have hne := good_ne ga hxa
  have hh := h.seen gb e
  have hi : Inc (withoutL L x.path) := List.Pairwise.filter _ h.inc
  have hlx := h.at_both gb e
  rw [← e] at hlx
  have hn := good_neat gb (lookE_mem gb.inc hyb)
  refine ⟨?_, lay_done gb hyb (up_there gb hyb fun h0 => ?_) (.inl ?_), ⟨inc_laid hi, (List.pairwise_cons.1 h.ia).2, (List.pairwise_cons.1 h.ib).2, fun z hz => h.sa z (List.mem_cons_of_mem _ hz), fun z hz => h.sb z (List.mem_cons_of_mem _ hz), h.both_old e, fun q hq => ?_, fun q h1 h2 => ?_, fun t ht => ?_, fun t ht z hz hb => ?_⟩⟩
  · unfold doneL
    rw [if_pos (show (goneOf x).g = true from rfl)]
    show (if x.path = [] then _ else if lookE L x.path = none then _ else _) = _
    rw [if_neg hne, hlx, if_neg (by simp)]
    rfl
  · have hpl := parent_less hn h0
    rw [lookE_without, if_neg, h.both_up gb e h0]
    rintro (h1 | h1)
    · rw [h1, e] at hpl; exact compareP_irrefl _ hpl
    · have := below_less hne h1
      rw [e] at this
      exact lt_not hpl this
  · rw [lookE_without, if_pos (.inl e.symm)]
  · have hlt := h.both_lt e hq
    have hqx := lt_ne hlt
    have hqy : y.path ≠ q := by rw [← e]; exact hqx
    rw [lookE_laid hi, if_neg (Ne.symm hqy), lookE_without]
    by_cases hb : belowP x.path q = true
    · rw [if_pos (.inr hb), if_pos (show hid (some x.path) q = true from hb)]
    · rw [if_neg (fun e => e.elim (fun e => hqx e.symm) hb), if_neg (show ¬ hid (some x.path) q = true from hb)]
      rw [h.left q (by rw [lookE_cons, lookE_cons, if_neg hqx, if_neg hqy]; exact hq), hid_contig (fun t ht => ⟨(h.topA t ht).1, (h.topA t ht).2.1 x (List.mem_cons_self ..)⟩) hh (Int.le_of_lt hlt), lookE_cons, if_neg hqx]
      rfl
  · rw [lookE_laid hi]
    by_cases hq : q = y.path
    · subst hq
      rw [if_pos rfl, lookE_mem gb.inc hyb]
    · rw [if_neg hq, lookE_without]
      by_cases hb : belowP x.path q = true
      · rw [if_pos (.inr hb), h.b_none (Int.le_of_lt (below_less hne hb)) (by rw [lookE_cons, if_neg (Ne.symm hq)]; exact h2)]
      · rw [if_neg (fun e2 => e2.elim (fun e2 => hq (by rw [e2, e])) hb)]
        exact h.done q (by rw [lookE_cons, if_neg (by rw [e]; exact Ne.symm hq)]; exact h1) (by rw [lookE_cons, if_neg (Ne.symm hq)]; exact h2)
  · injection ht with ht
    subst ht
    exact ⟨hne, (List.pairwise_cons.1 h.ia).1, by rw [e]; exact (List.pairwise_cons.1 h.ib).1⟩
  · injection ht with ht
    subst ht
    rintro ⟨f, hf, hfk⟩
    rw [e, lookE_mem gb.inc hyb] at hf
    injection hf with hf
    subst hf
    obtain ⟨c, hc⟩ := (below_pre hne).1 hb
    have hl := lookE_mem ga.inc (h.sa z (List.mem_cons_of_mem _ hz))
    rw [hc] at hl
    obtain ⟨d, hd, hdk⟩ := above_dir ga _ _ _ _ (Nat.le_refl _) hne hl
    rw [lookE_mem ga.inc hxa] at hd
    injection hd with hd
    subst hd
    unfold alike at hk
    rw [decide_eq_true hdk, decide_eq_true hfk] at hk
    cases hk
/-- THE LAW: what is unlike makes the second list of the first one -/
theorem chg_makes (ga : Good a0) (gb : Good b0) : ∀ (f : Nat) (ra rb : List Ent) (top : Option (List UInt8)) (L : List Ent) (i : Nat), ra.length + rb.length ≤ f → DInv a0 b0 ra rb top L → doL L (chgF f ra rb top) i = .ok b0
  | f, [], [], top, L, i, hf, h => by
    have : L = b0 := inc_ext h.inc gb.inc fun q => h.done q rfl rfl
    subst this
    cases f <;> rfl
  | 0, x :: a, rb, top, L, i, hf, h => by simp at hf
  | 0, [], y :: b, top, L, i, hf, h => by simp at hf
  | f + 1, x :: a, [], top, L, i, hf, h => by
    have hx : ∀ y ∈ ([] : List Ent), compareP x.path y.path < 0 := fun y hy => by cases hy
    unfold chgF
    by_cases hh : hid top x.path = true
    · rw [if_pos hh]
      exact chg_makes ga gb f _ _ _ _ _ (by simp at hf ⊢; omega) (h.hide hx hh)
    · rw [if_neg hh]
      obtain ⟨h1, h2⟩ := h.gone ga gb hx (by simpa using hh)
      rw [doL_cons h1]
      exact chg_makes ga gb f _ _ _ _ _ (by simp at hf ⊢; omega) h2
  | f + 1, [], y :: b, top, L, i, hf, h => by
    unfold chgF
    obtain ⟨h1, h2⟩ := h.lay gb (fun x hx => by cases hx)
    rw [doL_cons h1]
    exact chg_makes ga gb f _ _ _ _ _ (by simp at hf ⊢; omega) h2
  | f + 1, x :: a, y :: b, top, L, i, hf, h => by
    unfold chgF
    by_cases c1 : compareP x.path y.path < 0
    · rw [if_pos c1]
      have hx : ∀ z ∈ y :: b, compareP x.path z.path < 0 := fun z hz => by
        rcases List.mem_cons.1 hz with e | e
        · subst e; exact c1
        · exact compareP_trans c1 ((List.pairwise_cons.1 h.ib).1 z e)
      by_cases hh : hid top x.path = true
      · rw [if_pos hh]
        exact chg_makes ga gb f _ _ _ _ _ (by simp at hf ⊢; omega) (h.hide hx hh)
      · rw [if_neg hh]
        obtain ⟨h1, h2⟩ := h.gone ga gb hx (by simpa using hh)
        rw [doL_cons h1]
        exact chg_makes ga gb f _ _ _ _ _ (by simp at hf ⊢; omega) h2
    rw [if_neg c1]
    by_cases c2 : 0 < compareP x.path y.path
    · rw [if_pos c2]
      have c3 : compareP y.path x.path < 0 := by have := compareP_flip x.path y.path; omega
      obtain ⟨h1, h2⟩ := h.lay gb (fun z hz => by
        rcases List.mem_cons.1 hz with e | e
        · subst e; exact c3
        · exact compareP_trans c3 ((List.pairwise_cons.1 h.ia).1 z e))
      rw [doL_cons h1]
      exact chg_makes ga gb f _ _ _ _ _ (by simp at hf ⊢; omega) h2
    rw [if_neg c2]
    have e : x.path = y.path := compareP_zero.1 (by omega)
    by_cases hk : alike x y = true
    · rw [if_pos hk]
      by_cases he : entEq x y = true
      · rw [if_pos he]
        exact chg_makes ga gb f _ _ _ _ _ (by simp at hf ⊢; omega) (h.keep gb (entEq_iff.1 he))
      · rw [if_neg he]
        obtain ⟨h1, h2⟩ := h.turn gb e hk
        rw [doL_cons h1]
        exact chg_makes ga gb f _ _ _ _ _ (by simp at hf ⊢; omega) h2
    · rw [if_neg hk, if_neg (by rw [h.seen gb e]; decide)]
      obtain ⟨h1, h2, h3⟩ := h.swap ga gb e (by simpa using hk)
      rw [doL_cons h1, doL_cons h2]
      exact chg_makes ga gb f _ _ _ _ _ (by simp at hf ⊢; omega) h3
end
theorem DInv.start {a b : List Ent} (ga : Good a) (gb : Good b) : DInv a b a b none a := by
  exact ⟨ga.inc, ga.inc, gb.inc, fun x hx => hx, fun y hy => hy, fun y hy => .inl hy, fun q _ => rfl, fun q h1 h2 => by rw [h1, h2], (fun t ht => by cases ht), (fun t ht => by cases ht)⟩
theorem diff_makes {a b : List Ent} (ga : Good a) (gb : Good b) : doL a (chgL a b) 0 = .ok b := chg_makes ga gb _ _ _ _ _ _ (Nat.le_refl _) (.start ga gb)
end
end Go.Proofs.YtfanfkogogijpaaGreatDoor
namespace Go.Proofs.YtfanfkogogijpaaGreatDoor
section
/-- is a's entry none of b's, or of another sort there? -/
def lostE (b0 : List Ent) (x : Ent) : Bool := match lookE b0 x.path with
  | none => true
  | some y => !alike y x
def goneR (b0 pa : List Ent) (x : Ent) : Bool := lostE b0 x && !(pa.any fun z => belowP z.path x.path && lostE b0 z)
def laidR (a0 : List Ent) (y : Ent) : Bool := match lookE a0 y.path with
  | none => true
  | some x => !entEq x y
def refF (a0 b0 : List Ent) : Nat → List Ent → List Ent → List Ent → List Chg
  | 0, _, _, _ => []
  | _ + 1, _, [], [] => []
  | f + 1, pa, x :: a, [] => (if goneR b0 pa x = true then [goneOf x] else []) ++ refF a0 b0 f (pa ++ [x]) a []
  | f + 1, pa, [], y :: b => (if laidR a0 y = true then [layOf y] else []) ++ refF a0 b0 f pa [] b
  | f + 1, pa, x :: a, y :: b =>
    if compareP x.path y.path < 0 then (if goneR b0 pa x = true then [goneOf x] else []) ++ refF a0 b0 f (pa ++ [x]) a (y :: b)
    else if 0 < compareP x.path y.path then (if laidR a0 y = true then [layOf y] else []) ++ refF a0 b0 f pa (x :: a) b
    else (if goneR b0 pa x = true then [goneOf x] else []) ++ ((if laidR a0 y = true then [layOf y] else []) ++ refF a0 b0 f (pa ++ [x]) a b)
def refL (a b : List Ent) : List Chg := refF a b (a.length + b.length) [] a b
/-- what is left of two lists in order -/
structure ROrd (a0 b0 ra rb : List Ent) : Prop where
  ia : Inc ra
  ib : Inc rb
  sa : ∀ x ∈ ra, x ∈ a0
  sb : ∀ y ∈ rb, y ∈ b0
  olda : ∀ x ∈ a0, x ∈ ra ∨ ((∀ z ∈ ra, compareP x.path z.path < 0) ∧ ∀ z ∈ rb, compareP x.path z.path < 0)
  oldb : ∀ y ∈ b0, y ∈ rb ∨ ((∀ x ∈ ra, compareP y.path x.path < 0) ∧ ∀ z ∈ rb, compareP y.path z.path < 0)
structure RHid (b0 pa ra rb : List Ent) (top : Option (List UInt8)) : Prop where
  topA : ∀ t, top = some t → t ≠ [] ∧ (∀ x ∈ ra, compareP t x.path < 0) ∧ ∀ y ∈ rb, compareP t y.path < 0
  hidI : ∀ q, lookE ra q ≠ none ∨ lookE rb q ≠ none → (hid top q = true ↔ ∃ z ∈ pa, lostE b0 z = true ∧ belowP z.path q = true)
section
variable {a0 b0 pa ra rb rb2 : List Ent} {x y : Ent} {top : Option (List UInt8)}
theorem ROrd.a (h : ROrd a0 b0 (x :: ra) rb) (hx : ∀ y ∈ rb, compareP x.path y.path < 0) : ROrd a0 b0 ra rb := by
  refine ⟨(List.pairwise_cons.1 h.ia).2, h.ib, fun z hz => h.sa z (List.mem_cons_of_mem _ hz), h.sb, fun z hz => ?_, fun z hz => ?_⟩
  · rcases h.olda z hz with h1 | ⟨h1, h2⟩
    · rcases List.mem_cons.1 h1 with e | e
      · subst e; exact .inr ⟨(List.pairwise_cons.1 h.ia).1, hx⟩
      · exact .inl e
    · exact .inr ⟨fun w hw => h1 w (List.mem_cons_of_mem _ hw), h2⟩
  · rcases h.oldb z hz with h1 | ⟨h1, h2⟩
    · exact .inl h1
    · exact .inr ⟨fun w hw => h1 w (List.mem_cons_of_mem _ hw), h2⟩
theorem ROrd.b (h : ROrd a0 b0 ra (y :: rb)) (hy : ∀ x ∈ ra, compareP y.path x.path < 0) : ROrd a0 b0 ra rb := by
  refine ⟨h.ia, (List.pairwise_cons.1 h.ib).2, h.sa, fun z hz => h.sb z (List.mem_cons_of_mem _ hz), fun z hz => ?_, fun z hz => ?_⟩
  · rcases h.olda z hz with h1 | ⟨h1, h2⟩
    · exact .inl h1
    · exact .inr ⟨h1, fun w hw => h2 w (List.mem_cons_of_mem _ hw)⟩
  · rcases h.oldb z hz with h1 | ⟨h1, h2⟩
    · rcases List.mem_cons.1 h1 with e | e
      · subst e; exact .inr ⟨hy, (List.pairwise_cons.1 h.ib).1⟩
      · exact .inl e
    · exact .inr ⟨h1, fun w hw => h2 w (List.mem_cons_of_mem _ hw)⟩
theorem ROrd.ab (h : ROrd a0 b0 (x :: ra) (y :: rb)) (e : x.path = y.path) : ROrd a0 b0 ra rb := by
  have hxa := (List.pairwise_cons.1 h.ia).1
  have hyb := (List.pairwise_cons.1 h.ib).1
  refine ⟨(List.pairwise_cons.1 h.ia).2, (List.pairwise_cons.1 h.ib).2, fun z hz => h.sa z (List.mem_cons_of_mem _ hz), fun z hz => h.sb z (List.mem_cons_of_mem _ hz), fun z hz => ?_, fun z hz => ?_⟩
  · rcases h.olda z hz with h1 | ⟨h1, h2⟩
    · rcases List.mem_cons.1 h1 with e2 | e2
      · subst e2; exact .inr ⟨hxa, by rw [e]; exact hyb⟩
      · exact .inl e2
    · exact .inr ⟨fun w hw => h1 w (List.mem_cons_of_mem _ hw), fun w hw => h2 w (List.mem_cons_of_mem _ hw)⟩
  · rcases h.oldb z hz with h1 | ⟨h1, h2⟩
    · rcases List.mem_cons.1 h1 with e2 | e2
      · subst e2; exact .inr ⟨by rw [← e]; exact hxa, hyb⟩
      · exact .inl e2
    · exact .inr ⟨fun w hw => h1 w (List.mem_cons_of_mem _ hw), fun w hw => h2 w (List.mem_cons_of_mem _ hw)⟩
theorem rest_lt (h : ROrd a0 b0 (x :: ra) rb) (hx : ∀ y ∈ rb2, compareP x.path y.path < 0) {q : List UInt8} (hq : lookE ra q ≠ none ∨ lookE rb2 q ≠ none) : compareP x.path q < 0 := by
  rcases hq with hq | hq
  · exact left_behind (List.pairwise_cons.1 h.ia).1 hq
  · exact left_behind hx hq
theorem look_in (hs : ∀ y ∈ rb2, y ∈ rb) (hb : Inc rb) {q : List UInt8} (hq : lookE rb2 q ≠ none) : lookE rb q ≠ none := by
  cases hl : lookE rb2 q with
  | none => exact absurd hl hq
  | some z =>
    obtain ⟨h1, h2⟩ := lookE_some hl
    rw [← h2, lookE_mem hb (hs z h1)]
    simp
theorem more_left (ho : ROrd a0 b0 (x :: ra) rb) (hs : ∀ y ∈ rb2, y ∈ rb) {q : List UInt8} (hq : lookE ra q ≠ none ∨ lookE rb2 q ≠ none) : lookE (x :: ra) q ≠ none ∨ lookE rb q ≠ none := by
  rcases hq with hq | hq
  · exact .inl (look_in (fun y hy => List.mem_cons_of_mem _ hy) ho.ia hq)
  · exact .inr (look_in hs ho.ib hq)
/-- taken away: it is the top now -/
theorem RHid.gone (h : RHid b0 pa (x :: ra) rb top) (ho : ROrd a0 b0 (x :: ra) rb) (hne : x.path ≠ []) (hs : ∀ y ∈ rb2, y ∈ rb) (hx : ∀ y ∈ rb2, compareP x.path y.path < 0) (hl : lostE b0 x = true) (hh : hid top x.path = false) : RHid b0 (pa ++ [x]) ra rb2 (some x.path) := by
  refine ⟨fun t ht => ?_, fun q hq => ⟨fun hb => ⟨x, by simp, hl, hb⟩, fun ⟨z, hz, hzl, hzb⟩ => ?_⟩⟩
  · injection ht with ht
    subst ht
    exact ⟨hne, (List.pairwise_cons.1 ho.ia).1, hx⟩
  · rcases List.mem_append.1 hz with hz | hz
    · have h1 := (h.hidI q (more_left ho hs hq)).2 ⟨z, hz, hzl, hzb⟩
      have h2 := hid_contig (fun t ht => ⟨(h.topA t ht).1, (h.topA t ht).2.1 x (List.mem_cons_self ..)⟩) hh (Int.le_of_lt (rest_lt ho hx hq))
      rw [h1] at h2
      cases h2
    · rw [List.mem_singleton.1 hz] at hzb
      exact hzb
/-- hidden, or not lost: the top stays -/
theorem RHid.pass (h : RHid b0 pa (x :: ra) rb top) (ho : ROrd a0 b0 (x :: ra) rb) (hne : x.path ≠ []) (hs : ∀ y ∈ rb2, y ∈ rb) (hh : hid top x.path = true ∨ lostE b0 x = false) : RHid b0 (pa ++ [x]) ra rb2 top := by
  refine ⟨fun t ht => ?_, fun q hq => ⟨fun hb => ?_, fun ⟨z, hz, hzl, hzb⟩ => ?_⟩⟩
  · obtain ⟨h1, h2, h3⟩ := h.topA t ht
    exact ⟨h1, fun z hz => h2 z (List.mem_cons_of_mem _ hz), fun z hz => h3 z (hs z hz)⟩
  · obtain ⟨z, hz, h1, h2⟩ := (h.hidI q (more_left ho hs hq)).1 hb
    exact ⟨z, List.mem_append_left _ hz, h1, h2⟩
  · rcases List.mem_append.1 hz with hz | hz
    · exact (h.hidI q (more_left ho hs hq)).2 ⟨z, hz, hzl, hzb⟩
    · rw [List.mem_singleton.1 hz] at hzb hzl
      rcases hh with hh | hh
      · cases top with
        | none => cases hh
        | some t => exact below_trans (h.topA t rfl).1 hne hh hzb
      · rw [hzl] at hh; cases hh
theorem RHid.b (h : RHid b0 pa ra rb top) (hb : Inc rb) (hs : ∀ y ∈ rb2, y ∈ rb) : RHid b0 pa ra rb2 top := by
  refine ⟨fun t ht => ?_, fun q hq => h.hidI q (hq.imp id (look_in hs hb))⟩
  obtain ⟨h1, h2, h3⟩ := h.topA t ht
  exact ⟨h1, h2, fun z hz => h3 z (hs z hz)⟩
theorem RHid.goneR (h : RHid b0 pa (x :: ra) rb top) : goneR b0 pa x = (lostE b0 x && !hid top x.path) := by
  have hi := h.hidI x.path (.inl (by rw [lookE_cons, if_pos rfl]; simp))
  unfold Go.Proofs.YtfanfkogogijpaaGreatDoor.goneR
  congr 2
  cases hh : hid top x.path with
  | true =>
    obtain ⟨z, hz, h1, h2⟩ := hi.1 hh
    rw [List.any_eq_true]
    exact ⟨z, hz, by rw [h1, h2]; rfl⟩
  | false =>
    rw [List.any_eq_false]
    intro z hz h1
    simp at h1
    rw [hi.2 ⟨z, hz, h1.2, h1.1⟩] at hh
    cases hh
theorem ROrd.b_none (h : ROrd a0 b0 (x :: ra) rb) (hx : ∀ y ∈ rb, compareP x.path y.path < 0) : lookE b0 x.path = none := lookE_not fun y hy e => by
  rcases h.oldb y hy with h1 | ⟨h1, _⟩
  · have := hx y h1
    rw [e] at this
    exact compareP_irrefl _ this
  · have := h1 x (List.mem_cons_self ..)
    rw [e] at this
    exact compareP_irrefl _ this
theorem ROrd.a_none (h : ROrd a0 b0 ra (y :: rb)) (hy : ∀ x ∈ ra, compareP y.path x.path < 0) : lookE a0 y.path = none := lookE_not fun x hx e => by
  rcases h.olda x hx with h1 | ⟨_, h1⟩
  · have := hy x h1
    rw [e] at this
    exact compareP_irrefl _ this
  · have := h1 y (List.mem_cons_self ..)
    rw [e] at this
    exact compareP_irrefl _ this
theorem alike_comm (x y : Ent) : alike x y = alike y x := by unfold alike; exact Bool.beq_comm
/-- THE LAW: the reference says what the program says -/
theorem ref_chg (ga : Good a0) (gb : Good b0) : ∀ (f : Nat) (pa ra rb : List Ent) (top : Option (List UInt8)), ROrd a0 b0 ra rb → RHid b0 pa ra rb top → refF a0 b0 f pa ra rb = chgF f ra rb top
  | 0, pa, ra, rb, top, ho, h => by unfold refF chgF; rfl
  | f + 1, pa, [], [], top, ho, h => by unfold refF chgF; rfl
  | f + 1, pa, x :: a, [], top, ho, h => by
    have hx : ∀ y ∈ ([] : List Ent), compareP x.path y.path < 0 := fun y hy => by cases hy
    have hne := good_ne ga (ho.sa x (List.mem_cons_self ..))
    have hl : lostE b0 x = true := by unfold lostE; rw [ho.b_none hx]
    unfold refF chgF
    rw [h.goneR, hl]
    cases hh : hid top x.path with
    | true =>
      rw [ref_chg ga gb f _ _ _ _ (ho.a hx) (h.pass ho hne (fun y hy => hy) (.inl hh))]
      simp
    | false =>
      rw [ref_chg ga gb f _ _ _ _ (ho.a hx) (h.gone ho hne (fun y hy => hy) hx hl hh)]
      simp
  | f + 1, pa, [], y :: b, top, ho, h => by
    have hy : ∀ x ∈ ([] : List Ent), compareP y.path x.path < 0 := fun x hx => by cases hx
    have hl : laidR a0 y = true := by unfold laidR; rw [ho.a_none hy]
    unfold refF chgF
    rw [hl, ref_chg ga gb f _ _ _ _ (ho.b hy) (h.b ho.ib (fun z hz => List.mem_cons_of_mem _ hz))]
    simp
  | f + 1, pa, x :: a, y :: b, top, ho, h => by
    have hne := good_ne ga (ho.sa x (List.mem_cons_self ..))
    unfold refF chgF
    by_cases c1 : compareP x.path y.path < 0
    · rw [if_pos c1, if_pos c1]
      have hx : ∀ z ∈ y :: b, compareP x.path z.path < 0 := fun z hz => by
        rcases List.mem_cons.1 hz with e | e
        · subst e; exact c1
        · exact compareP_trans c1 ((List.pairwise_cons.1 ho.ib).1 z e)
      have hl : lostE b0 x = true := by unfold lostE; rw [ho.b_none hx]
      rw [h.goneR, hl]
      cases hh : hid top x.path with
      | true =>
        rw [ref_chg ga gb f _ _ _ _ (ho.a hx) (h.pass ho hne (fun y hy => hy) (.inl hh))]
        simp
      | false =>
        rw [ref_chg ga gb f _ _ _ _ (ho.a hx) (h.gone ho hne (fun y hy => hy) hx hl hh)]
        simp
    rw [if_neg c1, if_neg c1]
    by_cases c2 : 0 < compareP x.path y.path
    · rw [if_pos c2, if_pos c2]
      have c3 : compareP y.path x.path < 0 := by have := compareP_flip x.path y.path; omega
      have hy : ∀ z ∈ x :: a, compareP y.path z.path < 0 := fun z hz => by
        rcases List.mem_cons.1 hz with e | e
        · subst e; exact c3
        · exact compareP_trans c3 ((List.pairwise_cons.1 ho.ia).1 z e)
      have hl : laidR a0 y = true := by unfold laidR; rw [ho.a_none hy]
      rw [hl, ref_chg ga gb f _ _ _ _ (ho.b hy) (h.b ho.ib (fun z hz => List.mem_cons_of_mem _ hz))]
      simp
    rw [if_neg c2, if_neg c2]
    have e : x.path = y.path := compareP_zero.1 (by omega)
    have hbs : ∀ z ∈ b, z ∈ y :: b := fun z hz => List.mem_cons_of_mem _ hz
    have hxb : ∀ z ∈ b, compareP x.path z.path < 0 := by rw [e]; exact (List.pairwise_cons.1 ho.ib).1
    have hly : lookE a0 y.path = some x := by rw [← e]; exact lookE_mem ga.inc (ho.sa x (List.mem_cons_self ..))
    have hlx : lookE b0 x.path = some y := by rw [e]; exact lookE_mem gb.inc (ho.sb y (List.mem_cons_self ..))
    have hl : lostE b0 x = !alike x y := by unfold lostE; rw [hlx, alike_comm]
    have hr : laidR a0 y = !entEq x y := by unfold laidR; rw [hly]
    rw [h.goneR, hl, hr]
    cases hk : alike x y with
    | true =>
      rw [ref_chg ga gb f _ _ _ _ (ho.ab e) (h.pass ho hne hbs (.inr (by rw [hl, hk]; rfl)))]
      cases he : entEq x y <;> simp
    | false =>
      have he : entEq x y = false := by
        cases he : entEq x y with
        | false => rfl
        | true =>
          have := entEq_iff.1 he
          subst this
          unfold alike at hk
          simp at hk
      rw [he]
      cases hh : hid top x.path with
      | true =>
        rw [ref_chg ga gb f _ _ _ _ (ho.ab e) (h.pass ho hne hbs (.inl hh))]
        simp
      | false =>
        rw [ref_chg ga gb f _ _ _ _ (ho.ab e) (h.gone ho hne hbs hxb (by rw [hl, hk]; rfl) hh)]
        simp
theorem ROrd.start {a b : List Ent} (ga : Good a) (gb : Good b) : ROrd a b a b := ⟨ga.inc, gb.inc, fun x hx => hx, fun x hx => hx, fun x hx => .inl hx, fun x hx => .inl hx⟩
theorem refL_chg {a b : List Ent} (ga : Good a) (gb : Good b) : refL a b = chgL a b := by
  unfold refL chgL
  exact ref_chg ga gb _ _ _ _ _ (.start ga gb) ⟨(fun t ht => by cases ht), fun q hq => ⟨(fun h => by cases h), fun ⟨z, hz, _⟩ => by cases hz⟩⟩
/- the form -/
theorem chg_from : ∀ (f : Nat) (ra rb : List Ent) (top : Option (List UInt8)), ∀ c ∈ chgF f ra rb top, (c.g = true ∧ ∃ x ∈ ra, c = goneOf x) ∨ (c.g = false ∧ ∃ y ∈ rb, c = layOf y)
  | 0, ra, rb, top, c, hc => by unfold chgF at hc; cases hc
  | f + 1, [], [], top, c, hc => by unfold chgF at hc; cases hc
  | f + 1, x :: a, [], top, c, hc => by
    have up : ∀ top, c ∈ chgF f a [] top → (c.g = true ∧ ∃ z ∈ x :: a, c = goneOf z) ∨ (c.g = false ∧ ∃ y ∈ ([] : List Ent), c = layOf y) := fun top h => by
      rcases chg_from f a [] top c h with ⟨h1, z, h2, h3⟩ | h
      · exact .inl ⟨h1, z, List.mem_cons_of_mem _ h2, h3⟩
      · exact .inr h
    unfold chgF at hc
    split at hc
    · exact up _ hc
    · rcases List.mem_cons.1 hc with e | e
      · exact .inl ⟨by rw [e]; rfl, x, List.mem_cons_self .., e⟩
      · exact up _ e
  | f + 1, [], y :: b, top, c, hc => by
    unfold chgF at hc
    rcases List.mem_cons.1 hc with e | e
    · exact .inr ⟨by rw [e]; rfl, y, List.mem_cons_self .., e⟩
    · rcases chg_from f [] b top c e with ⟨h1, z, h2, h3⟩ | ⟨h1, z, h2, h3⟩
      · cases h2
      · exact .inr ⟨h1, z, List.mem_cons_of_mem _ h2, h3⟩
  | f + 1, x :: a, y :: b, top, c, hc => by
    have up : ∀ (ra rb : List Ent) (top : Option (List UInt8)), (∀ z ∈ ra, z ∈ x :: a) → (∀ z ∈ rb, z ∈ y :: b) → c ∈ chgF f ra rb top → (c.g = true ∧ ∃ z ∈ x :: a, c = goneOf z) ∨ (c.g = false ∧ ∃ z ∈ y :: b, c = layOf z) := fun ra rb top h1 h2 h => by
      rcases chg_from f ra rb top c h with ⟨h3, z, h4, h5⟩ | ⟨h3, z, h4, h5⟩
      · exact .inl ⟨h3, z, h1 z h4, h5⟩
      · exact .inr ⟨h3, z, h2 z h4, h5⟩
    have gx : c = goneOf x → (c.g = true ∧ ∃ z ∈ x :: a, c = goneOf z) ∨ (c.g = false ∧ ∃ z ∈ y :: b, c = layOf z) := fun e => .inl ⟨by rw [e]; rfl, x, List.mem_cons_self .., e⟩
    have ly : c = layOf y → (c.g = true ∧ ∃ z ∈ x :: a, c = goneOf z) ∨ (c.g = false ∧ ∃ z ∈ y :: b, c = layOf z) := fun e => .inr ⟨by rw [e]; rfl, y, List.mem_cons_self .., e⟩
    have ta : ∀ z ∈ a, z ∈ x :: a := fun z hz => List.mem_cons_of_mem _ hz
    have tb : ∀ z ∈ b, z ∈ y :: b := fun z hz => List.mem_cons_of_mem _ hz
    unfold chgF at hc
    split at hc
    · split at hc
      · exact up _ _ _ ta (fun z hz => hz) hc
      · rcases List.mem_cons.1 hc with e | e
        · exact gx e
        · exact up _ _ _ ta (fun z hz => hz) e
    split at hc
    · rcases List.mem_cons.1 hc with e | e
      · exact ly e
      · exact up _ _ _ (fun z hz => hz) tb e
    split at hc
    · split at hc
      · exact up _ _ _ ta tb hc
      · rcases List.mem_cons.1 hc with e | e
        · exact ly e
        · exact up _ _ _ ta tb e
    split at hc
    · rcases List.mem_cons.1 hc with e | e
      · exact ly e
      · exact up _ _ _ ta tb e
    · rcases List.mem_cons.1 hc with e | e
      · exact gx e
      · rcases List.mem_cons.1 e with e | e
        · exact ly e
        · exact up _ _ _ ta tb e
theorem chg_len : ∀ (f : Nat) (ra rb : List Ent) (top : Option (List UInt8)), (chgF f ra rb top).length ≤ ra.length + rb.length
  | 0, ra, rb, top => by unfold chgF; simp
  | f + 1, [], [], top => by unfold chgF; simp
  | f + 1, x :: a, [], top => by
    have h1 := chg_len f a [] top
    have h2 := chg_len f a [] (some x.path)
    unfold chgF
    split <;> simp at * <;> omega
  | f + 1, [], y :: b, top => by
    have h1 := chg_len f [] b top
    unfold chgF
    simp at *
    omega
  | f + 1, x :: a, y :: b, top => by
    have h1 := chg_len f a (y :: b) top
    have h2 := chg_len f a (y :: b) (some x.path)
    have h3 := chg_len f (x :: a) b top
    have h4 := chg_len f a b top
    have h5 := chg_len f a b (some x.path)
    unfold chgF
    repeat (first | (simp at *; omega) | split)
/-- one change ahead of another: in order; at one path the one that is gone first; nothing that is gone below what is gone -/
def CRel (c d : Chg) : Prop := (compareP c.path d.path < 0 ∨ (c.path = d.path ∧ c.g = true ∧ d.g = false)) ∧ (c.g = true → d.g = true → belowP c.path d.path = false)
theorem chg_shown : ∀ (f : Nat) (ra rb : List Ent) (top : Option (List UInt8)), Inc ra → Inc rb → (∀ t, top = some t → t ≠ [] ∧ (∀ x ∈ ra, compareP t x.path < 0)) → (∀ x ∈ ra, x.path ≠ []) → ∀ c ∈ chgF f ra rb top, c.g = true → hid top c.path = false
  | 0, ra, rb, top, ia, ib, ht, hn, c, hc, hg => by unfold chgF at hc; cases hc
  | f + 1, [], rb, top, ia, ib, ht, hn, c, hc, hg => by
    rcases chg_from _ _ _ _ c hc with ⟨_, x, hx, _⟩ | ⟨h, _⟩
    · cases hx
    · rw [hg] at h; cases h
  | f + 1, x :: a, rb, top, ia, ib, ht, hn, c, hc, hg => by
    have hxa := (List.pairwise_cons.1 ia).1
    have ia2 := (List.pairwise_cons.1 ia).2
    have hn2 : ∀ z ∈ a, z.path ≠ [] := fun z hz => hn z (List.mem_cons_of_mem _ hz)
    have ht2 : ∀ t, top = some t → t ≠ [] ∧ (∀ z ∈ a, compareP t z.path < 0) := fun t h => ⟨(ht t h).1, fun z hz => (ht t h).2 z (List.mem_cons_of_mem _ hz)⟩
    have htx : ∀ t, some x.path = some t → t ≠ [] ∧ (∀ z ∈ a, compareP t z.path < 0) := fun t h => by
      injection h with h
      subst h
      exact ⟨hn x (List.mem_cons_self ..), hxa⟩
    have hx : ∀ rb2, c ∈ chgF f a rb2 (some x.path) → hid top x.path = false → hid top c.path = false := fun rb2 h hh => by
      rcases chg_from _ _ _ _ c h with ⟨_, z, hz, he⟩ | ⟨h1, _⟩
      · rw [he]
        exact hid_contig (fun t h => ⟨(ht t h).1, (ht t h).2 x (List.mem_cons_self ..)⟩) hh (Int.le_of_lt (hxa z hz))
      · rw [hg] at h1; cases h1
    have hgx : c = goneOf x → hid top x.path = false → hid top c.path = false := fun e h => by rw [e]; exact h
    cases rb with
    | nil =>
      unfold chgF at hc
      split at hc
      · exact chg_shown f _ _ _ ia2 ib ht2 hn2 c hc hg
      · rename_i hh
        rcases List.mem_cons.1 hc with e | e
        · exact hgx e (by simpa using hh)
        · exact hx _ e (by simpa using hh)
    | cons y b =>
      have ib2 := (List.pairwise_cons.1 ib).2
      have hly : c ≠ layOf y := fun e => by rw [e] at hg; cases hg
      unfold chgF at hc
      split at hc
      · split at hc
        · exact chg_shown f _ _ _ ia2 ib ht2 hn2 c hc hg
        · rename_i hh
          rcases List.mem_cons.1 hc with e | e
          · exact hgx e (by simpa using hh)
          · exact hx _ e (by simpa using hh)
      split at hc
      · rcases List.mem_cons.1 hc with e | e
        · exact absurd e hly
        · exact chg_shown f _ _ _ ia ib2 ht hn c e hg
      split at hc
      · split at hc
        · exact chg_shown f _ _ _ ia2 ib2 ht2 hn2 c hc hg
        · rcases List.mem_cons.1 hc with e | e
          · exact absurd e hly
          · exact chg_shown f _ _ _ ia2 ib2 ht2 hn2 c e hg
      split at hc
      · rcases List.mem_cons.1 hc with e | e
        · exact absurd e hly
        · exact chg_shown f _ _ _ ia2 ib2 ht2 hn2 c e hg
      · rename_i hh
        rcases List.mem_cons.1 hc with e | e
        · exact hgx e (by simpa using hh)
        · rcases List.mem_cons.1 e with e | e
          · exact absurd e hly
          · exact hx _ e (by simpa using hh)
theorem chg_behind {p : List UInt8} {f : Nat} {ra rb : List Ent} {top : Option (List UInt8)} (ha : ∀ x ∈ ra, compareP p x.path < 0) (hb : ∀ y ∈ rb, compareP p y.path < 0) : ∀ c ∈ chgF f ra rb top, compareP p c.path < 0 := fun c hc => by
  rcases chg_from _ _ _ _ c hc with ⟨_, x, hx, he⟩ | ⟨_, y, hy, he⟩
  · rw [he]; exact ha x hx
  · rw [he]; exact hb y hy
theorem chg_form : ∀ (f : Nat) (ra rb : List Ent) (top : Option (List UInt8)), Inc ra → Inc rb → (∀ x ∈ ra, x.path ≠ []) → (chgF f ra rb top).Pairwise CRel
  | 0, ra, rb, top, ia, ib, hn => by unfold chgF; exact List.Pairwise.nil
  | f + 1, [], [], top, ia, ib, hn => by unfold chgF; exact List.Pairwise.nil
  | f + 1, x :: a, [], top, ia, ib, hn => by
    have hxa := (List.pairwise_cons.1 ia).1
    have ia2 := (List.pairwise_cons.1 ia).2
    have hn2 : ∀ z ∈ a, z.path ≠ [] := fun z hz => hn z (List.mem_cons_of_mem _ hz)
    unfold chgF
    split
    · exact chg_form f _ _ _ ia2 ib hn2
    · refine List.pairwise_cons.2 ⟨fun c hc => ⟨.inl (chg_behind hxa (fun y hy => by cases hy) c hc), fun _ hg => ?_⟩, chg_form f _ _ _ ia2 ib hn2⟩
      exact chg_shown f _ _ _ ia2 ib (fun t ht => by injection ht with ht; subst ht; exact ⟨hn x (List.mem_cons_self ..), hxa⟩) hn2 c hc hg
  | f + 1, [], y :: b, top, ia, ib, hn => by
    unfold chgF
    exact List.pairwise_cons.2 ⟨fun c hc => ⟨.inl (chg_behind (fun y hy => by cases hy) (List.pairwise_cons.1 ib).1 c hc), fun h => by cases h⟩, chg_form f _ _ _ ia (List.pairwise_cons.1 ib).2 hn⟩
  | f + 1, x :: a, y :: b, top, ia, ib, hn => by
    have hxa := (List.pairwise_cons.1 ia).1
    have ia2 := (List.pairwise_cons.1 ia).2
    have hyb := (List.pairwise_cons.1 ib).1
    have ib2 := (List.pairwise_cons.1 ib).2
    have hne := hn x (List.mem_cons_self ..)
    have hn2 : ∀ z ∈ a, z.path ≠ [] := fun z hz => hn z (List.mem_cons_of_mem _ hz)
    have htx : ∀ t, some x.path = some t → t ≠ [] ∧ (∀ z ∈ a, compareP t z.path < 0) := fun t h => by
      injection h with h
      subst h
      exact ⟨hne, hxa⟩
    unfold chgF
    by_cases c1 : compareP x.path y.path < 0
    · rw [if_pos c1]
      have hx : ∀ z ∈ y :: b, compareP x.path z.path < 0 := fun z hz => by
        rcases List.mem_cons.1 hz with e | e
        · subst e; exact c1
        · exact compareP_trans c1 (hyb z e)
      split
      · exact chg_form f _ _ _ ia2 ib hn2
      · refine List.pairwise_cons.2 ⟨fun c hc => ⟨.inl (chg_behind hxa hx c hc), fun _ hg => ?_⟩, chg_form f _ _ _ ia2 ib hn2⟩
        exact chg_shown f _ _ _ ia2 ib htx hn2 c hc hg
    rw [if_neg c1]
    by_cases c2 : 0 < compareP x.path y.path
    · rw [if_pos c2]
      have c3 : compareP y.path x.path < 0 := by have := compareP_flip x.path y.path; omega
      have hy : ∀ z ∈ x :: a, compareP y.path z.path < 0 := fun z hz => by
        rcases List.mem_cons.1 hz with e | e
        · subst e; exact c3
        · exact compareP_trans c3 (hxa z e)
      exact List.pairwise_cons.2 ⟨fun c hc => ⟨.inl (chg_behind hy hyb c hc), fun h => by cases h⟩, chg_form f _ _ _ ia ib2 hn⟩
    rw [if_neg c2]
    have e : x.path = y.path := compareP_zero.1 (by omega)
    have hya : ∀ z ∈ a, compareP y.path z.path < 0 := by rw [← e]; exact hxa
    have hxb : ∀ z ∈ b, compareP x.path z.path < 0 := by rw [e]; exact hyb
    have one : ∀ top, (layOf y :: chgF f a b top).Pairwise CRel := fun top =>
      List.pairwise_cons.2 ⟨fun c hc => ⟨.inl (chg_behind hya hyb c hc), fun h => by cases h⟩, chg_form f _ _ _ ia2 ib2 hn2⟩
    split
    · split
      · exact chg_form f _ _ _ ia2 ib2 hn2
      · exact one _
    split
    · exact one _
    · refine List.pairwise_cons.2 ⟨fun c hc => ?_, one _⟩
      rcases List.mem_cons.1 hc with e2 | hc
      · subst e2
        exact ⟨.inr ⟨e, rfl, rfl⟩, fun _ h => by cases h⟩
      · exact ⟨.inl (chg_behind hxa hxb c hc), fun _ hg => chg_shown f _ _ _ ia2 ib2 htx hn2 c hc hg⟩
end
theorem chgL_form {a b : List Ent} (ga : Good a) (gb : Good b) : (chgL a b).Pairwise CRel := chg_form _ _ _ _ ga.inc gb.inc (fun x hx => good_ne ga hx)
/-- there is nothing unlike just where they are the same -/
theorem chgL_none {a b : List Ent} (ga : Good a) (gb : Good b) : chgL a b = [] ↔ a = b := by
  constructor
  · intro h
    have := diff_makes ga gb
    rw [h] at this
    injection this
  · intro h
    subst h
    unfold chgL
    generalize a.length + a.length = f
    have : ∀ (f : Nat) (l : List Ent) (top : Option (List UInt8)), chgF f l l top = [] := by
      intro f
      induction f with
      | zero => intro l top; unfold chgF; rfl
      | succ f ih =>
        intro l top
        cases l with
        | nil => unfold chgF; rfl
        | cons x r =>
          unfold chgF
          have h0 : compareP x.path x.path = 0 := compareP_zero.2 rfl
          rw [if_neg (by omega), if_neg (by omega), if_pos (by unfold alike; simp), if_pos (entEq_iff.2 rfl)]
          exact ih r top
    exact this f a none
end
end Go.Proofs.YtfanfkogogijpaaGreatDoor
