/- The order of a tree's entries; what is put into its list and taken away (TOrder, TLaid). -/
import Derived.Test.YtfanfkogogijpaaGreatDoorTCheck
set_option linter.unusedSimpArgs false
set_option linter.unusedVariables false
namespace Go.Proofs.YtfanfkogogijpaaGreatDoor
section
/-- the pieces of a place: of the root none -/
def PP (q : List UInt8) : List (List UInt8) := if q = [] then [] else pcs q
theorem PP_nil : PP [] = [] := if_pos rfl
theorem PP_ne {q : List UInt8} (h : q ≠ []) : PP q = pcs q := if_neg h
theorem PP_inj {a b : List UInt8} (h : PP a = PP b) : a = b := by
  by_cases ha : a = [] <;> by_cases hb : b = []
  · rw [ha, hb]
  · rw [ha, PP_nil, PP_ne hb] at h
    exact absurd h.symm (pcs_ne b)
  · rw [hb, PP_nil, PP_ne ha] at h
    exact absurd h (pcs_ne a)
  · rw [PP_ne ha, PP_ne hb] at h
    exact pcs_inj h
theorem PP_parent {p : List UInt8} (h : Neat p) : pcs p = PP (parent p) ++ [lastName p] := by
  conv => lhs; rw [h.is_join]
  unfold joinP
  by_cases h0 : parent p = []
  · rw [if_pos h0, h0, PP_nil, pcs_plain (last_no47 p)]
    rfl
  · rw [if_neg h0, pcs_cat, pcs_plain (last_no47 p), PP_ne h0]
/-- does a path lie below a place? -/
def Under (q p : List UInt8) : Prop := ∃ c r, pcs p = PP q ++ c :: r
theorem under_kid {q p : List UInt8} (h : Neat p) (hp : parent p = q) : Under q p := ⟨lastName p, [], by rw [PP_parent h, hp]⟩
theorem under_trans {a b c : List UInt8} (hb : b ≠ []) (h : Under a b) (k : Under b c) : Under a c := by
  obtain ⟨x, r, h⟩ := h
  obtain ⟨y, s, k⟩ := k
  rw [PP_ne hb, h] at k
  exact ⟨x, r ++ y :: s, by rw [k]; simp⟩
/-- what lies below a place and is none of its own lies below its parent -/
theorem under_parent {q p : List UInt8} (hn : Neat p) (h : Under q p) (hp : parent p ≠ q) : Under q (parent p) ∧ parent p ≠ [] := by
  obtain ⟨c, r, h⟩ := h
  rw [PP_parent hn] at h
  rcases List.eq_nil_or_concat r with rfl | ⟨r', d, rfl⟩
  · exact absurd (PP_inj (List.append_inj' h rfl).1) hp
  · have h2 : PP (parent p) = PP q ++ c :: r' := by
      rw [List.concat_eq_append, ← List.cons_append, ← List.append_assoc] at h
      exact (List.append_inj' h rfl).1
    have hne : parent p ≠ [] := fun e => by rw [e, PP_nil] at h2; simp at h2
    exact ⟨⟨c, r', by rw [← PP_ne hne, h2]⟩, hne⟩
/- the order -/
theorem cmpPs_pre : ∀ (a s t : List (List UInt8)), cmpPs (a ++ s) (a ++ t) = cmpPs s t
  | [], _, _ => rfl
  | x :: a, s, t => by
    rw [List.cons_append, List.cons_append, cmpPs_cons, if_pos (cmpB_zero.2 rfl), cmpPs_pre a s t]
theorem under_less {q p : List UInt8} (hq : q ≠ []) (h : Under q p) : compareP q p < 0 := by
  obtain ⟨c, r, h⟩ := h
  unfold compareP
  rw [h, PP_ne hq]
  have := cmpPs_pre (pcs q) [] (c :: r)
  rw [List.append_nil] at this
  rw [this]
  show (-1 : Int) < 0
  decide
theorem parts_less {q : List UInt8} {a b p r : List UInt8} (ha : Neat a) (hb : Neat b) (pa : parent a = q) (pb : parent b = q) (h : compareP a b < 0) (hp : p = a ∨ Under a p) (hr : r = b ∨ Under b r) : compareP p r < 0 := by
  have ea := PP_parent ha
  have eb := PP_parent hb
  rw [pa] at ea
  rw [pb] at eb
  have form : ∀ {x y : List UInt8}, Neat x → pcs x = PP q ++ [lastName x] → (y = x ∨ Under x y) → ∃ s, pcs y = PP q ++ lastName x :: s := by
    intro x y hx ex hy
    rcases hy with rfl | ⟨c, s, h⟩
    · exact ⟨[], ex⟩
    · rw [PP_ne hx.ne, ex] at h
      exact ⟨c :: s, by rw [h]; simp⟩
  obtain ⟨s, es⟩ := form ha ea hp
  obtain ⟨t, et⟩ := form hb eb hr
  unfold compareP at h ⊢
  rw [ea, eb, cmpPs_pre, cmpPs_cons] at h
  rw [es, et, cmpPs_pre, cmpPs_cons]
  by_cases h0 : cmpB (lastName a) (lastName b) = 0
  · rw [if_pos h0] at h
    exact absurd h (by decide)
  · rw [if_neg h0] at h
    rw [if_neg h0]
    exact h
/-- two rows in order with the same members are one -/
theorem order_ext {α : Type} {lt : α → α → Prop} (irr : ∀ a, ¬ lt a a) (tr : ∀ {a b c}, lt a b → lt b c → lt a c) : ∀ {l r : List α}, l.Pairwise lt → r.Pairwise lt → (∀ x, x ∈ l ↔ x ∈ r) → l = r
  | [], [], _, _, _ => rfl
  | [], b :: r, _, _, h => absurd ((h b).2 (List.mem_cons_self ..)) (by simp)
  | a :: l, [], _, _, h => absurd ((h a).1 (List.mem_cons_self ..)) (by simp)
  | a :: l, b :: r, hl, hr, h => by
    obtain ⟨h1, h2⟩ := List.pairwise_cons.1 hl
    obtain ⟨h3, h4⟩ := List.pairwise_cons.1 hr
    have hab : a = b := by
      rcases List.mem_cons.1 ((h a).1 (List.mem_cons_self ..)) with e | e
      · exact e
      · rcases List.mem_cons.1 ((h b).2 (List.mem_cons_self ..)) with f | f
        · exact f.symm
        · exact absurd (tr (h3 a e) (h1 b f)) (irr b)
    subst hab
    congr 1
    refine order_ext irr tr h2 h4 fun x => ⟨fun hx => ?_, fun hx => ?_⟩
    · rcases List.mem_cons.1 ((h x).1 (List.mem_cons_of_mem _ hx)) with e | e
      · subst e; exact absurd (h1 x hx) (irr x)
      · exact e
    · rcases List.mem_cons.1 ((h x).2 (List.mem_cons_of_mem _ hx)) with e | e
      · subst e; exact absurd (h3 x hx) (irr x)
      · exact e
/- going through -/
def kidsN (nd : List Nd) (q : List UInt8) : List Nd := nd.filter (fun y => parent y.e.path == q)
def dfs (nd : List Nd) : Nat → List UInt8 → List Nd
  | 0, _ => []
  | m + 1, q => (kidsN nd q).flatMap fun y => y :: dfs nd m y.e.path
theorem mem_kids {nd : List Nd} {q : List UInt8} {y : Nd} : y ∈ kidsN nd q ↔ y ∈ nd ∧ parent y.e.path = q := by
  unfold kidsN
  rw [List.mem_filter]
  simp
/-- in order -/
def InOrder (nd : List Nd) : Prop := nd.Pairwise (fun a b => compareP a.e.path b.e.path < 0)
theorem kid_above {nd : List Nd} (hw : Wf nd) {q : List UInt8} : ∀ (n : Nat) {x : Nd}, (pcs x.e.path).length ≤ n → x ∈ nd → Under q x.e.path → ∃ y, y ∈ nd ∧ parent y.e.path = q ∧ (x = y ∨ Under y.e.path x.e.path)
  | 0, x, hn, hx, _ => absurd (List.length_pos_iff.2 (pcs_ne x.e.path)) (by omega)
  | n + 1, x, hn, hx, hu => by
    by_cases hp : parent x.e.path = q
    · exact ⟨x, hx, hp, .inl rfl⟩
    · have hnx := hw.ok x hx
      obtain ⟨h1, h2⟩ := under_parent hnx hu hp
      rcases hw.up x hx with h3 | ⟨z, hz, hzp, _⟩
      · exact absurd h3 h2
      · have hlen : (pcs z.e.path).length ≤ n := by
          have := PP_parent hnx
          rw [PP_ne h2, ← hzp] at this
          rw [this] at hn
          simp at hn
          omega
        obtain ⟨y, hy, hyp, hyz⟩ := kid_above hw n hlen hz (by rw [hzp]; exact h1)
        have hzx : Under z.e.path x.e.path := under_kid hnx hzp.symm
        rcases hyz with rfl | hyz
        · exact ⟨z, hy, hyp, .inr hzx⟩
        · exact ⟨y, hy, hyp, .inr (under_trans (hw.ok z hz).ne hyz hzx)⟩
theorem mem_dfs {nd : List Nd} (hw : Wf nd) : ∀ (m : Nat) {q : List UInt8}, (∀ y ∈ nd, (pcs y.e.path).length ≤ m + (PP q).length) → ∀ x, x ∈ dfs nd m q ↔ x ∈ nd ∧ Under q x.e.path
  | 0, q, hd, x => by
    refine ⟨fun h => (by cases h), fun ⟨hx, c, r, h⟩ => ?_⟩
    have := hd x hx
    rw [h] at this
    simp at this
    omega
  | m + 1, q, hd, x => by
    have ih : ∀ y ∈ nd, parent y.e.path = q → ∀ z, z ∈ dfs nd m y.e.path ↔ z ∈ nd ∧ Under y.e.path z.e.path := fun y hy hp => by
      refine mem_dfs hw m fun z hz => ?_
      have h1 := hd z hz
      rw [PP_ne (hw.ok y hy).ne, PP_parent (hw.ok y hy), hp]
      simp
      omega
    unfold dfs
    rw [List.mem_flatMap]
    constructor
    · rintro ⟨y, hy, hx⟩
      obtain ⟨hy1, hy2⟩ := mem_kids.1 hy
      rcases List.mem_cons.1 hx with rfl | hx
      · exact ⟨hy1, under_kid (hw.ok _ hy1) hy2⟩
      · obtain ⟨h1, h2⟩ := (ih y hy1 hy2 x).1 hx
        exact ⟨h1, under_trans (hw.ok y hy1).ne (under_kid (hw.ok y hy1) hy2) h2⟩
    · rintro ⟨hx, hu⟩
      obtain ⟨y, hy, hyp, hxy⟩ := kid_above hw _ (Nat.le_refl _) hx hu
      refine ⟨y, mem_kids.2 ⟨hy, hyp⟩, ?_⟩
      rcases hxy with rfl | hxy
      · exact List.mem_cons_self ..
      · exact List.mem_cons_of_mem _ ((ih y hy hyp x).2 ⟨hx, hxy⟩)
theorem order_dfs {nd : List Nd} (hw : Wf nd) (ho : InOrder nd) : ∀ (m : Nat) {q : List UInt8}, (∀ y ∈ nd, (pcs y.e.path).length ≤ m + (PP q).length) → InOrder (dfs nd m q)
  | 0, q, _ => List.Pairwise.nil
  | m + 1, q, hd => by
    have deep : ∀ y ∈ nd, parent y.e.path = q → ∀ z ∈ nd, (pcs z.e.path).length ≤ m + (PP y.e.path).length := fun y hy hp z hz => by
      have h1 := hd z hz
      rw [PP_ne (hw.ok y hy).ne, PP_parent (hw.ok y hy), hp]
      simp
      omega
    unfold dfs InOrder
    rw [List.pairwise_flatMap]
    refine ⟨fun y hy => ?_, ?_⟩
    · obtain ⟨hy1, hy2⟩ := mem_kids.1 hy
      refine List.pairwise_cons.2 ⟨fun z hz => ?_, order_dfs hw ho m (deep y hy1 hy2)⟩
      exact under_less (hw.ok y hy1).ne ((mem_dfs hw m (deep y hy1 hy2) z).1 hz).2
    · have hk : (kidsN nd q).Pairwise (fun a b => compareP a.e.path b.e.path < 0) := List.Pairwise.filter _ ho
      refine List.Pairwise.imp_of_mem ?_ hk
      intro a b ha hb hab x hx y hy
      obtain ⟨ha1, ha2⟩ := mem_kids.1 ha
      obtain ⟨hb1, hb2⟩ := mem_kids.1 hb
      have hp : x.e.path = a.e.path ∨ Under a.e.path x.e.path := by
        rcases List.mem_cons.1 hx with rfl | hx
        · exact .inl rfl
        · exact .inr ((mem_dfs hw m (deep a ha1 ha2) x).1 hx).2
      have hr : y.e.path = b.e.path ∨ Under b.e.path y.e.path := by
        rcases List.mem_cons.1 hy with rfl | hy
        · exact .inl rfl
        · exact .inr ((mem_dfs hw m (deep b hb1 hb2) y).1 hy).2
      exact parts_less (hw.ok a ha1) (hw.ok b hb1) ha2 hb2 hab hp hr
/-- what is gone through below a place is what lies below it, in the list's order -/
theorem dfs_eq {nd : List Nd} (hw : Wf nd) (ho : InOrder nd) {m : Nat} {q : List UInt8} (hd : ∀ y ∈ nd, (pcs y.e.path).length ≤ m + (PP q).length) [DecidablePred fun y : Nd => Under q y.e.path] : dfs nd m q = nd.filter (fun y => decide (Under q y.e.path)) := by
  refine order_ext (lt := fun a b : Nd => compareP a.e.path b.e.path < 0) (fun a => compareP_irrefl _) compareP_trans (order_dfs hw ho m hd) (List.Pairwise.filter _ ho) fun x => ?_
  rw [mem_dfs hw m hd x, List.mem_filter]
  simp
theorem dfs_root {nd : List Nd} (hw : Wf nd) (ho : InOrder nd) {m : Nat} (hd : ∀ y ∈ nd, (pcs y.e.path).length ≤ m) : dfs nd m [] = nd := by
  refine order_ext (lt := fun a b : Nd => compareP a.e.path b.e.path < 0) (fun a => compareP_irrefl _) compareP_trans (order_dfs hw ho m (by rw [PP_nil]; exact hd)) ho fun x => ?_
  rw [mem_dfs hw m (by rw [PP_nil]; exact hd) x]
  refine ⟨fun h => h.1, fun h => ⟨h, ?_⟩⟩
  unfold Under
  rw [PP_nil]
  cases hp : pcs x.e.path with
  | nil => exact absurd hp (pcs_ne _)
  | cons c r => exact ⟨c, r, rfl⟩
/-- the names of a place's own, in order -/
def names (nd : List Nd) (q : List UInt8) : List (List UInt8) := (kidsN nd q).map (fun y => lastName y.e.path)
theorem names_order {nd : List Nd} (hw : Wf nd) (ho : InOrder nd) (q : List UInt8) : (names nd q).Pairwise (fun a b => a < b) := by
  unfold names
  rw [List.pairwise_map]
  have hk : (kidsN nd q).Pairwise (fun a b => compareP a.e.path b.e.path < 0) := List.Pairwise.filter _ ho
  refine List.Pairwise.imp_of_mem ?_ hk
  intro a b ha hb hab
  obtain ⟨ha1, ha2⟩ := mem_kids.1 ha
  obtain ⟨hb1, hb2⟩ := mem_kids.1 hb
  unfold compareP at hab
  rw [PP_parent (hw.ok a ha1), PP_parent (hw.ok b hb1), ha2, hb2, cmpPs_pre, cmpPs_cons] at hab
  by_cases h0 : cmpB (lastName a.e.path) (lastName b.e.path) = 0
  · rw [if_pos h0] at hab
    exact absurd hab (by decide)
  · rw [if_neg h0] at hab
    exact cmpB_neg.1 hab
theorem mem_names {nd : List Nd} {q c : List UInt8} : c ∈ names nd q ↔ kidN nd q c ≠ none := by
  unfold names kidN
  rw [List.mem_map, Ne, List.find?_eq_none]
  constructor
  · rintro ⟨y, hy, rfl⟩ h
    obtain ⟨h1, h2⟩ := mem_kids.1 hy
    exact h y h1 (by simp [h2])
  · intro h
    have : ∃ y ∈ nd, parent y.e.path = q ∧ lastName y.e.path = c := by
      refine Classical.byContradiction fun hn => h fun y hy hc => hn ⟨y, hy, ?_⟩
      simpa using hc
    obtain ⟨y, hy, hp, hc⟩ := this
    exact ⟨y, mem_kids.2 ⟨hy, hp⟩, hc⟩
theorem kid_at {nd : List Nd} (hw : Wf nd) {q : List UInt8} {y : Nd} (hy : y ∈ kidsN nd q) : kidN nd q (lastName y.e.path) = some y := by
  obtain ⟨h1, h2⟩ := mem_kids.1 hy
  rw [kid_look hw.ok (last_no47 _)]
  have := (hw.ok y h1).is_join
  rw [h2] at this
  rw [← this]
  exact lookN_mem hw.one h1
end
section
def laidL : List Ent → Ent → List Ent
  | [], e => [e]
  | x :: r, e => if compareP x.path e.path < 0 then x :: laidL r e else if x.path = e.path then e :: r else e :: x :: r
def laidN : List Nd → Nd → List Nd
  | [], y => [y]
  | x :: r, y => if compareP x.e.path y.e.path < 0 then x :: laidN r y else if x.e.path = y.e.path then { x with e := y.e } :: r else y :: x :: r
theorem ents_laid : ∀ (nd : List Nd) (y : Nd), ents (laidN nd y) = laidL (ents nd) y.e
  | [], y => rfl
  | x :: r, y => by
    show ents (laidN (x :: r) y) = laidL (x.e :: ents r) y.e
    unfold laidN laidL
    by_cases h : compareP x.e.path y.e.path < 0
    · rw [if_pos h, if_pos h]
      show x.e :: ents (laidN r y) = _
      rw [ents_laid r y]
    · rw [if_neg h, if_neg h]
      by_cases h2 : x.e.path = y.e.path
      · rw [if_pos h2, if_pos h2]; rfl
      · rw [if_neg h2, if_neg h2]; rfl
def Inc (l : List Ent) : Prop := l.Pairwise (fun a b => compareP a.path b.path < 0)
theorem laidN_new : ∀ {nd : List Nd} {y : Nd}, (∀ x ∈ nd, x.e.path ≠ y.e.path) → (nd ++ [y]).Perm (laidN nd y)
  | [], y, _ => .refl _
  | x :: r, y, h => by
    unfold laidN
    by_cases hc : compareP x.e.path y.e.path < 0
    · rw [if_pos hc]
      exact (laidN_new fun z hz => h z (List.mem_cons_of_mem _ hz)).cons x
    · rw [if_neg hc, if_neg (h x (List.mem_cons_self ..))]
      exact List.perm_append_comm (l₁ := x :: r) (l₂ := [y])
theorem laidN_old : ∀ {nd : List Nd} {y : Nd}, InOrder nd → (∃ x ∈ nd, x.e.path = y.e.path) → laidN nd y = nd.map (fun x => if x.e.path = y.e.path then { x with e := y.e } else x)
  | [], y, _, h => by obtain ⟨x, hx, _⟩ := h; cases hx
  | x :: r, y, ho, h => by
    obtain ⟨h1, h2⟩ := List.pairwise_cons.1 ho
    obtain ⟨z, hz, hzp⟩ := h
    unfold laidN
    rw [List.map_cons]
    rcases List.mem_cons.1 hz with rfl | hz
    · rw [if_neg (by rw [hzp]; exact compareP_irrefl _), if_pos hzp, if_pos hzp]
      congr 1
      refine ((List.map_congr_left fun a ha => ?_).trans (List.map_id r)).symm
      rw [if_neg (fun e => by have := h1 a ha; rw [hzp, e] at this; exact compareP_irrefl _ this)]
      rfl
    · have hc : compareP x.e.path y.e.path < 0 := by rw [← hzp]; exact h1 z hz
      rw [if_pos hc, if_neg (fun e => by rw [e] at hc; exact compareP_irrefl _ hc), laidN_old h2 ⟨z, hz, hzp⟩]
theorem mem_laid : ∀ {l : List Ent} {e x : Ent}, Inc l → (x ∈ laidL l e ↔ x = e ∨ (x ∈ l ∧ x.path ≠ e.path))
  | [], e, x, _ => by simp [laidL]
  | a :: r, e, x, h => by
    obtain ⟨h1, h2⟩ := List.pairwise_cons.1 h
    unfold laidL
    by_cases hc : compareP a.path e.path < 0
    · rw [if_pos hc, List.mem_cons, mem_laid h2, List.mem_cons]
      have hne : a.path ≠ e.path := fun e2 => by rw [e2] at hc; exact compareP_irrefl _ hc
      constructor
      · rintro (rfl | rfl | ⟨h3, h4⟩)
        · exact .inr ⟨.inl rfl, hne⟩
        · exact .inl rfl
        · exact .inr ⟨.inr h3, h4⟩
      · rintro (rfl | ⟨rfl | h3, h4⟩)
        · exact .inr (.inl rfl)
        · exact .inl rfl
        · exact .inr (.inr ⟨h3, h4⟩)
    · rw [if_neg hc]
      by_cases h3 : a.path = e.path
      · rw [if_pos h3, List.mem_cons, List.mem_cons]
        constructor
        · rintro (rfl | h4)
          · exact .inl rfl
          · exact .inr ⟨.inr h4, fun e2 => by have := h1 x h4; rw [h3, e2] at this; exact compareP_irrefl _ this⟩
        · rintro (rfl | ⟨rfl | h4, h5⟩)
          · exact .inl rfl
          · exact absurd h3 h5
          · exact .inr h4
      · rw [if_neg h3, List.mem_cons]
        have hea : compareP e.path a.path < 0 := by
          have h4 := compareP_flip e.path a.path
          have h5 : compareP a.path e.path ≠ 0 := fun e2 => h3 (compareP_zero.1 e2)
          omega
        constructor
        · rintro (rfl | h4)
          · exact .inl rfl
          · refine .inr ⟨h4, fun e2 => ?_⟩
            rcases List.mem_cons.1 h4 with rfl | h4
            · exact h3 e2
            · have := compareP_trans hea (h1 x h4)
              rw [e2] at this
              exact compareP_irrefl _ this
        · rintro (rfl | ⟨h4, _⟩)
          · exact .inl rfl
          · exact .inr h4
theorem inc_laid : ∀ {l : List Ent} {e : Ent}, Inc l → Inc (laidL l e)
  | [], e, _ => List.pairwise_singleton _ _
  | a :: r, e, h => by
    obtain ⟨h1, h2⟩ := List.pairwise_cons.1 h
    unfold laidL
    by_cases hc : compareP a.path e.path < 0
    · rw [if_pos hc]
      refine List.pairwise_cons.2 ⟨fun x hx => ?_, inc_laid h2⟩
      rcases (mem_laid h2).1 hx with rfl | ⟨h3, _⟩
      · exact hc
      · exact h1 x h3
    · rw [if_neg hc]
      by_cases h3 : a.path = e.path
      · rw [if_pos h3]
        exact List.pairwise_cons.2 ⟨fun x hx => by rw [← h3]; exact h1 x hx, h2⟩
      · rw [if_neg h3]
        have hea : compareP e.path a.path < 0 := by
          have h4 := compareP_flip e.path a.path
          have h5 : compareP a.path e.path ≠ 0 := fun e2 => h3 (compareP_zero.1 e2)
          omega
        refine List.pairwise_cons.2 ⟨fun x hx => ?_, h⟩
        rcases List.mem_cons.1 hx with rfl | hx
        · exact hea
        · exact compareP_trans hea (h1 x hx)
theorem lookE_some {l : List Ent} {q : List UInt8} {x : Ent} (h : lookE l q = some x) : x ∈ l ∧ x.path = q := ⟨List.mem_of_find?_eq_some h, by simpa using List.find?_some h⟩
theorem lookE_none {l : List Ent} {q : List UInt8} (h : lookE l q = none) : ∀ x ∈ l, x.path ≠ q := fun x hx e => by
  have := List.find?_eq_none.1 h x hx
  simp [e] at this
theorem lookE_mem {l : List Ent} (h : Inc l) {x : Ent} (hx : x ∈ l) : lookE l x.path = some x := by
  cases hl : lookE l x.path with
  | none => exact absurd rfl (lookE_none hl x hx)
  | some z =>
    obtain ⟨hz, hp⟩ := lookE_some hl
    have : z = x := by
      induction l with
      | nil => cases hx
      | cons a r ih =>
        obtain ⟨h1, h2⟩ := List.pairwise_cons.1 h
        rcases List.mem_cons.1 hz with rfl | hz' <;> rcases List.mem_cons.1 hx with rfl | hx'
        · rfl
        · have := h1 x hx'; rw [hp] at this; exact absurd this (compareP_irrefl _)
        · have := h1 z hz'; rw [hp] at this; exact absurd this (compareP_irrefl _)
        · refine ih h2 hx' ?_ hz'
          cases hl2 : lookE r x.path with
          | none => exact absurd rfl (lookE_none hl2 x hx')
          | some u =>
            unfold lookE at hl hl2
            rw [List.find?_cons] at hl
            have hne : (a.path == x.path) = false := by
              have := h1 x hx'
              by_cases e : a.path = x.path
              · rw [e] at this; exact absurd this (compareP_irrefl _)
              · simpa using e
            rw [hne] at hl
            exact hl2.symm.trans hl
    rw [this]
theorem lookE_laid {l : List Ent} {e : Ent} (h : Inc l) (q : List UInt8) : lookE (laidL l e) q = if q = e.path then some e else lookE l q := by
  have hi := inc_laid (e := e) h
  by_cases hq : q = e.path
  · rw [if_pos hq, hq]
    exact lookE_mem hi ((mem_laid h).2 (.inl rfl))
  · rw [if_neg hq]
    cases hl : lookE l q with
    | none =>
      cases hl2 : lookE (laidL l e) q with
      | none => rfl
      | some x =>
        obtain ⟨h1, h2⟩ := lookE_some hl2
        rcases (mem_laid h).1 h1 with rfl | ⟨h3, _⟩
        · exact absurd h2.symm hq
        · exact absurd h2 (lookE_none hl x h3)
    | some x =>
      obtain ⟨h1, h2⟩ := lookE_some hl
      rw [← h2]
      exact lookE_mem hi ((mem_laid h).2 (.inr ⟨h1, fun e2 => hq (h2.symm.trans e2)⟩))
theorem bytesE_cons (x : Ent) (l : List Ent) : bytesE (x :: l) = x.d.size + bytesE l := by simp [bytesE]
theorem laid_len_new : ∀ {l : List Ent} {e : Ent}, lookE l e.path = none → (laidL l e).length = l.length + 1 ∧ bytesE (laidL l e) = bytesE l + e.d.size
  | [], e, _ => by simp [laidL, bytesE]
  | a :: r, e, h => by
    have hn := lookE_none h
    have hr : lookE r e.path = none := List.find?_eq_none.2 fun x hx => by simpa using hn x (List.mem_cons_of_mem _ hx)
    unfold laidL
    by_cases hc : compareP a.path e.path < 0
    · rw [if_pos hc]
      obtain ⟨h1, h2⟩ := laid_len_new hr
      rw [bytesE_cons, bytesE_cons, List.length_cons, List.length_cons, h1, h2]
      omega
    · rw [if_neg hc, if_neg (hn a (List.mem_cons_self ..))]
      rw [bytesE_cons, bytesE_cons]
      simp
      omega
theorem laid_len_old : ∀ {l : List Ent} {e x : Ent}, Inc l → lookE l e.path = some x → (laidL l e).length = l.length ∧ bytesE (laidL l e) + x.d.size = bytesE l + e.d.size
  | [], e, x, _, h => by cases h
  | a :: r, e, x, ho, h => by
    obtain ⟨h1, h2⟩ := List.pairwise_cons.1 ho
    obtain ⟨hx, hp⟩ := lookE_some h
    have hself : ∀ b : Ent, b ∈ r → a.path ≠ b.path := fun b hb e2 => by have := h1 b hb; rw [e2] at this; exact compareP_irrefl _ this
    unfold laidL
    rcases List.mem_cons.1 hx with rfl | hx'
    · rw [if_neg (by rw [hp]; exact compareP_irrefl _), if_pos hp, bytesE_cons, bytesE_cons]
      simp
      omega
    · have hc : compareP a.path e.path < 0 := by rw [← hp]; exact h1 x hx'
      rw [if_pos hc]
      have hr : lookE r e.path = some x := by rw [← hp]; exact lookE_mem h2 hx'
      obtain ⟨h3, h4⟩ := laid_len_old h2 hr
      rw [bytesE_cons, bytesE_cons, List.length_cons, List.length_cons, h3]
      exact ⟨rfl, by omega⟩
/-- what is wrong with an entry that is to be put -/
def putNo (l : List Ent) (e : Ent) : Nat :=
  if itselfNo e ≠ 0 then itselfNo e
  else if upNo l e.path ≠ 0 then upNo l e.path
  else match lookE l e.path with
    | some x => if ¬ (x.k = 1 ↔ e.k = 1) then 14 else if 16777216 + x.d.size < bytesE l + e.d.size then 5 else 0
    | none => if 4096 ≤ l.length ∨ 16777216 < bytesE l + e.d.size then 5 else 0
theorem putNo_zero {l : List Ent} {e : Ent} (h : putNo l e = 0) : itselfNo e = 0 ∧ upNo l e.path = 0 := by
  unfold putNo at h
  by_cases h1 : itselfNo e ≠ 0
  · rw [if_pos h1] at h; exact absurd h h1
  rw [if_neg h1] at h
  by_cases h2 : upNo l e.path ≠ 0
  · rw [if_pos h2] at h; exact absurd h h2
  exact ⟨by omega, by omega⟩
theorem putNo_rest {l : List Ent} {e : Ent} (h1 : itselfNo e = 0) (h2 : upNo l e.path = 0) : putNo l e = match lookE l e.path with
    | some x => if ¬ (x.k = 1 ↔ e.k = 1) then 14 else if 16777216 + x.d.size < bytesE l + e.d.size then 5 else 0
    | none => if 4096 ≤ l.length ∨ 16777216 < bytesE l + e.d.size then 5 else 0 := by
  unfold putNo
  rw [if_neg (by omega), if_neg (by omega)]
theorem Good.laid {l : List Ent} (h : Good l) {e : Ent} (hp : putNo l e = 0) : Good (laidL l e) := by
  obtain ⟨h1, h2⟩ := putNo_zero hp
  rw [putNo_rest h1 h2] at hp
  have hne := (checkNo_neat (itselfNo_check h1)).ne
  have hup : ∀ x : Ent, upNo l x.path = 0 → (x = e ∨ x ∈ l) → upNo (laidL l e) x.path = 0 := by
    intro x hx hxe
    unfold upNo at hx ⊢
    by_cases h0 : parent x.path = []
    · rw [if_pos h0]
    rw [if_neg h0] at hx ⊢
    rw [lookE_laid h.inc]
    by_cases hq : parent x.path = e.path
    · rw [if_pos hq]
      rw [hq] at hx
      rcases hxe with rfl | hxl
      · have := parent_shorter hne
        rw [hq] at this
        omega
      · cases hl : lookE l e.path with
        | none => rw [hl] at hx; cases hx
        | some z =>
          rw [hl] at hx hp
          have hz : z.k = 1 := by
            by_cases hk : z.k = 1
            · exact hk
            · simp [hk] at hx
          have he : e.k = 1 := by
            by_cases hk : (z.k = 1 ↔ e.k = 1)
            · exact hk.1 hz
            · simp [hk] at hp
          simp [he]
    · rw [if_neg hq]
      exact hx
  have hlen : (laidL l e).length ≤ 4096 ∧ bytesE (laidL l e) ≤ 16777216 := by
    cases hl : lookE l e.path with
    | none =>
      rw [hl] at hp
      obtain ⟨a, b⟩ := laid_len_new hl
      have : ¬ (4096 ≤ l.length ∨ 16777216 < bytesE l + e.d.size) := fun x => by simp [x] at hp
      omega
    | some x =>
      rw [hl] at hp
      obtain ⟨a, b⟩ := laid_len_old h.inc hl
      have hk : (x.k = 1 ↔ e.k = 1) := Classical.byContradiction fun x => by simp [x] at hp
      have : ¬ (16777216 + x.d.size < bytesE l + e.d.size) := fun x => by simp [hk, x] at hp
      have := h.len
      omega
  refine ⟨fun x hx => ?_, fun x hx => ?_, inc_laid h.inc, hlen.1, hlen.2⟩
  · rcases (mem_laid h.inc).1 hx with rfl | ⟨h3, _⟩
    · exact h1
    · exact h.it x h3
  · rcases (mem_laid h.inc).1 hx with rfl | ⟨h3, _⟩
    · exact hup _ h2 (.inl rfl)
    · exact hup x (h.up x h3) (.inr h3)
/- taking away -/
theorem below_pre {d p : List UInt8} (hd : d ≠ []) : belowP d p = true ↔ ∃ t, p = d ++ 47 :: t := by
  unfold belowP
  rw [if_neg hd]
  constructor
  · intro h
    obtain ⟨t, ht⟩ := List.isPrefixOf_iff_prefix.1 h
    exact ⟨t, by rw [← ht]; simp⟩
  · rintro ⟨t, rfl⟩
    exact List.isPrefixOf_iff_prefix.2 ⟨t, by simp⟩
theorem glue_app : ∀ (a : List (List UInt8)) (c : List UInt8) (r : List (List UInt8)), a ≠ [] → glue (a ++ c :: r) = glue a ++ 47 :: glue (c :: r)
  | [], _, _, h => absurd rfl h
  | [x], c, r, _ => rfl
  | x :: y :: a, c, r, _ => by
    have ih := glue_app (y :: a) c r (by simp)
    show x ++ 47 :: glue (y :: a ++ c :: r) = (x ++ 47 :: glue (y :: a)) ++ 47 :: glue (c :: r)
    rw [ih]
    simp
theorem below_under {d p : List UInt8} (hd : d ≠ []) : belowP d p = true ↔ Under d p := by
  rw [below_pre hd]
  unfold Under
  rw [PP_ne hd]
  constructor
  · rintro ⟨t, rfl⟩
    rw [pcs_cat]
    cases hp : pcs t with
    | nil => exact absurd hp (pcs_ne t)
    | cons c r => exact ⟨c, r, rfl⟩
  · rintro ⟨c, r, h⟩
    refine ⟨glue (c :: r), ?_⟩
    rw [← glue_pcs p, h, glue_app _ _ _ (pcs_ne d), glue_pcs]
theorem under_root (p : List UInt8) : Under [] p := by
  unfold Under
  rw [PP_nil]
  cases hp : pcs p with
  | nil => exact absurd hp (pcs_ne p)
  | cons c r => exact ⟨c, r, rfl⟩
theorem below_under' {d p : List UInt8} (hp : p ≠ []) : belowP d p = true ↔ Under d p := by
  by_cases hd : d = []
  · subst hd
    exact ⟨fun _ => under_root p, fun _ => by unfold belowP; rw [if_pos rfl]; cases p with | nil => exact absurd rfl hp | cons a r => rfl⟩
  · exact below_under hd
def keepE (p : List UInt8) (x : Ent) : Bool := !(x.path == p) && !belowP p x.path
def withoutL (l : List Ent) (p : List UInt8) : List Ent := l.filter (keepE p)
theorem keepE_false {p : List UInt8} {x : Ent} : keepE p x = false ↔ x.path = p ∨ belowP p x.path = true := by
  unfold keepE
  by_cases h : x.path = p
  · simp [h]
  · simp [h]
theorem Good.without {l : List Ent} (h : Good l) {p : List UInt8} (hp : p ≠ []) : Good (withoutL l p) := by
  have hsub : ∀ x, x ∈ withoutL l p → x ∈ l ∧ keepE p x = true := fun x hx => List.mem_filter.1 hx
  have hinc : Inc (withoutL l p) := List.Pairwise.filter _ h.inc
  refine ⟨fun x hx => h.it x (hsub x hx).1, fun x hx => ?_, hinc, Nat.le_trans (List.length_filter_le _ _) h.len, Nat.le_trans ?_ h.byt⟩
  · obtain ⟨h1, h2⟩ := hsub x hx
    have hu := h.up x h1
    have hnx := checkNo_neat (itselfNo_check (h.it x h1))
    unfold upNo at hu ⊢
    by_cases h0 : parent x.path = []
    · rw [if_pos h0]
    rw [if_neg h0] at hu ⊢
    cases hl : lookE l (parent x.path) with
    | none => rw [hl] at hu; cases hu
    | some z =>
      rw [hl] at hu
      obtain ⟨hz, hzp⟩ := lookE_some hl
      have hk : keepE p z = true := by
        cases hkz : keepE p z with
        | true => rfl
        | false =>
          exfalso
          have : belowP p x.path = true := by
            rw [below_under hp]
            have hux : Under z.path x.path := under_kid hnx hzp.symm
            rcases keepE_false.1 hkz with e | e
            · rw [← e]; exact hux
            · exact under_trans (by rw [hzp]; exact h0) ((below_under hp).1 e) hux
          rw [keepE_false.2 (.inr this)] at h2
          cases h2
      rw [← hzp, lookE_mem hinc (List.mem_filter.2 ⟨hz, hk⟩)]
      exact hu
  · unfold withoutL bytesE
    clear hsub hinc h
    induction l with
    | nil => simp
    | cons a r ih =>
      rw [List.filter_cons]
      split <;> simp <;> omega
/-- what is wrong with a path that is to be taken -/
def takeNo (l : List Ent) (p : List UInt8) : Nat := if p = [] then 15 else match lookE l p with
  | none => 10
  | some _ => 0
end
end Go.Proofs.YtfanfkogogijpaaGreatDoor
