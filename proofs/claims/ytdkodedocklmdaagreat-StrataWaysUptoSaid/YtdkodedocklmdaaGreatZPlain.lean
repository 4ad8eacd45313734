/- Ways lie in directories: the laws behind StrataWays, plain. -/
import Derived.Test.YtdkodedocklmdaaGreatMLaw
set_option linter.unusedSimpArgs false
set_option linter.unusedVariables false
namespace Go.Proofs.YtdkodedocklmdaaGreat
/-- the kind at a path of a list; the root is a directory -/
def kindT (L : List Ent) (p : List UInt8) : Int := if p = [] then 1 else match lookE L p with
  | none => 0
  | some e => e.k
def straightP (L : List Ent) (p : List UInt8) : Prop := p.head? ≠ some 47 ∧ ∀ i, p[i]? = some 47 → kindT L (p.take i) = 1
theorem straight_nil (L : List Ent) : straightP L [] := ⟨by simp, fun i h => by simp at h⟩
theorem cut_at {p : List UInt8} {i : Nat} (h : p[i]? = some 47) : p = p.take i ++ 47 :: p.drop (i + 1) := by
  obtain ⟨hlt, he⟩ := List.getElem?_eq_some_iff.1 h
  conv => lhs; rw [← List.take_append_drop i p]
  rw [List.drop_eq_getElem_cons hlt, he]
theorem neat_head {p : List UInt8} (h : Neat p) : p.head? ≠ some 47 := fun e => by
  cases p with
  | nil => cases e
  | cons x r =>
    injection e with e
    subst e
    exact not_neat_head h
theorem take_ne {p : List UInt8} {i : Nat} (hn : Neat p) (h : p[i]? = some 47) : p.take i ≠ [] := fun e => by
  have := cut_at h
  rw [e, List.nil_append] at this
  rw [this] at hn
  exact not_neat_head hn
theorem kindT_here {L : List Ent} {q : List UInt8} (h : Here L q) : kindT L q = 1 := by
  unfold kindT
  rcases h with h | ⟨e, h, hk⟩
  · rw [if_pos h]
  · by_cases h0 : q = []
    · rw [if_pos h0]
    · rw [if_neg h0, h]; exact hk
theorem straight_there {L : List Ent} (hL : Good L) {p : List UInt8} {e : Ent} (h : lookE L p = some e) : straightP L p := by
  have hn := good_neat hL h
  refine ⟨neat_head hn, fun i hi => ?_⟩
  have hq := take_ne hn hi
  rw [cut_at hi] at h
  obtain ⟨x, hx, hk⟩ := above_dir hL _ _ _ _ (Nat.le_refl _) hq h
  exact kindT_here (.inr ⟨x, hx, hk⟩)
theorem straight_parent {L : List Ent} (hL : Good L) {p : List UInt8} (hn : Neat p) (hp : Here L (parent p)) : straightP L p := by
  refine ⟨neat_head hn, fun i hi => ?_⟩
  have hq := take_ne hn hi
  have hc := cut_at hi
  generalize p.take i = q at *
  generalize p.drop (i + 1) = t at *
  rcases split_last t with ht | ⟨a, c, ht, h47⟩
  · rw [hc, parent_cat ht] at hp
    exact kindT_here hp
  · have : parent p = q ++ 47 :: a := by
      rw [hc, ht]
      rw [show q ++ 47 :: (a ++ 47 :: c) = (q ++ 47 :: a) ++ 47 :: c by simp, parent_cat h47]
    rw [this] at hp
    rcases hp with hp | ⟨e, he, _⟩
    · exact absurd hp (by simp)
    · obtain ⟨x, hx, hk⟩ := above_dir hL _ _ _ _ (Nat.le_refl _) hq he
      exact kindT_here (.inr ⟨x, hx, hk⟩)
theorem KeptR.list {A B : List Ent} (h : KeptR A B) : B.Sublist A := by
  induction h with
  | nil => exact List.Sublist.slnil
  | both _ ih => exact ih.cons_cons _
  | more _ _ _ _ ih => exact ih.cons _
/-- where a way leads that makes: no link -/
theorem MOk.nolink {mk : Bool} {f : Nat} {L L' : List Ent} {a p : List UInt8} {left : List (List UInt8)} {hops : Nat} (h : MOk mk f L a left hops L' p) (hL : Good L) (ha : Here L a) : ∀ e, p ≠ [] → lookE L' p = some e → e.k ≠ 3 := by
  have no : ∀ {L : List Ent} {a : List UInt8}, Here L a → ∀ e, a ≠ [] → lookE L a = some e → e.k ≠ 3 := fun h e h0 h1 => by
    rcases h with h | ⟨x, h, hk⟩
    · exact absurd h h0
    · rw [h1] at h; injection h with h; subst h; omega
  induction h with
  | zero => exact no ha
  | nil => exact no ha
  | dot _ ih => exact ih hL ha
  | up _ ih => exact ih hL (ha.parent hL)
  | last h1 h2 hs hm x => intro e _ he; rw [hs] at he; cases he
  | made h1 h2 _ hm h4 hpn h5 ih => exact ih (hL.laid hpn) (Here.made hL)
  | dir h1 h2 hs hk h5 ih => exact ih hL (.inr ⟨_, hs, hk⟩)
  | file h1 h2 hs hk x => intro e _ he; rw [hs] at he; injection he with he; subst he; omega
  | link h1 h2 hs k1 k2 k3 h5 ih => exact ih hL (ha.link _)
/-- a way that is found is found where more is there -/
theorem run_ext {L L' : List Ent} {keep : Bool} (hx : ExtL L L') {q : List UInt8} {tr' : List (List UInt8)} : ∀ (f : Nat) (a : List UInt8) (left : List (List UInt8)) (hops : Nat) (tr : List (List UInt8)), runF L keep f a left hops tr = .ok (q, tr') → runF L' keep f a left hops tr = .ok (q, tr')
  | 0, a, left, hops, tr, h => by unfold runF at h ⊢; exact h
  | f + 1, a, [], hops, tr, h => by unfold runF at h ⊢; exact h
  | f + 1, a, c :: left, hops, tr, h => by
    unfold runF at h ⊢
    by_cases h1 : c = [46]
    · rw [if_pos h1] at h ⊢; exact run_ext hx f _ _ _ _ h
    rw [if_neg h1] at h ⊢
    by_cases h2 : c = [46, 46]
    · rw [if_pos h2] at h ⊢; exact run_ext hx f _ _ _ _ h
    rw [if_neg h2] at h ⊢
    cases hl : lookE L (joinP a c) with
    | none => rw [hl] at h; cases h
    | some e =>
      rw [hl] at h
      rw [hx _ _ hl]
      simp only [] at h ⊢
      by_cases k1 : e.k = 1
      · rw [if_pos k1] at h ⊢; exact run_ext hx f _ _ _ _ h
      rw [if_neg k1] at h ⊢
      by_cases k2 : e.k = 2
      · rw [if_pos k2] at h ⊢; exact h
      rw [if_neg k2] at h ⊢
      by_cases k3 : keep = true ∧ left = []
      · rw [if_pos k3] at h ⊢; exact h
      rw [if_neg k3] at h ⊢
      by_cases k4 : hops = 40
      · rw [if_pos k4] at h; cases h
      rw [if_neg k4] at h ⊢
      exact run_ext hx f _ _ _ _ h
/-- what Find finds (StrataWays) -/
theorem find_strata {L : List Ent} (hL : Good L) {keep : Bool} {way p : List UInt8} {t : List (List UInt8)} (h : wayF L keep way = .ok (p, t)) : straightP L p ∧ kindT L p ≠ 0 ∧ (keep = false → kindT L p ≠ 3) := by
  rcases runF_inside hL _ _ _ _ _ _ _ (.inl rfl) h with hp | ⟨e, he, hk⟩
  · subst hp
    exact ⟨straight_nil L, by unfold kindT; rw [if_pos rfl]; decide, fun _ => by unfold kindT; rw [if_pos rfl]; decide⟩
  · have hne : p ≠ [] := (good_neat hL he).ne
    refine ⟨straight_there hL he, ?_, ?_⟩
    · unfold kindT; rw [if_neg hne, he]; simp only []; omega
    · intro hk2; unfold kindT; rw [if_neg hne, he]; simp only []; subst hk2; rcases hk with hk | hk | ⟨hk, _⟩
      · omega
      · omega
      · cases hk
/-- what Place has made (StrataWays) -/
theorem place_strata {L L' : List Ent} {way p : List UInt8} (hL : Good L) (h : makeWay false L way = (L', .ok p)) : Good L' ∧ straightP L' p ∧ kindT L' p ≠ 3 ∧ L.Sublist L' := by
  unfold makeWay at h
  cases hR : makeF false (needF (pieces way).length 0) L [] (pieces way) 0 [] with
  | mk L1 R =>
    obtain ⟨md, x⟩ := R
    rw [hR] at h
    cases x with
    | error n => injection h with _ h; cases h
    | ok q =>
      injection h with e1 h; injection h with e2
      subst e1 e2
      have hok := makeF_ok _ _ _ _ _ _ hR
      obtain ⟨hx, hg⟩ := hok.ext hL
      have hpar := hok.parent hL (.inl rfl) (fun c hc => (pieces_mem c hc).2)
      refine ⟨hg, ?_, ?_, (hok.kept hL).list⟩
      · by_cases h0 : q = []
        · subst h0; exact straight_nil _
        · cases hl : lookE L1 q with
          | some e => exact straight_there hg hl
          | none => exact straight_parent hg (checkNo_neat (hok.new hL (.inl rfl) h0 hl)) hpar
      · unfold kindT
        by_cases h0 : q = []
        · rw [if_pos h0]; decide
        · rw [if_neg h0]
          cases hl : lookE L1 q with
          | some e => exact hok.nolink hL (.inl rfl) e h0 hl
          | none => simp
/-- what Make has made (StrataWays) -/
theorem make_strata {L L' : List Ent} {way p : List UInt8} (hL : Good L) (h : makeWay true L way = (L', .ok p)) : Good L' ∧ straightP L' p ∧ kindT L' p = 1 ∧ L.Sublist L' ∧ (∃ tr, wayF L' false way = .ok (p, tr)) ∧ ∀ q tr, wayF L false way = .ok (q, tr) → q = p := by
  obtain ⟨h1, ⟨tr, h2⟩, _, h4, h5⟩ := make_law hL h
  unfold makeWay at h
  cases hR : makeF true (needF (pieces way).length 0) L [] (pieces way) 0 [] with
  | mk L1 R =>
    obtain ⟨md, x⟩ := R
    rw [hR] at h
    cases x with
    | error n => injection h with _ h; cases h
    | ok q =>
      injection h with e1 h; injection h with e2
      subst e1 e2
      have hok := makeF_ok _ _ _ _ _ _ hR
      obtain ⟨hx, hg⟩ := hok.ext hL
      refine ⟨h1, ?_, kindT_here h4, h5.list, ⟨tr, h2⟩, fun q2 tr2 hq => ?_⟩
      · rcases h4 with h4 | ⟨e, h4, _⟩
        · subst h4; exact straight_nil _
        · exact straight_there h1 h4
      · have := run_ext hx _ _ _ _ _ hq
        unfold wayF at h2
        rw [h2] at this
        injection this with this
        injection this with e1 e2
        exact e1.symm
end Go.Proofs.YtdkodedocklmdaaGreat
