/- Ways that make: what stands behind them, plain. -/
import Derived.Test.YtdkodedocklmdaaGreatMWays
set_option linter.unusedSimpArgs false
set_option linter.unusedVariables false
namespace Go.Proofs.YtdkodedocklmdaaGreat
def ExtL (L L' : List Ent) : Prop := ∀ q e, lookE L q = some e → lookE L' q = some e
theorem ExtL.refl (L : List Ent) : ExtL L L := fun _ _ h => h
theorem ExtL.trans {A B C : List Ent} (h : ExtL A B) (k : ExtL B C) : ExtL A C := fun q e x => k q e (h q e x)
theorem ext_laid {L : List Ent} (h : Good L) {e : Ent} (hn : lookE L e.path = none) : ExtL L (laidL L e) := fun q x hx => by
  rw [lookE_laid h.inc, if_neg (fun e2 => by rw [e2, hn] at hx; cases hx)]
  exact hx
theorem Here.ext {L L' : List Ent} (h : ExtL L L') {a : List UInt8} (ha : Here L a) : Here L' a := by
  rcases ha with h1 | ⟨e, h1, h2⟩
  · exact .inl h1
  · exact .inr ⟨e, h _ _ h1, h2⟩
/-- a way that makes and ends well: from a tree to a tree, and where it leads -/
inductive MOk (mk : Bool) : Nat → List Ent → List UInt8 → List (List UInt8) → Nat → List Ent → List UInt8 → Prop
  | zero (L a left hops) : MOk mk 0 L a left hops L a
  | nil (f L a hops) : MOk mk (f + 1) L a [] hops L a
  | dot {f L a left hops L' p} : MOk mk f L a left hops L' p → MOk mk (f + 1) L a ([46] :: left) hops L' p
  | up {f L a left hops L' p} : MOk mk f L (parent a) left hops L' p → MOk mk (f + 1) L a ([46, 46] :: left) hops L' p
  | last {f L a c hops} : c ≠ [46] → c ≠ [46, 46] → lookE L (joinP a c) = none → mayNo c (joinP a c) = 0 → mk = false → MOk mk (f + 1) L a [c] hops L (joinP a c)
  | made {f L a c left hops L' p} : c ≠ [46] → c ≠ [46, 46] → lookE L (joinP a c) = none → mayNo c (joinP a c) = 0 → ¬ (mk = false ∧ left = []) → putNo L (dirE (joinP a c)) = 0 → MOk mk f (laidL L (dirE (joinP a c))) (joinP a c) left hops L' p → MOk mk (f + 1) L a (c :: left) hops L' p
  | dir {f L a c left hops L' p e} : c ≠ [46] → c ≠ [46, 46] → lookE L (joinP a c) = some e → e.k = 1 → MOk mk f L (joinP a c) left hops L' p → MOk mk (f + 1) L a (c :: left) hops L' p
  | file {f L a c hops e} : c ≠ [46] → c ≠ [46, 46] → lookE L (joinP a c) = some e → e.k = 2 → mk = false → MOk mk (f + 1) L a [c] hops L (joinP a c)
  | link {f L a c left hops L' p e} : c ≠ [46] → c ≠ [46, 46] → lookE L (joinP a c) = some e → e.k ≠ 1 → e.k ≠ 2 → hops ≠ 40 → MOk mk f L (linkAt a e) (pieces e.l.data.toList ++ left) (hops + 1) L' p → MOk mk (f + 1) L a (c :: left) hops L' p
theorem makeF_ok {mk : Bool} {L' : List Ent} {md' : List (List UInt8)} {p : List UInt8} : ∀ (f : Nat) (L : List Ent) (a : List UInt8) (left : List (List UInt8)) (hops : Nat) (md : List (List UInt8)), makeF mk f L a left hops md = (L', md', .ok p) → MOk mk f L a left hops L' p
  | 0, L, a, left, hops, md, h => by
    unfold makeF at h
    injection h with h1 h2; injection h2 with h2 h3; injection h3 with h3
    subst h1 h3; exact .zero ..
  | f + 1, L, a, [], hops, md, h => by
    unfold makeF at h
    injection h with h1 h2; injection h2 with h2 h3; injection h3 with h3
    subst h1 h3; exact .nil ..
  | f + 1, L, a, c :: left, hops, md, h => by
    unfold makeF at h
    by_cases h1 : c = [46]
    · rw [if_pos h1] at h; subst h1; exact .dot (makeF_ok f L a left hops md h)
    rw [if_neg h1] at h
    by_cases h2 : c = [46, 46]
    · rw [if_pos h2] at h; subst h2; exact .up (makeF_ok f L (parent a) left hops md h)
    rw [if_neg h2] at h
    cases hl : lookE L (joinP a c) with
    | none =>
      rw [hl] at h
      simp only [] at h
      by_cases h3 : mayNo c (joinP a c) ≠ 0
      · rw [if_pos h3] at h; injection h with _ h; injection h with _ h; cases h
      rw [if_neg h3] at h
      have h3' : mayNo c (joinP a c) = 0 := by omega
      by_cases h4 : mk = false ∧ left = []
      · rw [if_pos h4] at h
        injection h with e1 h; injection h with _ h; injection h with e2
        obtain ⟨hm, rfl⟩ := h4
        subst e1 e2
        exact .last h1 h2 hl h3' hm
      rw [if_neg h4] at h
      by_cases h5 : putNo L (dirE (joinP a c)) ≠ 0
      · rw [if_pos h5] at h; injection h with _ h; injection h with _ h; cases h
      rw [if_neg h5] at h
      exact .made h1 h2 hl h3' h4 (by omega) (makeF_ok f _ (joinP a c) left hops (md ++ [joinP a c]) h)
    | some e =>
      rw [hl] at h
      simp only [] at h
      by_cases k1 : e.k = 1
      · rw [if_pos k1] at h; exact .dir h1 h2 hl k1 (makeF_ok f L (joinP a c) left hops md h)
      rw [if_neg k1] at h
      by_cases k2 : e.k = 2
      · rw [if_pos k2] at h
        by_cases h6 : mk = true ∨ left ≠ []
        · rw [if_pos h6] at h; injection h with _ h; injection h with _ h; cases h
        · rw [if_neg h6] at h
          injection h with e1 h; injection h with _ h; injection h with e2
          have hm : mk = false := by cases mk with
            | true => exact absurd (.inl rfl) h6
            | false => rfl
          have hleft : left = [] := Classical.byContradiction fun x => h6 (.inr x)
          subst e1 e2 hleft
          exact .file h1 h2 hl k2 hm
      rw [if_neg k2] at h
      by_cases k3 : hops = 40
      · rw [if_pos k3] at h; injection h with _ h; injection h with _ h; cases h
      rw [if_neg k3] at h
      exact .link h1 h2 hl k1 k2 k3 (makeF_ok f L _ _ (hops + 1) md h)
section
variable {mk : Bool} {f : Nat} {L L' : List Ent} {a p : List UInt8} {left : List (List UInt8)} {hops : Nat}
theorem MOk.ext (h : MOk mk f L a left hops L' p) (hL : Good L) : ExtL L L' ∧ Good L' := by
  induction h with
  | zero => exact ⟨.refl _, hL⟩
  | nil => exact ⟨.refl _, hL⟩
  | dot _ ih => exact ih hL
  | up _ ih => exact ih hL
  | last => exact ⟨.refl _, hL⟩
  | made h1 h2 hn hm h4 hp _ ih =>
    obtain ⟨r1, r2⟩ := ih (hL.laid hp)
    exact ⟨(ext_laid hL (by rw [dirE_path]; exact hn)).trans r1, r2⟩
  | dir _ _ _ _ _ ih => exact ih hL
  | file => exact ⟨.refl _, hL⟩
  | link _ _ _ _ _ _ _ ih => exact ih hL
theorem mayNo_check {c q : List UInt8} (h : mayNo c q = 0) : checkNo q = 0 := by
  unfold mayNo at h
  by_cases h1 : nameNo c ≠ 0
  · rw [if_pos h1] at h; exact absurd h h1
  · rw [if_neg h1] at h; exact h
/-- what was made is found: a way that follows leads where the way that makes has led -/
theorem MOk.run (h : MOk mk f L a left hops L' p) (hL : Good L) {L2 : List Ent} (hx : ExtL L' L2) (hp : mk = true ∨ p = [] ∨ lookE L' p ≠ none ∨ ∃ e, lookE L2 p = some e ∧ e.k = 2) : ∀ tr, ∃ tr', runF L2 false f a left hops tr = .ok (p, tr') := by
  induction h with
  | zero => exact fun tr => ⟨tr, rfl⟩
  | nil => exact fun tr => ⟨tr, rfl⟩
  | dot _ ih =>
    intro tr
    obtain ⟨tr', ht⟩ := ih hL hx hp (tr ++ [_])
    refine ⟨tr', ?_⟩
    unfold runF
    rw [if_pos rfl]
    exact ht
  | up _ ih =>
    intro tr
    obtain ⟨tr', ht⟩ := ih hL hx hp (tr ++ [_])
    refine ⟨tr', ?_⟩
    unfold runF
    rw [if_neg (by decide), if_pos rfl]
    exact ht
  | @last f L a c hops h1 h2 hn hm hmk =>
    intro tr
    rcases hp with hp | hp | hp | ⟨e, he, hk⟩
    · rw [hmk] at hp; cases hp
    · exact absurd hp (checkNo_neat (mayNo_check hm)).ne
    · exact absurd hn hp
    · refine ⟨tr ++ [joinP a c], ?_⟩
      unfold runF
      rw [if_neg h1, if_neg h2, he]
      simp only []
      rw [if_neg (by rw [hk]; decide), if_pos hk, if_neg (fun x => x rfl)]
  | made h1 h2 hn hm h4 hpn h5 ih =>
    intro tr
    have hg := hL.laid hpn
    obtain ⟨r1, r2⟩ := h5.ext hg
    obtain ⟨tr', ht⟩ := ih hg hx hp (tr ++ [_])
    refine ⟨tr', ?_⟩
    have hq := hx _ _ (r1 _ _ ((lookE_laid hL.inc (e := dirE _) _).trans (if_pos (dirE_path _).symm)))
    unfold runF
    rw [if_neg h1, if_neg h2, hq]
    simp only []
    rw [if_pos (show (dirE _).k = 1 from rfl)]
    exact ht
  | dir h1 h2 hs hk h5 ih =>
    intro tr
    obtain ⟨tr', ht⟩ := ih hL hx hp (tr ++ [_])
    refine ⟨tr', ?_⟩
    have hq := hx _ _ ((h5.ext hL).1 _ _ hs)
    unfold runF
    rw [if_neg h1, if_neg h2, hq]
    simp only []
    rw [if_pos hk]
    exact ht
  | @file f L a c hops e h1 h2 hs hk hmk =>
    intro tr
    have hq := hx _ _ hs
    refine ⟨tr ++ [joinP a c], ?_⟩
    unfold runF
    rw [if_neg h1, if_neg h2, hq]
    simp only []
    rw [if_neg (by rw [hk]; decide), if_pos hk, if_neg (fun x => x rfl)]
  | link h1 h2 hs k1 k2 k3 h5 ih =>
    intro tr
    obtain ⟨tr', ht⟩ := ih hL hx hp (tr ++ [_])
    refine ⟨tr', ?_⟩
    have hq := hx _ _ ((h5.ext hL).1 _ _ hs)
    unfold runF
    rw [if_neg h1, if_neg h2, hq]
    simp only []
    rw [if_neg k1, if_neg k2, if_neg (by simp), if_neg k3]
    exact ht
/-- made once more, nothing is made -/
theorem MOk.again (h : MOk mk f L a left hops L' p) (hL : Good L) {L2 : List Ent} (hx : ExtL L' L2) (hmk : mk = true) : ∀ md, makeF true f L2 a left hops md = (L2, md, .ok p) := by
  subst hmk
  induction h with
  | zero => exact fun md => rfl
  | nil => exact fun md => rfl
  | dot _ ih =>
    intro md
    unfold makeF
    rw [if_pos rfl]
    exact ih hL hx md
  | up _ ih =>
    intro md
    unfold makeF
    rw [if_neg (by decide), if_pos rfl]
    exact ih hL hx md
  | last h1 h2 hn hm hmk => cases hmk
  | made h1 h2 hn hm h4 hpn h5 ih =>
    intro md
    have hg := hL.laid hpn
    obtain ⟨r1, r2⟩ := h5.ext hg
    have hq := hx _ _ (r1 _ _ ((lookE_laid hL.inc (e := dirE _) _).trans (if_pos (dirE_path _).symm)))
    unfold makeF
    rw [if_neg h1, if_neg h2, hq]
    simp only []
    rw [if_pos (show (dirE _).k = 1 from rfl)]
    exact ih hg hx md
  | dir h1 h2 hs hk h5 ih =>
    intro md
    have hq := hx _ _ ((h5.ext hL).1 _ _ hs)
    unfold makeF
    rw [if_neg h1, if_neg h2, hq]
    simp only []
    rw [if_pos hk]
    exact ih hL hx md
  | file h1 h2 hs hk hmk => cases hmk
  | link h1 h2 hs k1 k2 k3 h5 ih =>
    intro md
    have hq := hx _ _ ((h5.ext hL).1 _ _ hs)
    unfold makeF
    rw [if_neg h1, if_neg h2, hq]
    simp only []
    rw [if_neg k1, if_neg k2, if_neg k3]
    exact ih hL hx md
/-- where a way leads that makes all: a directory -/
theorem MOk.here (h : MOk mk f L a left hops L' p) (hL : Good L) (ha : Here L a) (hmk : mk = true) : Here L' p := by
  induction h with
  | zero => exact ha
  | nil => exact ha
  | dot _ ih => exact ih hL ha
  | up _ ih => exact ih hL (ha.parent hL)
  | last _ _ _ _ x => rw [hmk] at x; cases x
  | made h1 h2 hn hm h4 hpn h5 ih => exact ih (hL.laid hpn) (Here.made hL)
  | dir h1 h2 hs hk h5 ih => exact ih hL (.inr ⟨_, hs, hk⟩)
  | file _ _ _ _ x => rw [hmk] at x; cases x
  | link h1 h2 hs k1 k2 k3 h5 ih => exact ih hL (ha.link _)
/-- what a way leads to stands in a directory -/
theorem MOk.parent (h : MOk mk f L a left hops L' p) (hL : Good L) (ha : Here L a) (hl : ∀ c ∈ left, (47 : UInt8) ∉ c) : Here L' (parent p) := by
  induction h with
  | zero => exact ha.parent hL
  | nil => exact ha.parent hL
  | dot _ ih => exact ih hL ha (fun c hc => hl c (List.mem_cons_of_mem _ hc))
  | up _ ih => exact ih hL (ha.parent hL) (fun c hc => hl c (List.mem_cons_of_mem _ hc))
  | last => rw [parent_join (hl _ (List.mem_cons_self ..))]; exact ha
  | made h1 h2 hn hm h4 hpn h5 ih => exact ih (hL.laid hpn) (Here.made hL) (fun c hc => hl c (List.mem_cons_of_mem _ hc))
  | dir h1 h2 hs hk h5 ih => exact ih hL (.inr ⟨_, hs, hk⟩) (fun c hc => hl c (List.mem_cons_of_mem _ hc))
  | file => rw [parent_join (hl _ (List.mem_cons_self ..))]; exact ha
  | link h1 h2 hs k1 k2 k3 h5 ih =>
    refine ih hL (ha.link _) (fun c hc => ?_)
    rcases List.mem_append.1 hc with hc | hc
    · exact (pieces_mem c hc).2
    · exact hl c (List.mem_cons_of_mem _ hc)
/-- where nothing is something may be put -/
theorem MOk.new (h : MOk mk f L a left hops L' p) (hL : Good L) (ha : Here L a) (hp : p ≠ []) (hn : lookE L' p = none) : checkNo p = 0 := by
  have no : ∀ {L : List Ent} {a : List UInt8}, Here L a → a ≠ [] → lookE L a = none → False := fun h1 h2 h3 => by
    rcases h1 with h1 | ⟨e, h1, _⟩
    · exact h2 h1
    · rw [h3] at h1; cases h1
  induction h with
  | zero => exact (no ha hp hn).elim
  | nil => exact (no ha hp hn).elim
  | dot _ ih => exact ih hL ha hp hn
  | up _ ih => exact ih hL (ha.parent hL) hp hn
  | last h1 h2 hs hm x => exact mayNo_check hm
  | made h1 h2 _ hm h4 hpn h5 ih => exact ih (hL.laid hpn) (Here.made hL) hp hn
  | dir h1 h2 hs hk h5 ih => exact ih hL (.inr ⟨_, hs, hk⟩) hp hn
  | file h1 h2 hs hk x => rw [hn] at hs; cases hs
  | link h1 h2 hs k1 k2 k3 h5 ih => exact ih hL (ha.link _) hp hn
end
/-- a list has all entries of another, and besides them only directories of mode 493 -/
inductive KeptR : List Ent → List Ent → Prop
  | nil : KeptR [] []
  | both {x now l} : KeptR now l → KeptR (x :: now) (x :: l)
  | more {x : Ent} {now l} : x.k = 1 → x.m = 493 → (∀ y ∈ l, y.path ≠ x.path) → KeptR now l → KeptR (x :: now) l
theorem KeptR.refl : ∀ (L : List Ent), KeptR L L
  | [] => .nil
  | _ :: r => .both (KeptR.refl r)
theorem KeptR.sub {A B : List Ent} (h : KeptR A B) : ∀ y ∈ B, y ∈ A := by
  induction h with
  | nil => exact fun y h => h
  | both _ ih =>
    intro y hy
    rcases List.mem_cons.1 hy with e | e
    · rw [e]; exact List.mem_cons_self ..
    · exact List.mem_cons_of_mem _ (ih y e)
  | more _ _ _ _ ih => exact fun y hy => List.mem_cons_of_mem _ (ih y hy)
theorem KeptR.trans {A B : List Ent} (h : KeptR A B) : ∀ {C : List Ent}, KeptR B C → KeptR A C := by
  induction h with
  | nil => exact fun k => k
  | both _ ih =>
    intro C k
    cases k with
    | both k => exact .both (ih k)
    | more h1 h2 h3 k => exact .more h1 h2 h3 (ih k)
  | more h1 h2 h3 _ ih => exact fun k => .more h1 h2 (fun y hy => h3 y (k.sub y hy)) (ih k)
theorem KeptR.laid {e : Ent} (h1 : e.k = 1) (h2 : e.m = 493) : ∀ {L : List Ent}, (∀ y ∈ L, y.path ≠ e.path) → KeptR (laidL L e) L
  | [], h => .more h1 h2 (fun y hy => by cases hy) .nil
  | x :: r, h => by
    unfold laidL
    by_cases hc : compareP x.path e.path < 0
    · rw [if_pos hc]
      exact .both (KeptR.laid h1 h2 fun y hy => h y (List.mem_cons_of_mem _ hy))
    · rw [if_neg hc, if_neg (h x (List.mem_cons_self ..))]
      exact .more h1 h2 h (.refl _)
theorem MOk.kept {mk : Bool} {f : Nat} {L L' : List Ent} {a p : List UInt8} {left : List (List UInt8)} {hops : Nat} (h : MOk mk f L a left hops L' p) (hL : Good L) : KeptR L' L := by
  induction h with
  | zero => exact .refl _
  | nil => exact .refl _
  | dot _ ih => exact ih hL
  | up _ ih => exact ih hL
  | last => exact .refl _
  | made h1 h2 hn hm h4 hpn h5 ih => exact (ih (hL.laid hpn)).trans (KeptR.laid rfl rfl (fun y hy e => lookE_none hn y hy (e.trans (dirE_path _))))
  | dir _ _ _ _ _ ih => exact ih hL
  | file => exact .refl _
  | link _ _ _ _ _ _ _ ih => exact ih hL
/-- a file that is put -/
def fileE (q : List UInt8) : Ent := ⟨bs q, 2, 420, emp, emp⟩
theorem fileE_path (q : List UInt8) : (fileE q).path = q := bs_toList q
theorem putNo_file {L : List Ent} (h : Good L) {p : List UInt8} (hc : checkNo p = 0) (hu : Here L (parent p)) (hn : lookE L p = none) (hl : L.length < 4096) : putNo L (fileE p) = 0 := by
  have hit : itselfNo (fileE p) = 0 := by
    unfold itselfNo
    rw [fileE_path]
    have e1 : (fileE p).k = 2 := rfl
    have e2 : (fileE p).m = 420 := rfl
    have e3 : (fileE p).d.size = 0 := rfl
    have e4 : (fileE p).l.data.toList = [] := rfl
    rw [e1, e2, e3, e4]
    simp [hc]
  have hup : upNo L (fileE p).path = 0 := by
    rw [fileE_path]
    unfold upNo
    rcases hu with hu | ⟨e, he, hk⟩
    · rw [if_pos hu]
    · by_cases h0 : parent p = []
      · rw [if_pos h0]
      · rw [if_neg h0, he]
        simp [hk]
  rw [putNo_rest hit hup, fileE_path, hn]
  have hd : (fileE p).d.size = 0 := rfl
  have hb := h.byt
  rw [hd]
  exact if_neg (by omega)
/-- what Make has made -/
theorem make_law {L L' : List Ent} {way p : List UInt8} (hL : Good L) (h : makeWay true L way = (L', .ok p)) : Good L' ∧ (∃ tr, wayF L' false way = .ok (p, tr)) ∧ makeWay true L' way = (L', .ok p) ∧ (p = [] ∨ ∃ e, lookE L' p = some e ∧ e.k = 1) ∧ KeptR L' L := by
  unfold makeWay at h
  cases hR : makeF true (needF (pieces way).length 0) L [] (pieces way) 0 [] with
  | mk L1 R =>
    obtain ⟨md, x⟩ := R
    rw [hR] at h
    cases x with
    | error n => injection h with _ h; cases h
    | ok q =>
      injection h with e1 h; injection h with e2
      subst e1 e2
      have hok := makeF_ok _ _ _ _ _ _ hR
      refine ⟨(hok.ext hL).2, hok.run hL (.refl _) (.inl rfl) [[]], ?_, hok.here hL (.inl rfl) rfl, hok.kept hL⟩
      unfold makeWay
      rw [hok.again hL (.refl _) rfl []]
/-- what Place has made -/
theorem place_law {L L' : List Ent} {way p : List UInt8} (hL : Good L) (h : makeWay false L way = (L', .ok p)) : Good L' ∧ KeptR L' L ∧ (parent p = [] ∨ ∃ e, lookE L' (parent p) = some e ∧ e.k = 1) ∧
    (p ≠ [] → lookE L' p = none → L'.length < 4096 → putNo L' (fileE p) = 0 ∧ ∃ tr, wayF (laidL L' (fileE p)) false way = .ok (p, tr)) := by
  unfold makeWay at h
  cases hR : makeF false (needF (pieces way).length 0) L [] (pieces way) 0 [] with
  | mk L1 R =>
    obtain ⟨md, x⟩ := R
    rw [hR] at h
    cases x with
    | error n => injection h with _ h; cases h
    | ok q =>
      injection h with e1 h; injection h with e2
      subst e1 e2
      have hok := makeF_ok _ _ _ _ _ _ hR
      obtain ⟨hx, hg⟩ := hok.ext hL
      have hpar := hok.parent hL (.inl rfl) (fun c hc => (pieces_mem c hc).2)
      refine ⟨hg, hok.kept hL, hpar, fun hp hn hl => ?_⟩
      have hput := putNo_file hg (hok.new hL (.inl rfl) hp hn) hpar hn hl
      refine ⟨hput, hok.run hL (ext_laid hg (by rw [fileE_path]; exact hn)) (.inr (.inr (.inr ⟨fileE q, ?_, rfl⟩))) [[]]⟩
      rw [lookE_laid hg.inc, fileE_path, if_pos rfl]
end Go.Proofs.YtdkodedocklmdaaGreat
