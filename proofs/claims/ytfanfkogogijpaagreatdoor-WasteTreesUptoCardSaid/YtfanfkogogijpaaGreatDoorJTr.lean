/- Joined: what these texts prove stands at the head of each part: TrPlain, TrLaw. -/
import Derived.Test.YtfanfkogogijpaaGreatDoorJPlain
import Derived.Test.YtfanfkogogijpaaGreatDoorJFl
import Derived.Test.YtfanfkogogijpaaGreatDoorJDiff
import Derived.Test.YtfanfkogogijpaaGreatDoorLWorks
set_option linter.unusedSimpArgs false
set_option linter.unusedVariables false
namespace Go.Proofs.YtfanfkogogijpaaGreatDoor
section
def toW (c : Chg) : WChg := ⟨c.p, c.g, c.e.p, c.e.k, c.e.m, c.e.d, c.e.l⟩
def cwD (c : Chg) : Cw := cwOf (toW c)
theorem cwD_p (c : Chg) : (cwD c).p = c.path := rfl
theorem cwD_g (c : Chg) : (cwD c).g = c.g := rfl
theorem cwD_n (c : Chg) : (cwD c).n = c.e.d.size := rfl
/-- how many bytes lie at a path -/
def szE (L : List Ent) (p : List UInt8) : Nat := match lookE L p with
  | some e => e.d.size
  | none => 0
theorem done_now {L L' : List Ent} {c : Chg} (hi : Inc L) (h : doneL L c = .ok L') (p : List UInt8) : Inc L' ∧ nowStep p (szE L p) (cwD c) = szE L' p := by
  unfold doneL at h
  unfold nowStep
  rw [cwD_g, cwD_p, cwD_n]
  split at h
  · rename_i hg
    split at h
    · cases h
    split at h
    · cases h
    injection h with h
    subst h
    refine ⟨List.Pairwise.filter _ hi, ?_⟩
    rw [if_pos hg]
    unfold szE hits
    rw [lookE_without]
    by_cases hp : p = c.path ∨ belowP c.path p = true
    · rw [if_pos (by simpa using hp), if_pos hp]
    · rw [if_neg (by simpa using hp), if_neg hp]
  rename_i hg
  rw [if_neg hg]
  split at h
  · cases h
  rename_i hp
  have hp : c.e.path = c.path := Classical.not_not.1 hp
  split at h
  · cases h
  split at h
  · cases h
  have fin : L' = laidL L c.e := by
    cases hl : lookE L c.path with
    | none => rw [hl] at h; injection h with h; exact h.symm
    | some x =>
      rw [hl] at h
      simp only [] at h
      split at h
      · injection h with h; exact h.symm
      · cases h
  subst fin
  refine ⟨inc_laid hi, ?_⟩
  unfold szE
  rw [lookE_laid hi, hp]
  by_cases hq : c.path = p
  · rw [if_pos hq, if_pos hq.symm]
  · rw [if_neg hq, if_neg (fun e => hq e.symm)]
theorem do_now : ∀ (C : List Chg) {L L' : List Ent} {i : Nat}, Inc L → doL L C i = .ok L' → ∀ p, (C.map cwD).foldl (nowStep p) (szE L p) = szE L' p
  | [], L, L', i, hi, h, p => by
    injection h with h
    subst h
    rfl
  | c :: r, L, L', i, hi, h, p => by
    unfold doL at h
    cases hc : doneL L c with
    | error n => rw [hc] at h; cases h
    | ok L1 =>
      rw [hc] at h
      obtain ⟨h1, h2⟩ := done_now hi hc p
      rw [List.map_cons, List.foldl_cons, h2]
      exact do_now r h1 h p
theorem diff_now {A B : List Ent} (ga : Good A) (gb : Good B) (l : List Cw) (h : ∀ p, nowF l p = szE A p) (p : List UInt8) : nowF (l ++ (chgL A B).map cwD) p = szE B p := by
  unfold nowF at h ⊢
  rw [List.foldl_append, h p]
  exact do_now _ ga.inc (diff_makes ga gb) p
theorem sz_cons (x : Ent) (l : List Ent) (p : List UInt8) : szE (x :: l) p = if x.path = p then x.d.size else szE l p := by
  unfold szE
  rw [lookE_cons]
  by_cases h : x.path = p
  · rw [if_pos h, if_pos h]
  · rw [if_neg h, if_neg h]
theorem sum_zero {α : Type} {f : α → Nat} : ∀ {K : List α}, (∀ p ∈ K, f p = 0) → (K.map f).sum = 0
  | [], _ => rfl
  | x :: r, h => by rw [List.map_cons, List.sum_cons, h x (List.mem_cons_self ..), sum_zero (fun p hp => h p (List.mem_cons_of_mem _ hp))]
/-- the sizes at all paths are all the bytes -/
theorem sz_sum : ∀ (T : List Ent), Inc T → ∀ (K : List (List UInt8)), K.Nodup → (∀ e ∈ T, e.path ∈ K) → (K.map (szE T)).sum = bytesE T
  | [], _, K, _, _ => sum_zero fun p _ => rfl
  | x :: T, hi, K, hK, hm => by
    obtain ⟨h1, h2⟩ := List.pairwise_cons.1 hi
    have hx : szE T x.path = 0 := by
      unfold szE
      rw [lookE_not (fun y hy e => by have := h1 y hy; rw [e] at this; exact compareP_irrefl _ this)]
    rw [bytesE_cons, ← sz_sum T h2 K hK (fun e he => hm e (List.mem_cons_of_mem _ he))]
    have key : ∀ (K : List (List UInt8)), K.Nodup → (K.map (szE (x :: T))).sum = (if x.path ∈ K then x.d.size else 0) + (K.map (szE T)).sum := by
      intro K
      induction K with
      | nil => intro _; simp
      | cons p k ih =>
        intro hn
        obtain ⟨hn1, hn2⟩ := List.nodup_cons.1 hn
        rw [List.map_cons, List.sum_cons, List.map_cons, List.sum_cons, ih hn2, sz_cons]
        by_cases hp : x.path = p
        · subst hp
          rw [if_pos rfl, if_neg hn1, if_pos (List.mem_cons_self ..), hx]
        · rw [if_neg hp]
          by_cases hk : x.path ∈ k
          · rw [if_pos hk, if_pos (List.mem_cons_of_mem _ hk)]
            omega
          · rw [if_neg hk, if_neg (fun h => (List.mem_cons.1 h).elim hp hk)]
            omega
    rw [key K hK, if_pos (hm x (List.mem_cons_self ..))]
theorem nodup_add : ∀ (K M : List (List UInt8)), K.Nodup → ∃ R : List (List UInt8), R.Nodup ∧ (∀ p ∈ K, p ∈ R) ∧ ∀ p ∈ M, p ∈ R
  | K, [], h => ⟨K, h, fun p hp => hp, fun p hp => by cases hp⟩
  | K, x :: M, h => by
    obtain ⟨R, h1, h2, h3⟩ := nodup_add K M h
    by_cases hx : x ∈ R
    · exact ⟨R, h1, h2, fun p hp => (List.mem_cons.1 hp).elim (fun e => by rw [e]; exact hx) (h3 p)⟩
    · exact ⟨x :: R, List.nodup_cons.2 ⟨hx, h1⟩, fun p hp => List.mem_cons_of_mem _ (h2 p hp), fun p hp => (List.mem_cons.1 hp).elim (fun e => by rw [e]; exact List.mem_cons_self ..) (fun e => List.mem_cons_of_mem _ (h3 p e))⟩
/-- THE LAW: what is there in the end are the last tree's bytes -/
theorem trees_least {l : List Cw} {T : List Ent} (hi : Inc T) (h : ∀ p, nowF l p = szE T p) : leastR l = bytesE T := by
  obtain ⟨R, h1, h2, h3⟩ := nodup_add ((costsM l).map (·.1)) (T.map (·.path)) (costs_keys l).1
  rw [← least_is l R h1 (fun c hc hg => h2 _ (((costs_keys l).2 c.p).2 ⟨c, hc, hg, rfl⟩)), ← sz_sum T hi R h1 (fun e he => h3 _ (List.mem_map.2 ⟨e, he, rfl⟩))]
  refine congrArg List.sum (List.map_congr_left fun p _ => ?_)
  rw [← now_is, h p]
/-- the deltas of trees bring no more than the trees have -/
theorem brings_le : ∀ (C : List Chg) , totalR (C.map cwD) ≤ (C.map fun c => if c.g = true then 0 else c.e.d.size).sum
  | [] => Nat.le_refl _
  | c :: r => by
    have ih := brings_le r
    unfold totalR at ih ⊢
    rw [List.map_cons, List.map_cons, List.sum_cons, List.map_cons, List.sum_cons]
    have : bringsF (cwD c) = if c.g = true then 0 else c.e.d.size := rfl
    omega
theorem chg_brings : ∀ (f : Nat) (ra rb : List Ent) (top : Option (List UInt8)), ((chgF f ra rb top).map fun c => if c.g = true then 0 else c.e.d.size).sum ≤ bytesE rb
  | 0, ra, rb, top => by unfold chgF; simp
  | f + 1, [], [], top => by unfold chgF; simp
  | f + 1, x :: a, [], top => by
    have h1 := chg_brings f a [] top
    have h2 := chg_brings f a [] (some x.path)
    unfold chgF
    split
    · exact h1
    · rw [List.map_cons, List.sum_cons]
      show (if true = true then 0 else _) + _ ≤ _
      rw [if_pos rfl]
      omega
  | f + 1, [], y :: b, top => by
    have h1 := chg_brings f [] b top
    unfold chgF
    rw [List.map_cons, List.sum_cons, bytesE_cons]
    show (if false = true then 0 else y.d.size) + _ ≤ _
    rw [if_neg (by decide)]
    omega
  | f + 1, x :: a, y :: b, top => by
    have hg : ∀ (t : List Chg), ((goneOf x :: t).map fun c => if c.g = true then 0 else c.e.d.size).sum = (t.map fun c => if c.g = true then 0 else c.e.d.size).sum := fun t => by
      rw [List.map_cons, List.sum_cons]
      show (if true = true then 0 else _) + _ = _
      rw [if_pos rfl, Nat.zero_add]
    have hl : ∀ (t : List Chg), ((layOf y :: t).map fun c => if c.g = true then 0 else c.e.d.size).sum = y.d.size + (t.map fun c => if c.g = true then 0 else c.e.d.size).sum := fun t => by
      rw [List.map_cons, List.sum_cons]
      show (if false = true then 0 else y.d.size) + _ = _
      rw [if_neg (by decide)]
    have h1 := chg_brings f a (y :: b) top
    have h2 := chg_brings f a (y :: b) (some x.path)
    have h3 := chg_brings f (x :: a) b top
    have h4 := chg_brings f a b top
    have h5 := chg_brings f a b (some x.path)
    rw [bytesE_cons] at h1 h2 ⊢
    unfold chgF
    repeat (first | omega | (simp only [hg, hl]; omega) | split)
theorem diff_total (A B : List Ent) : totalR ((chgL A B).map cwD) ≤ bytesE B := Nat.le_trans (brings_le _) (chg_brings _ _ _ _)
end
end Go.Proofs.YtfanfkogogijpaaGreatDoor
namespace Go.Proofs.YtfanfkogogijpaaGreatDoor
section
open Go.RowKit Go.Maps Go.Shelf
open Go.Lib hiding intOf size_eq
theorem go_good : ∀ (r seen : List Ent), Good seen → (checkGo seen r).1 = 0 → Good (seen ++ r)
  | [], seen, h, _ => by rw [List.append_nil]; exact h
  | e :: r, seen, h, hc => by
    unfold checkGo at hc
    split at hc
    · rename_i h1; exact absurd hc h1
    · rename_i h1
      have := go_good r (seen ++ [e]) (h.add (Classical.not_not.1 h1)) hc
      rwa [List.append_assoc] at this
theorem good_of_check {L : List Ent} (h : (checkL L).1 = 0) : Good L := go_good L [] good_nil h
theorem trows_apart {X : World} {B1 B2 s1 s2 n1 n2 : Nat} {T1 T2 : TypeId} {v1 v2 : Value} {x1 x2 : List Value} (h1 : X.ownsRow B1 T1 s1 v1 n1 x1) (h2 : X.ownsRow B2 T2 s2 v2 n2 x2) (hT : T1 ≠ T2) : v1.ownBlock = none ∨ v1.ownBlock ≠ v2.ownBlock := by
  obtain ⟨_, h1⟩ := h1
  obtain ⟨_, h2⟩ := h2
  rcases h1 with ⟨rfl, _⟩ | ⟨g, cap, cur, rfl, _, hg, _⟩
  · exact .inl rfl
  · rcases h2 with ⟨rfl, _⟩ | ⟨g2, cap2, cur2, rfl, _, hg2, _⟩
    · exact .inr (by simp [Value.ownBlock])
    · refine .inr fun e => ?_
      simp only [Value.ownBlock, Option.some.injEq] at e
      rw [e, hg2] at hg
      injection hg with hg
      injection hg with _ hg
      exact hT hg.symm
theorem trow_below {w w' : World} {base n size : Nat} {e : TypeId} {v : Value} {xs : List Value} (h : w.ownsRow base e size v n xs) (hb : Below w.heap.size w w') : w'.ownsRow base e size v n xs := by
  obtain ⟨h1, h2⟩ := h
  refine ⟨h1, ?_⟩
  rcases h2 with h2 | ⟨g, cap, cur, e1, hbs, hg, r⟩
  · exact .inl h2
  · exact .inr ⟨g, cap, cur, e1, hbs, (hb.block g (heap_lt hg)).trans hg, r⟩
theorem titems_row {w : World} {base : Nat} {T : TypeId} {v : Value} {L : List Chg} (h : w.ownsRow base T 7 v L.length (L.flatMap chgC)) : ItemsAt wchgC 7 w v (L.map toW) := by
  have h1 := items_of_row chgC_len h
  obtain ⟨o, cap, e, h2, h3, h4⟩ := h1
  refine ⟨o, cap, by rw [List.length_map]; exact e, by rw [List.length_map]; exact h2, h3, fun i x hx => ?_⟩
  rw [List.getElem?_map] at hx
  obtain ⟨y, hy, rfl⟩ := Option.map_eq_some_iff.1 hx
  exact h4 i y hy
def flatD (Ds : List (List Chg)) : List Cw := Ds.flatten.map cwD
theorem flatD_snoc (Ds : List (List Chg)) (D : List Chg) : flatD (Ds ++ [D]) = flatD Ds ++ D.map cwD := by
  unfold flatD
  rw [List.flatten_append, List.map_append]
  simp
theorem flatD_flatC (Ds : List (List Chg)) : flatC (Ds.map fun D => D.map toW) = flatD Ds := by
  unfold flatC flatD
  rw [← List.map_flatten, List.map_map]
  rfl
theorem total_app (a b : List Cw) : totalR (a ++ b) = totalR a + totalR b := by unfold totalR; rw [List.map_append, List.sum_append]
def sumT' (LL : List (List Ent)) : Nat := (LL.map fun L => 2 * L.length + bytesE L + 1).sum
theorem sumT_take {LL : List (List Ent)} {i : Nat} {L : List Ent} (h : LL[i]? = some L) : sumT' (LL.take (i + 1)) = sumT' (LL.take i) + (2 * L.length + bytesE L + 1) := by
  have e : LL.take (i + 1) = LL.take i ++ [L] := by rw [List.take_add_one, h]; rfl
  unfold sumT'
  rw [e, List.map_append, List.sum_append]
  simp
theorem sumT_le (LL : List (List Ent)) (i : Nat) : sumT' (LL.take i) ≤ sumT' LL := by
  conv => rhs; rw [← List.take_append_drop i LL]
  unfold sumT'
  rw [List.map_append, List.sum_append]
  omega
/-- where the first loop stands -/
structure TrI (w W : World) (LL : List (List Ent)) (i : Nat) (lv av : Value) (At : List Ent) (Ds : List (List Chg)) (vs : List Value) : Prop where
  ents : EntsAt w av At
  good : Good At
  small : ∀ e ∈ At, e.p.size ≤ 1048576 ∧ e.d.size ≤ 1048576 ∧ e.l.size ≤ 1048576
  row : W.ownsRow w.heap.size 28 1 lv Ds.length vs
  all : ∀ (k : Nat) D, Ds[k]? = some D → ∃ u, vs[k]? = some u ∧ W.ownsRow w.heap.size 49 7 u D.length (D.flatMap chgC)
  paths : ∀ D ∈ Ds, ∀ c ∈ D, c.p.size ≤ 1048576
  now : ∀ p, nowF (flatD Ds) p = szE At p
  bound : (flatD Ds).length + At.length + totalR (flatD Ds) + Ds.length ≤ sumT' (LL.take i)
  bytes : bytesE At ≤ 16777216
  bel : Below w.heap.size w W
theorem TrI.start (w : World) (LL : List (List Ent)) : TrI w w LL 0 (.slice none 0 0) (.slice none 0 0) [] [] [] :=
  ⟨⟨none, 0, rfl, Nat.le_refl _, by simp, (fun i e he => by cases he)⟩, good_nil, (fun e he => by cases he), World.ownsRow_nil _ _ _ _, (fun k D h => by cases h), (fun D h => by cases h), (fun p => rfl), by simp [flatD, totalR], by decide, Below.refl _ _⟩
theorem TrI.call {w W W' : World} {LL : List (List Ent)} {i : Nat} {lv av : Value} {At : List Ent} {Ds : List (List Chg)} {vs : List Value} (h : TrI w W LL i lv av At Ds vs) (hb : Below W.heap.size W W') : TrI w W' LL i lv av At Ds vs :=
  ⟨h.ents, h.good, h.small, trow_below h.row hb, fun k D hD => by
    obtain ⟨u, h1, h2⟩ := h.all k D hD
    exact ⟨u, h1, trow_below h2 hb⟩, h.paths, h.now, h.bound, h.bytes, h.bel.trans (hb.mono h.bel.size)⟩
theorem TrI.skip {w W : World} {LL : List (List Ent)} {i : Nat} {lv av : Value} {At : List Ent} {Ds : List (List Chg)} {vs : List Value} {L : List Ent} (h : TrI w W LL i lv av At Ds vs) (hL : LL[i]? = some L) : TrI w W LL (i + 1) lv av At Ds vs :=
  ⟨h.ents, h.good, h.small, h.row, h.all, h.paths, h.now, by rw [sumT_take hL]; have := h.bound; omega, h.bytes, h.bel⟩
theorem TrI.step {w W W1 : World} {LL : List (List Ent)} {i : Nat} {lv av lv' v6 xv : Value} {At L : List Ent} {Ds : List (List Chg)} {vs : List Value} (h : TrI w W LL i lv av At Ds vs) (hL : LL[i]? = some L)
    (he : EntsAt w xv L) (hg : Good L) (hs : ∀ e ∈ L, e.p.size ≤ 1048576 ∧ e.d.size ≤ 1048576 ∧ e.l.size ≤ 1048576)
    (hd : W.ownsRow w.heap.size 49 7 v6 (chgL At L).length ((chgL At L).flatMap chgC))
    (hr : W1.ownsRow w.heap.size 28 1 lv' (Ds.length + 1) (vs ++ [v6])) (hgr : (W.alloc (.cells #[v6] 28)).grownBy W1 lv.ownBlock) :
    TrI w W1 LL (i + 1) lv' xv L (Ds ++ [chgL At L]) (vs ++ [v6]) := by
  have hT : 49 ≠ 28 := by decide
  have hvl : vs.length = Ds.length := by have := h.row.1; omega
  have keep : ∀ {u : Value} {D : List Chg}, W.ownsRow w.heap.size 49 7 u D.length (D.flatMap chgC) → W1.ownsRow w.heap.size 49 7 u D.length (D.flatMap chgC) := fun hu =>
    (hu.alloc _).kept hgr (trows_apart hu h.row hT)
  have hlen := chg_len (At.length + L.length) At L none
  have htot := diff_total At L
  refine ⟨he, hg, hs, by rw [List.length_append]; exact hr, fun k D hD => ?_, fun D hD c hc => ?_, fun p => ?_, ?_, hg.byt, ?_⟩
  · by_cases hk : k < Ds.length
    · rw [List.getElem?_append_left hk] at hD
      obtain ⟨u, h1, h2⟩ := h.all k D hD
      exact ⟨u, by rw [List.getElem?_append_left (by omega)]; exact h1, keep h2⟩
    · rw [List.getElem?_append_right (by omega)] at hD
      have hk0 : k - Ds.length = 0 := by
        have := (List.getElem?_eq_some_iff.1 hD).1
        simp at this
        omega
      rw [hk0] at hD
      injection hD with hD
      subst hD
      exact ⟨v6, by rw [List.getElem?_append_right (by omega), show k - vs.length = 0 by omega]; rfl, keep hd⟩
  · rcases List.mem_append.1 hD with hD | hD
    · exact h.paths D hD c hc
    · rw [List.mem_singleton.1 hD] at hc
      rcases chg_from _ _ _ _ c hc with ⟨_, x, hx, e⟩ | ⟨_, x, hx, e⟩
      · rw [e]; exact (h.small x hx).1
      · rw [e]; exact (hs x hx).1
  · rw [flatD_snoc]
    exact diff_now h.good hg _ h.now p
  · rw [flatD_snoc, List.length_append, List.length_map, total_app, List.length_append, sumT_take hL]
    have hb := h.bound
    have hlen : (chgL At L).length ≤ At.length + L.length := hlen
    simp only [List.length_singleton]
    omega
  · exact (h.bel.alloc h.bel.size _).grown hgr (by have := h.bel.size; simp; omega) (fun k e => (World.ownsRow.lt h.row k e).1)
theorem TrI.deltas {w W : World} {LL : List (List Ent)} {i : Nat} {lv av : Value} {At : List Ent} {Ds : List (List Chg)} {vs : List Value} (h : TrI w W LL i lv av At Ds vs) : DeltasAt W lv (Ds.map fun D => D.map toW) := by
  have hr := h.row
  obtain ⟨hl, h2⟩ := h.row
  have hvl : vs.length = Ds.length := by omega
  rcases h2 with ⟨rfl, h0⟩ | ⟨g, cap, cur, rfl, hBg, hg, hn, hm, hc, ht⟩
  · refine ⟨none, 0, by rw [List.length_map, h0], by simp [h0], by simp, fun k L hL => ?_⟩
    have := (List.getElem?_eq_some_iff.1 hL).1
    rw [List.length_map] at this
    omega
  · refine ⟨some ⟨g, 0, none⟩, cap, by rw [List.length_map], by rw [List.length_map]; exact hn, hm, fun k L hL => ?_⟩
    rw [List.getElem?_map] at hL
    obtain ⟨D, hD, rfl⟩ := Option.map_eq_some_iff.1 hL
    obtain ⟨u, h1, h2⟩ := h.all k D hD
    exact ⟨_, u, rfl, heap_lt hg, hr.cells (g := g) rfl k _ h1, titems_row h2⟩
theorem small_of_le {L : List Ent} (h : ∀ e ∈ L, e.p.size ≤ 1048576 ∧ e.d.size ≤ 1048576 ∧ e.l.size ≤ 1048576) : Small L := fun e he => by
  obtain ⟨a, b, c⟩ := h e he
  exact ⟨by omega, by omega, by omega⟩
theorem tbytes_step {L : List Ent} {k : Nat} {e : Ent} (h : L[k]? = some e) : bytesE (L.take (k + 1)) = bytesE (L.take k) + e.d.size := by
  rw [List.take_add_one, h, bytesE_append]
  simp [bytesE]
theorem tbytes_take (L : List Ent) (k : Nat) : bytesE (L.take k) ≤ bytesE L := by
  conv => rhs; rw [← List.take_append_drop k L]
  rw [bytesE_append]
  omega
theorem tadd_pos (a : Addr) {m : Nat} (h : m ≠ 0) : a.add m = ⟨a.block, a.off + m, none⟩ := by unfold Addr.add; rw [if_neg h]
theorem Tryz.infoChgs : (Tryz.prog.info? 28).map (fun i => (i.zero, i.size, i.bytes)) = some (some (Value.slice none 0 0), 1, 24) := by kernel_rfl
set_option maxRecDepth 100000 in
set_option maxHeartbeats 8000000 in
theorem wasteTrees_any (v : Value) (LL : List (List Ent)) (w : World) (h : ListsAt entC 5 w v LL) (hs : ∀ L ∈ LL, ∀ e ∈ L, e.p.size ≤ 1048576 ∧ e.d.size ≤ 1048576 ∧ e.l.size ≤ 1048576) (hb : sumT' LL ≤ 1048576) (hg : Handle w) :
    Calls Tryz.prog 3 #[v] w fun r w' => r = .returned (.bool true) ∧ Below w.heap.size w w' := by
  obtain ⟨iC, hiC, hC0, hC1, hC2⟩ := info_parts Tryz.infoChgs
  have HiC := Lib.hid hiC
  have HC0 := Lib.hid hC0
  have HC1 := Lib.hid hC1
  have HC2 := Lib.hid hC2
  clear hiC hC0 hC1 hC2
  obtain ⟨o, cap, rfl, hlc, hcm⟩ := h.len
  obtain ⟨n, hnn⟩ : ∃ n, n = LL.length := ⟨_, rfl⟩
  have hn20 : n ≤ 1048576 := by
    rw [hnn]
    have : ∀ M : List (List Ent), M.length ≤ sumT' M := fun M => by
      induction M with
      | nil => exact Nat.le_refl _
      | cons x r ih => unfold sumT' at ih ⊢; rw [List.map_cons, List.sum_cons, List.length_cons]; omega
    exact Nat.le_trans (this LL) hb
  rw [← hnn] at hlc h ⊢
  have Hd := Lib.hid h
  have Hnn := Lib.hid hnn
  have HS := Lib.hid hs
  have Hb := Lib.hid hb
  have HG := Lib.hid (fun W (hW : Below w.heap.size w W) => hg.below hW (Nat.le_refl _))
  have HW := Lib.hid works_any
  clear h hnn hs hb hg
  go_enter Tryz.func3, Tryz.ntmps3
  go_wp2_with fail
  go_loopw [3, 4, 5, 6, 7] (fun l0 a0 iv _ _ wr => ∃ (i : Nat) (lv av : Value) (At : List Ent) (Ds : List (List Chg)) (vs : List Value), lv = l0 ∧ av = a0 ∧ iv = .int .i64 (i : Int) ∧ i ≤ n ∧ Hid (TrI w wr LL i lv av At Ds vs)) (fun _ _ iv _ _ _ => n - (intOf iv).toNat)
  case atStart => exact ⟨0, _, _, [], [], [], rfl, rfl, rfl, Nat.zero_le _, Lib.hid (TrI.start w LL)⟩
  case round =>
    obtain ⟨i, lv, av, At, Ds, vs, rfl, rfl, rfl, hin, HI⟩ := hrel
    by_cases hlt : i < n
    · obtain ⟨L, hL⟩ : ∃ L, LL[i]? = some L := ⟨_, List.getElem?_eq_getElem (by rw [← Hnn.out]; exact hlt)⟩
      obtain ⟨a, o2, c2, rfl, hab, hac0, hlc2, hcm2, hIt⟩ := Hd.out.get hL
      have hsL := HS.out L (List.mem_of_getElem? hL)
      have sL := small_of_le hsL
      have hac := (HI.out.bel.cell (p := a.add i) (by rw [gadd_block]; exact hab)).trans hac0
      have hE : EntsAt w (.slice o2 L.length c2) L := hIt
      have HE := Lib.hid hE
      have HL := Lib.hid hL
      have HsL := Lib.hid hsL
      have HT := Lib.hid (tcheck_any (.slice o2 L.length c2) L wr (hE.below HI.out.bel (Nat.le_refl _)) sL)
      have HC := Lib.hid (fun W (hW : Below w.heap.size w W) => (hW.cell (p := a.add i) (by rw [gadd_block]; exact hab)).trans hac0)
      have HSL := Lib.hid sL
      clear hL hsL sL hac0 hIt hE hab
      by_cases hc : (checkL L).1 = 0
      · rw [show errT L = .nilIface from if_pos hc] at HT
        have gL := good_of_check hc
        have HDf := Lib.hid (fun W (h1 : Below w.heap.size w W) => diff_any av (.slice o2 L.length c2) At L W (HI.out.ents.below h1 (Nat.le_refl _)) (HE.out.below h1 (Nat.le_refl _)) (small_of_le HI.out.small) HSL.out (by have := gL.len; have := HI.out.good.len; omega) (HG.out W h1))
        have HgA := Lib.hid (show (checkL At).1 = 0 by rw [HI.out.good.check])
        have Hc := Lib.hid hc
        have HgL := Lib.hid gL
        clear hc gL
        go_wp2_with fail
        refine HT.out.mono ?_
        rintro r w1 ⟨rfl, hb1⟩
        have HI1 := Lib.hid (HI.out.call hb1)
        have hac1 := HC.out w1 HI1.out.bel
        clear hac hb1 HI
        go_wp2_with fail
        refine (HDf.out w1 HI1.out.bel).mono ?_
        rintro r w2 ⟨hb2, v6, e6, rfl, hr⟩
        obtain ⟨rfl, hrow, _⟩ := hr.c HgA.out Hc.out
        have hrow2 := ownsRow_base hrow HI1.out.bel.size
        obtain ⟨o6, c6, rfl, _, _, _⟩ := items_of_row chgC_len hrow
        have HI2 := Lib.hid (HI1.out.call hb2)
        have hac2 := (hb2.cell (World.block_lt_of_cell? _ _ hac1)).trans hac1
        have HR2 := Lib.hid hrow2
        have h2 : w.heap.size ≤ w2.heap.size := HI2.out.bel.size
        have hDl : Ds.length ≤ 1048576 := by have := HI2.out.bound; have := sumT_le LL i; have := Hb.out; omega
        obtain ⟨k6, hk6⟩ : ∃ k, k = (chgL At L).length := ⟨_, rfl⟩
        rw [← hk6] at HR2 ⊢
        have Hk6 := Lib.hid hk6
        clear hb2 hac1 HI1 hrow hrow2 hr HT HDf hk6
        go_wp2_with (at_builtin; refine wpList_append_own _ rfl _ _ 23 rfl w.heap.size 28 iC (.slice none 0 0) 1 24 Tryz.underlying23 HiC.out HC0.out HC1.out HC2.out rfl (by decide) _ _ _ rfl (HI2.out.row.alloc _) ⟨w2.heap.size, 0, none⟩ 1 1 [.slice o6 k6 c6] rfl rfl (cell_one_new _ _ _) (by simp [Value.oneCell']) (by unfold maxLen; omega) (by omega) (by simp; omega) ?_; intro l4 w4 hown hgrow _; have HI4 := Lib.hid (HI2.out.step HL.out HE.out HgL.out HsL.out (by rw [← Hk6.out]; exact HR2.out) hown hgrow); have hac4 := HC.out w4 HI4.out.bel; clear hown hgrow hac2 HI2 HR2)
        go_roundw
        case rel => exact ⟨i + 1, _, _, L, _, _, rfl, rfl, by go_num, by omega, HI4⟩
        case measure => simp [intOf]; omega
      · rw [show errT L = fltV ((checkL L).1 : Int) 0 ((checkL L).2 : Int) from if_neg hc] at HT
        unfold fltV at HT
        clear hc
        go_wp2_with fail
        refine HT.out.mono ?_
        rintro r w1 ⟨rfl, hb1⟩
        have HI1 := Lib.hid ((HI.out.call hb1).skip HL.out)
        clear hac hb1 HI
        go_wp2_with fail
        go_roundw
        case rel => exact ⟨i + 1, _, _, At, _, _, rfl, rfl, by go_num, by omega, HI1⟩
        case measure => simp [intOf]; omega
    · obtain rfl : i = n := by omega
      obtain ⟨oA, cA, rfl, hlA, hmA, hcA⟩ := HI.out.ents
      have hbl : (Ds.map fun D => D.map toW).length ≤ 1048576 ∧ (flatC (Ds.map fun D => D.map toW)).length ≤ 1048576 ∧ totalR (flatC (Ds.map fun D => D.map toW)) ≤ 1048576 := by
        rw [flatD_flatC, List.length_map]
        have := HI.out.bound
        have := sumT_le LL i
        have := Hb.out
        exact ⟨by omega, by omega, by omega⟩
      have hLk := look_any lv (Ds.map fun D => D.map toW) wr HI.out.deltas hbl.1 hbl.2.1 hbl.2.2 (fun M hM c hc => by
        obtain ⟨D, hD, rfl⟩ := List.mem_map.1 hM
        obtain ⟨d, hd, rfl⟩ := List.mem_map.1 hc
        exact HI.out.paths D hD d hd)
      rw [flatD_flatC, trees_least HI.out.good.inc HI.out.now] at hLk
      have HLk := Lib.hid hLk
      have hby := HI.out.bytes
      have hle4 := HI.out.good.len
      have HB := Lib.hid HI.out.bel
      obtain ⟨k, hk⟩ : ∃ k, k = At.length := ⟨_, rfl⟩
      obtain ⟨M, hM⟩ : ∃ M, M = bytesE At := ⟨_, rfl⟩
      rw [← hM] at hby HLk
      rw [← hk] at hle4 hlA ⊢
      have Hk := Lib.hid hk
      have HM := Lib.hid hM
      have HcA := Lib.hid (fun (j : Nat) e (he : At[j]? = some e) => (show ∃ a, oA = some a ∧ wr.cell? ⟨(a.add (j * 5)).block, (a.add (j * 5)).off + 3, none⟩ = some (.string e.d) by
        obtain ⟨a, h1, h2, h3⟩ := hcA j e he
        refine ⟨a, h1, ?_⟩
        rw [← tadd_pos (a.add (j * 5)) (show 3 ≠ 0 by decide)]
        have h4 := h3 3 _ rfl
        exact (HB.out.cell (by rw [gadd_block, gadd_block]; exact h2)).trans h4))
      clear hLk hbl hcA hk hM HI HS Hd Hb
      go_wp2_with fail
      go_loopw [8, 9] (fun sv iv W => ∃ (j m : Nat), iv = .int .i64 (j : Int) ∧ sv = .int .i64 (m : Int) ∧ j ≤ k ∧ Hid (m = bytesE (At.take j)) ∧ W = wr) (fun _ iv _ => k - (intOf iv).toNat)
      case atStart => exact ⟨0, 0, rfl, rfl, Nat.zero_le _, Lib.hid rfl, rfl⟩
      case round =>
        obtain ⟨j, m, rfl, rfl, hj, Hm, rfl⟩ := hrel
        by_cases hlj : j < k
        · obtain ⟨e, hej⟩ : ∃ e, At[j]? = some e := ⟨_, List.getElem?_eq_getElem (by rw [← Hk.out]; exact hlj)⟩
          obtain ⟨a, rfl, c3⟩ := HcA.out j e hej
          have hst := tbytes_step hej
          have hle := tbytes_take At (j + 1)
          rw [← HM.out] at hle
          have hmd : m + e.d.size ≤ 16777216 := by rw [Hm.out]; omega
          have Hst := Lib.hid (show m + e.d.size = bytesE (At.take (j + 1)) by rw [hst, Hm.out])
          clear hst hle hej Hm
          go_wp2_with fail
          go_roundw
          case rel => exact ⟨j + 1, m + e.d.size, by go_num, by go_num, by omega, Hst, (by first | rfl | trivial)⟩
          case measure => simp [intOf]; omega
        · obtain rfl : j = k := by omega
          have hm2 : m = M := by rw [Hm.out, Hk.out, List.take_length, HM.out]
          subst hm2
          go_wp2_with fail
          refine HLk.out.mono ?_
          rintro r w5 ⟨vw, sc, me, sp, rfl, hv, hrow, hb5⟩
          have HB5 := Lib.hid (HB.out.trans (hb5.mono HB.out.size))
          unfold wasC
          have hfd : ∀ W, (Instr.field 37 (.agg #[.int .i64 (totalR (flatD Ds) : Int), .int .i64 (m : Int), .float .f64 sc, .float .f64 me, .float .f64 sp, vw]) 1).run Tryz.prog W = .ok (.int .i64 (m : Int)) W := fun _ => by kernel_rfl
          clear hv hrow hb5 HLk
          go_wp2_with fail
          refine (HW.out w5).mono ?_
          rintro r w6 ⟨rfl, hb6⟩
          have HB6 := Lib.hid (HB5.out.trans (hb6.mono HB5.out.size))
          clear hb6
          go_wp2_with fail
          go_ret
          exact ⟨rfl, HB6.out⟩
end
end Go.Proofs.YtfanfkogogijpaaGreatDoor
