/- Plain facts behind WasteSums; rows that grow beside one another. -/
import Derived.Test.YtebniijkhjnbdaaLFin
import Derived.Test.YtebniijkhjnbdaaLSpread
import Derived.Test.YtebniijkhjnbdaaLMake
set_option linter.unusedSimpArgs false
set_option linter.unusedVariables false
set_option exponentiation.threshold 3000
namespace Go.Proofs.Ytebniijkhjnbdaa
open Go.RowKit Go.Maps
theorem worst_sum (l : List Cw) : ((worstR l).map (·.b)).sum + leastR l = totalR l := by
  rw [← costs_sum l]
  have hw := worstR_law l
  have n1 : (worstR l).Nodup := hw.1.imp fun {a b} h e => by subst e; exact ahead_irrefl _ h
  have n2 : (((costsM l).filter fun x => decide (x.2.now < x.2.all)).map (fun x => (⟨x.1, x.2.t, x.2.all - x.2.now⟩ : LostN))).Nodup := by
    have h1 : (((costsM l).filter fun x => decide (x.2.now < x.2.all)).map (·.1)).Nodup := List.Sublist.nodup (List.Sublist.map (fun x : List UInt8 × Cost => x.1) List.filter_sublist) (costs_keys l).1
    have e : ((costsM l).filter fun x => decide (x.2.now < x.2.all)).map (·.1) = (((costsM l).filter fun x => decide (x.2.now < x.2.all)).map (fun x => (⟨x.1, x.2.t, x.2.all - x.2.now⟩ : LostN))).map (·.p) := by
      rw [List.map_map]; rfl
    rw [e] at h1
    exact (List.pairwise_map.1 h1).imp fun h e => h (congrArg LostN.p e)
  have hp := (List.perm_ext_iff_of_nodup n1 n2).2 fun y => (costs_worst l y).symm
  rw [(hp.map (·.b)).sum_nat, List.map_map]
  rfl
theorem worst_pos {l : List Cw} {x : LostN} (h : x ∈ worstR l) : 1 ≤ x.b ∧ 1 ≤ x.t := by
  obtain ⟨c, hc, h0, rfl⟩ := ((worstR_law l).2 x).1 h
  refine ⟨Nat.pos_of_ne_zero h0, Nat.pos_of_ne_zero fun ht => h0 ?_⟩
  have h1 := lost_is c.p l
  have h2 : allF l c.p = 0 := by
    have h3 : (l.filter fun x => !x.g && x.p == c.p) = [] := List.eq_nil_of_length_eq_zero ht
    unfold allF
    rw [h3]
    rfl
  omega
theorem worst_path {l : List Cw} {B : Nat} (hb : ∀ c ∈ l, c.p.length ≤ B) {x : LostN} (h : x ∈ worstR l) : x.p.length ≤ B := by
  obtain ⟨c, hc, h0, rfl⟩ := ((worstR_law l).2 x).1 h
  exact hb c hc
theorem worst_two {l : List Cw} {i : Nat} {x y : LostN} (hx : (worstR l)[i]? = some x) (hy : (worstR l)[i + 1]? = some y) : y.b ≤ x.b ∧ (x.b = y.b → compareP x.p y.p < 0) := by
  have h := (worstR_law l).1
  obtain ⟨h1, e1⟩ := List.getElem?_eq_some_iff.1 hx
  obtain ⟨h2, e2⟩ := List.getElem?_eq_some_iff.1 hy
  have := List.pairwise_iff_getElem.1 h i (i + 1) h1 h2 (by omega)
  rw [e1, e2, ahead_iff] at this
  rcases this with h | h
  · exact ⟨by omega, fun e => absurd e (by omega)⟩
  · exact ⟨by omega, fun _ => h.2⟩
theorem worst_len (l : List Cw) : (worstR l).length ≤ totalR l := by
  rw [← worst_sum l]
  have : ∀ L : List LostN, (∀ x ∈ L, 1 ≤ x.b) → L.length ≤ (L.map (·.b)).sum := fun L => by
    induction L with
    | nil => intro _; exact Nat.le_refl _
    | cons a L ih =>
      intro h
      have h1 := h a (List.mem_cons_self ..)
      have h2 := ih fun x hx => h x (List.mem_cons_of_mem _ hx)
      rw [List.length_cons, List.map_cons, List.sum_cons]
      omega
  have := this (worstR l) fun x hx => (worst_pos hx).1
  omega
/-- the score lies between 0 and 1 -/
theorem score_law {T le : Nat} {szs : List Nat} {sc me sp : Nat} (h : LookV T le szs sc me sp) (hl : le ≤ T) (hT : T ≤ 1048576) : sc ≤ flOne := by
  by_cases h0 : T = 0
  · rw [h.sc0 h0]; exact Nat.le_refl _
  · obtain ⟨r, h1, h2, _, h3, _⟩ := Fl.div_fl (T := le) (n := T) (by omega) (by omega) h0
    have h4 := h.sc1 h0
    rw [h1] at h4
    injection h4 with h4
    subst h4
    have := h3 1 (by omega) (by decide)
    exact Nat.le_trans this (by decide +kernel)
theorem score_order {sc : Nat} (h : sc ≤ flOne) : (Fl.F.order sc 0 == some .gt || Fl.F.order sc 0 == some .eq) = true ∧ (Fl.F.order sc 4607182418800017408 == some .lt || Fl.F.order sc 4607182418800017408 == some .eq) = true ∧ Fl.F.order sc sc = some .eq := by
  have h1 : sc < Fl.INF := Nat.lt_of_le_of_lt h (by decide)
  refine ⟨order_ge h1 (by decide) (Nat.zero_le _), order_le h1 (by decide) h, ?_⟩
  rw [Fl.order_cmp h1 h1, Nat.compare_eq_eq.2 rfl]
/-- two rows of one's own whose elements are unlike lie apart -/
theorem rows_apart {X : World} {B1 B2 s1 s2 n1 n2 : Nat} {T1 T2 : TypeId} {v1 v2 : Value} {x1 x2 : List Value} (h1 : X.ownsRow B1 T1 s1 v1 n1 x1) (h2 : X.ownsRow B2 T2 s2 v2 n2 x2) (hT : T1 ≠ T2) : v1.ownBlock = none ∨ v1.ownBlock ≠ v2.ownBlock := by
  obtain ⟨_, h1⟩ := h1
  obtain ⟨_, h2⟩ := h2
  rcases h1 with ⟨rfl, _⟩ | ⟨g, cap, cur, rfl, _, hg, _⟩
  · exact .inl rfl
  · rcases h2 with ⟨rfl, _⟩ | ⟨g2, cap2, cur2, rfl, _, hg2, _⟩
    · exact .inr (by simp [Value.ownBlock])
    · refine .inr fun e => ?_
      simp only [Value.ownBlock, Option.some.injEq] at e
      rw [e, hg2] at hg
      injection hg with hg
      injection hg with _ hg
      exact hT hg.symm
theorem row_block_ne {X : World} {B s n b : Nat} {T1 T2 : TypeId} {v : Value} {xs : List Value} {cs : Array Value} (h : X.ownsRow B T1 s v n xs) (hb : X.heap[b]? = some (.cells cs T2 (0, 0))) (hT : T1 ≠ T2) : some b ≠ v.ownBlock := by
  obtain ⟨_, h⟩ := h
  rcases h with ⟨rfl, _⟩ | ⟨g, cap, cur, rfl, _, hg, _⟩
  · simp [Value.ownBlock]
  · intro e
    simp only [Value.ownBlock, Option.some.injEq] at e
    rw [← e, hb] at hg
    injection hg with hg
    injection hg with _ hg
    exact hT hg.symm
/-- an entry of 'each' -/
def EachAt (W : World) (B : Nat) (one : Value) (v : Value) (L : List Chg) : Prop := (v = .slice none 0 0 ∧ L = []) ∨ ∃ b c, v = .slice (some ⟨b, 0, none⟩) 1 1 ∧ L = [c] ∧ W.heap[b]? = some (.cells (chgC c).toArray 43 (0, 0)) ∧ B ≤ b ∧ some b ≠ one.ownBlock
/-- while the changes are laid in one list, and each in one of its own -/
structure EachJ (w W : World) (B : Nat) (one each : Value) (D : List Chg) (vs : List Value) : Prop where
  bel : Below B w W
  rone : W.ownsRow B 43 7 one D.length (D.flatMap chgC)
  reach : W.ownsRow B 38 1 each (D.length * 2) vs
  all : ∀ (i : Nat) v L, vs[i]? = some v → (D.flatMap fun c => [[c], []])[i]? = some L → EachAt W B one v L
theorem EachJ.start (w : World) : EachJ w w w.heap.size (.slice none 0 0) (.slice none 0 0) [] [] :=
  ⟨Below.refl _ _, World.ownsRow_nil _ _ _ _, World.ownsRow_nil _ _ _ _, fun i v L h => by cases h⟩
theorem EachJ.drew {w W : World} {B : Nat} {one each : Value} {D : List Chg} {vs : List Value} (h : EachJ w W B one each D vs) : EachJ w W.drew B one each D vs :=
  ⟨⟨h.bel.os, h.bel.tape, h.bel.output, h.bel.size, h.bel.block⟩, h.rone, h.reach, h.all⟩
theorem EachJ.step {w W W1 W2 : World} {B : Nat} {one each one' each' : Value} {D : List Chg} {vs : List Value} {c : Chg} (h : EachJ w W B one each D vs) (hB : B ≤ W.heap.size)
    (h1 : W1.ownsRow B 43 7 one' (D.length + 1) (D.flatMap chgC ++ chgC c)) (g1 : (W.alloc (.cells (chgC c).toArray 43)).grownBy W1 one.ownBlock) (l1 : one'.ownBlock = one.ownBlock ∨ one'.ownBlock = some (W.alloc (.cells (chgC c).toArray 43)).heap.size)
    (h2 : W2.ownsRow B 38 1 each' (D.length * 2 + 2) (vs ++ [.slice (some ⟨W1.heap.size, 0, none⟩) 1 1, .slice none 0 0]))
    (g2 : ((W1.alloc (.cells (chgC c).toArray 43)).alloc (.cells #[.slice (some ⟨W1.heap.size, 0, none⟩) 1 1, .slice none 0 0] 38)).grownBy W2 each.ownBlock) :
    EachJ w W2 B one' each' (D ++ [c]) (vs ++ [.slice (some ⟨W1.heap.size, 0, none⟩) 1 1, .slice none 0 0]) := by
  have hT : 43 ≠ 38 := by decide
  have s1 : W.heap.size + 1 ≤ W1.heap.size := by have := g1.size; simpa using this
  have s2 : W1.heap.size + 2 ≤ W2.heap.size := by have := g2.size; simpa using this
  obtain ⟨X, hX⟩ : ∃ X, X = (W1.alloc (.cells (chgC c).toArray 43)).alloc (.cells #[.slice (some ⟨W1.heap.size, 0, none⟩) 1 1, .slice none 0 0] 38) := ⟨_, rfl⟩
  have r1 : X.ownsRow B 43 7 one' (D.length + 1) (D.flatMap chgC ++ chgC c) := by rw [hX]; exact (h1.alloc _).alloc _
  have e1 : W1.ownsRow B 38 1 each (D.length * 2) vs := by
    refine (h.reach.alloc _).kept g1 ?_
    exact rows_apart h.reach h.rone (Ne.symm hT)
  have e2 : X.ownsRow B 38 1 each (D.length * 2) vs := by rw [hX]; exact (e1.alloc _).alloc _
  rw [← hX] at g2
  have xk : ∀ k, k < W1.heap.size → X.heap[k]? = W1.heap[k]? := fun k hk => by
    rw [hX, gheap_old _ _ (by simp; omega), gheap_old _ _ hk]
  have hnew : X.heap[W1.heap.size]? = some (.cells (chgC c).toArray 43 (0, 0)) := by
    rw [hX, gheap_old _ _ (by simp)]
    exact World.alloc_heap_new _ _
  have k1 : ∀ k, k < W.heap.size → some k ≠ one.ownBlock → W1.heap[k]? = W.heap[k]? := fun k hk hne => (g1.block k (by simp; omega) hne).trans (gheap_old _ _ hk)
  have k2 : ∀ k, k < X.heap.size → some k ≠ each.ownBlock → W2.heap[k]? = X.heap[k]? := fun k hk hne => g2.block k hk hne
  have sX : X.heap.size = W1.heap.size + 2 := by rw [hX]; simp
  have own : ∀ k, k < B → some k ≠ one.ownBlock ∧ some k ≠ each.ownBlock := fun k hk =>
    ⟨fun e => absurd (World.ownsRow.lt h.rone k e.symm).1 (by omega), fun e => absurd (World.ownsRow.lt h.reach k e.symm).1 (by omega)⟩
  refine ⟨⟨?_, ?_, ?_, ?_, fun k hk => ?_⟩, ?_, ?_, ?_⟩
  · exact g2.os.trans ((by rw [hX]; rfl : X.os = W1.os).trans (g1.os.trans h.bel.os))
  · exact g2.tape.trans ((by rw [hX]; rfl : X.tape = W1.tape).trans (g1.tape.trans h.bel.tape))
  · exact g2.output.trans ((by rw [hX]; rfl : X.output = W1.output).trans (g1.output.trans h.bel.output))
  · have := h.bel.size; omega
  · rw [k2 k (by omega) (own k hk).2, xk k (by omega), k1 k (by omega) (own k hk).1]
    exact h.bel.block k hk
  · rw [List.length_append, List.length_singleton, List.flatMap_append, List.flatMap_singleton]
    exact r1.kept g2 (rows_apart r1 e2 hT)
  · rw [List.length_append, List.length_singleton, show (D.length + 1) * 2 = D.length * 2 + 2 by omega]
    exact h2
  · intro i v L hv hL
    have hvl : vs.length = D.length * 2 := by have := h.reach.1; omega
    have hDl : (D.flatMap fun c => [[c], []]).length = D.length * 2 := by
      rw [List.length_flatMap]
      simp [List.map_const']
    rw [List.flatMap_append, List.flatMap_singleton] at hL
    by_cases hi : i < D.length * 2
    · rw [List.getElem?_append_left (by omega)] at hv hL
      rcases h.all i v L hv hL with ⟨rfl, rfl⟩ | ⟨b, x, rfl, rfl, hb, hBb, hne⟩
      · exact .inl ⟨rfl, rfl⟩
      · have hbl := heap_lt hb
        have x1 : X.heap[b]? = some (.cells (chgC x).toArray 43 (0, 0)) := by rw [xk b (by omega), k1 b hbl hne]; exact hb
        refine .inr ⟨b, x, rfl, rfl, ?_, hBb, ?_⟩
        · rw [k2 b (by omega) (row_block_ne e2 x1 (Ne.symm hT))]
          exact x1
        · rcases l1 with l1 | l1
          · rw [l1]; exact hne
          · rw [l1]
            intro e
            injection e with e
            simp at e
            omega
    · rw [List.getElem?_append_right (by omega)] at hv hL
      rw [hvl] at hv
      rw [hDl] at hL
      obtain ⟨j, hj⟩ : ∃ j, j = i - D.length * 2 := ⟨_, rfl⟩
      rw [← hj] at hv hL
      match j with
      | 0 =>
        injection hv with hv
        injection hL with hL
        subst hv hL
        refine .inr ⟨_, c, rfl, rfl, ?_, by omega, fun e => ?_⟩
        · rw [k2 _ (by omega) (row_block_ne e2 hnew (Ne.symm hT))]
          exact hnew
        · exact absurd (World.ownsRow.lt h1 _ e.symm).2 (by omega)
      | 1 =>
        injection hv with hv
        injection hL with hL
        subst hv hL
        exact .inl ⟨rfl, rfl⟩
      | j + 2 => cases hv
theorem EachAt.items {W : World} {B : Nat} {one v : Value} {L : List Chg} (h : EachAt W B one v L) : ItemsAt chgC 7 W v L := by
  rcases h with ⟨rfl, rfl⟩ | ⟨b, c, rfl, rfl, hb, _⟩
  · exact ItemsAt.nil _
  · exact items_of_block (L := [c]) (T := 43) chgC_len (by rw [hb]; simp) (by unfold maxLen; simp)
/-- each change in a list of its own -/
theorem EachJ.lists {w W : World} {B : Nat} {one each : Value} {D : List Chg} {vs : List Value} (h : EachJ w W B one each D vs) : DeltasAt W each (D.flatMap fun c => [[c], []]) := by
  have hDl : (D.flatMap fun c => [[c], []]).length = D.length * 2 := by
    rw [List.length_flatMap]
    simp [List.map_const']
  obtain ⟨hl, h2⟩ := h.reach
  rcases h2 with ⟨rfl, h0⟩ | ⟨g, cap, cur, rfl, hBg, hg, hn, hm, hc, ht⟩
  · refine ⟨none, 0, by rw [hDl, h0], by omega, by simp, fun i L hL => ?_⟩
    have := (List.getElem?_eq_some_iff.1 hL).1
    omega
  · refine ⟨some ⟨g, 0, none⟩, cap, by rw [hDl], by omega, hm, fun i L hL => ?_⟩
    have hi := (List.getElem?_eq_some_iff.1 hL).1
    have hvi : vs[i]? = some vs[i] := List.getElem?_eq_getElem (by omega)
    refine ⟨_, vs[i], rfl, heap_lt hg, ?_, (h.all i _ L hvi hL).items⟩
    exact h.reach.cells (g := g) rfl i _ hvi
theorem EachJ.one {w W : World} {B b : Nat} {one each : Value} {D : List Chg} {vs : List Value} (h : EachJ w W B one each D vs) (hb : (W.alloc (.cells #[one] 38)).heap[b]? = some (.cells #[one] 38 (0, 0))) : DeltasAt (W.alloc (.cells #[one] 38)) (.slice (some ⟨b, 0, none⟩) 1 1) [D] := by
  refine lists_of_block (T := 38) (vs := [one]) (LL := [D]) hb rfl (by unfold maxLen; simp) fun i v L hv hL => ?_
  match i with
  | 0 => injection hv with hv; injection hL with hL; subst hv hL; exact items_of_row chgC_len (h.rone.alloc _)
  | i + 1 => cases hv
theorem each_flat : ∀ D : List Chg, (D.flatMap fun c => [[c], []]).flatten = D
  | [] => rfl
  | c :: D => by
    rw [List.flatMap_cons, List.flatten_append, each_flat D]
    rfl
end Go.Proofs.Ytebniijkhjnbdaa
