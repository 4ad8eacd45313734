/- The reference's Look: plain; what stands where. -/
import Derived.Test.YtebniijkhjnbdaaLRefC
import Derived.Test.YtebniijkhjnbdaaLFin
set_option linter.unusedSimpArgs false
set_option linter.unusedVariables false
set_option exponentiation.threshold 3000
namespace Go.Proofs.Ytebniijkhjnbdaa
open Go.RowKit Go.Maps
open Go.Lib hiding intOf size_eq
/-! ## plain -/
theorem ins_at {x : LostN} : ∀ {R : List LostN} {k : Nat}, (∀ j y, j < k → R[j]? = some y → aheadB y x = true) → (∀ y, R[k]? = some y → aheadB y x = false) → k ≤ R.length → insW R x = R.take k ++ [x] ++ R.drop k
  | [], k, _, _, h => by obtain rfl : k = 0 := by simpa using h
                         rfl
  | y :: R, 0, _, h, _ => by
    unfold insW
    rw [if_neg (by rw [h y rfl]; decide)]
    rfl
  | y :: R, k + 1, h1, h2, h3 => by
    unfold insW
    rw [if_pos (h1 0 y (by omega) rfl), ins_at (R := R) (k := k) (fun j z hj hz => h1 (j + 1) z (by omega) hz) (fun z hz => h2 z hz) (by simpa using h3)]
    rfl
theorem ins_by (R : List LostN) (x : LostN) (k : Nat) : (R.take k ++ [x] ++ R.drop k).map LostN.by = (R.map LostN.by).take k ++ [x.by] ++ (R.map LostN.by).drop k := by
  rw [List.map_append, List.map_append, List.map_take, List.map_drop]
  rfl
theorem by_n (x : LostN) : x.by.n = x := by
  cases x
  rfl
theorem ins_len (R : List LostN) (x : LostN) : (insW R x).length = R.length + 1 := by
  induction R with
  | nil => rfl
  | cons y R ih => unfold insW; split <;> simp [ih]
theorem leastR_leR : ∀ l : List Cw, leastR l ≤ totalR l
  | [] => Nat.zero_le _
  | c :: r => by
    have := leastR_leR r
    have e : totalR (c :: r) = bringsF c + totalR r := by unfold totalR; rw [List.map_cons, List.sum_cons]
    rw [leastR_cons, e]
    split <;> omega
/-- where the loop over the changes stands -/
structure LookJ (D : List Chg) (i tot le : Nat) (R : List LostN) : Prop where
  go : worstGo (D.map cwOf) ((D.take i).map fun x => x.p.data.toList).reverse ((D.drop i).map cwOf) R = worstR (D.map cwOf)
  tot : tot = totalR ((D.take i).map cwOf)
  lst : le + leastR ((D.drop i).map cwOf) = leastR (D.map cwOf)
  len : R.length ≤ i
  mem : ∀ y ∈ R, ∃ c ∈ D, y = lostN (D.map cwOf) c.p.data.toList
theorem LookJ.start (D : List Chg) : LookJ D 0 0 0 [] := ⟨rfl, rfl, by simp, Nat.le_refl _, fun y h => by cases h⟩
theorem seen_iff {D : List Chg} {i : Nat} {c : Chg} : c.p.data.toList ∈ ((D.take i).map fun x => x.p.data.toList).reverse ↔ firstB D i c = false := by
  rw [List.mem_reverse, List.mem_map]
  constructor
  · rintro ⟨x, hx, he⟩
    unfold firstB
    apply Bool.eq_false_iff.2
    intro h
    have h1 := List.all_eq_true.1 h x hx
    have h2 : x.p.data = c.p.data := Array.toList_inj.1 he
    have h3 : x.p = c.p := by
      cases hx : x.p; cases hc : c.p; rw [hx, hc] at h2; cases h2; rfl
    simp [h3] at h1
  · intro h
    unfold firstB at h
    obtain ⟨x, hx, he⟩ : ∃ x ∈ D.take i, ¬ decide (x.p ≠ c.p) = true := by
      apply Classical.byContradiction
      intro hn
      have : ((D.take i).all fun x => decide (x.p ≠ c.p)) = true := List.all_eq_true.2 fun x hx => by
        apply Classical.byContradiction
        intro hh
        exact hn ⟨x, hx, hh⟩
      rw [this] at h
      cases h
    refine ⟨x, hx, ?_⟩
    have h1 : x.p = c.p := by simpa using he
    rw [h1]
theorem LookJ.both {D : List Chg} {i tot le : Nat} {R : List LostN} {c : Chg} (h : LookJ D i tot le R) (hc : D[i]? = some c) :
    tot + bringsF (cwOf c) = totalR ((D.take (i + 1)).map cwOf) ∧ (le + if staysF (cwOf c) ((D.drop (i + 1)).map cwOf) = true then bringsF (cwOf c) else 0) + leastR ((D.drop (i + 1)).map cwOf) = leastR (D.map cwOf) := by
  refine ⟨?_, ?_⟩
  · have e : totalR [cwOf c] = bringsF (cwOf c) := by unfold totalR; simp
    rw [h.tot, ← gtake hc, List.map_append, List.map_singleton, totalR_append, e]
  · rw [← h.lst, drop_cons hc, leastR_cons]
    omega
theorem seen_step {D : List Chg} {i : Nat} {c : Chg} (hc : D[i]? = some c) : ((D.take (i + 1)).map fun x => x.p.data.toList).reverse = c.p.data.toList :: ((D.take i).map fun x => x.p.data.toList).reverse := by
  rw [← gtake hc, List.map_append, List.reverse_append]
  rfl
theorem worstGo_cons (l : List Cw) (seen : List (List UInt8)) (c : Cw) (r : List Cw) (w : List LostN) : worstGo l seen (c :: r) w = if c.p ∈ seen ∨ lostR c.p l = 0 then worstGo l (c.p :: seen) r w else worstGo l (c.p :: seen) r (insW w (lostN l c.p)) := rfl
theorem LookJ.skip {D : List Chg} {i tot le : Nat} {R : List LostN} {c : Chg} (h : LookJ D i tot le R) (hc : D[i]? = some c) (hs : firstB D i c = false ∨ lostB D i c = 0) :
    LookJ D (i + 1) (tot + bringsF (cwOf c)) (le + if staysF (cwOf c) ((D.drop (i + 1)).map cwOf) = true then bringsF (cwOf c) else 0) R := by
  obtain ⟨h1, h2⟩ := h.both hc
  refine ⟨?_, h1, h2, Nat.le_succ_of_le h.len, h.mem⟩
  rw [seen_step hc, ← h.go, drop_cons hc, worstGo_cons, if_pos]
  · rfl
  · by_cases hf : firstB D i c = false
    · exact .inl (seen_iff.2 hf)
    · refine .inr ?_
      rcases hs with hs | hs
      · exact absurd hs hf
      · unfold lostB at hs
        rw [if_pos (by simpa using hf)] at hs
        exact hs
theorem LookJ.ins {D : List Chg} {i tot le : Nat} {R : List LostN} {c : Chg} (h : LookJ D i tot le R) (hc : D[i]? = some c) (hf : firstB D i c = true) (h0 : lostB D i c ≠ 0) :
    LookJ D (i + 1) (tot + bringsF (cwOf c)) (le + if staysF (cwOf c) ((D.drop (i + 1)).map cwOf) = true then bringsF (cwOf c) else 0) (insW R ⟨c.p.data.toList, lostT D i c, lostB D i c⟩) := by
  obtain ⟨h1, h2⟩ := h.both hc
  have e : (⟨c.p.data.toList, lostT D i c, lostB D i c⟩ : LostN) = lostN (D.map cwOf) c.p.data.toList := by
    unfold lostT lostB lostN
    rw [if_pos hf, if_pos hf]
  rw [e]
  refine ⟨?_, h1, h2, by rw [ins_len]; have := h.len; omega, fun y hy => ?_⟩
  · rw [seen_step hc, ← h.go, drop_cons hc]
    rw [worstGo_cons, if_neg]
    · rfl
    · rw [not_or]
      refine ⟨fun hm => (by rw [seen_iff.1 hm] at hf; cases hf), ?_⟩
      unfold lostB at h0
      rw [if_pos hf] at h0
      exact h0
  · rcases mem_insW.1 hy with e | hy
    · exact ⟨c, List.mem_of_getElem? hc, e⟩
    · exact h.mem y hy
theorem LookJ.done {D : List Chg} {tot le : Nat} {R : List LostN} (h : LookJ D D.length tot le R) : R = worstR (D.map cwOf) ∧ tot = totalR (D.map cwOf) ∧ le = leastR (D.map cwOf) := by
  have h1 := h.go
  have h2 := h.tot
  have h3 := h.lst
  rw [List.drop_length, List.map_nil] at h1 h3
  rw [List.take_length] at h2
  exact ⟨h1, h2, h3⟩
/-! ## what stands where -/
theorem row_setOther {W : World} {base n size : Nat} {e T : TypeId} {v u : Value} {xs : List Value} {cs : Array Value} {b j : Nat} (h : W.ownsRow base e size v n xs) (hb : W.heap[b]? = some (.cells cs T (0, 0))) (hT : e ≠ T) : (W.setCell ⟨b, j, none⟩ u).ownsRow base e size v n xs := by
  obtain ⟨h1, h2⟩ := h
  refine ⟨h1, ?_⟩
  rcases h2 with h2 | ⟨g, cap, cur, a, hbg, hg, d⟩
  · exact .inl h2
  · refine .inr ⟨g, cap, cur, a, hbg, (Below.heap_setCell _ _ _ _ (show g ≠ b from fun e2 => ?_)).trans hg, d⟩
    rw [e2, hb] at hg
    injection hg with hg
    injection hg with _ hg
    exact hT hg.symm
theorem row_setRowOther {W : World} {base n size : Nat} {e T : TypeId} {v : Value} {xs : List Value} {cs cur2 : Array Value} {b : Nat} (h : W.ownsRow base e size v n xs) (hb : W.heap[b]? = some (.cells cur2 T (0, 0))) (hT : e ≠ T) : (W.setRow b cs).ownsRow base e size v n xs := by
  obtain ⟨h1, h2⟩ := h
  refine ⟨h1, ?_⟩
  rcases h2 with h2 | ⟨g, cap, cur, a, hbg, hg, d⟩
  · exact .inl h2
  · refine .inr ⟨g, cap, cur, a, hbg, (setRow_other _ _ g _ (fun e2 => ?_)).trans hg, d⟩
    rw [e2, hb] at hg
    injection hg with hg
    injection hg with _ hg
    exact hT hg.symm
structure RJ (w W : World) (b2 b4 : Nat) (vD : Value) (D : List Chg) (tot le : Int) (sc me sp : Nat) (vw : Value) (R : List LostB) : Prop where
  bel : Below w.heap.size w W
  l2 : w.heap.size ≤ b2
  l4 : w.heap.size ≤ b4
  ne : b2 ≠ b4
  res : W.heap[b2]? = some (wasObj 0 0 0 0 0 (.slice none 0 0))
  var : W.heap[b4]? = some (wasObj tot le sc me sp vw)
  drow : W.ownsRow w.heap.size 43 7 vD D.length (D.flatMap chgC)
  wrow : W.ownsRow w.heap.size 36 3 vw R.length (R.flatMap lostC)
theorem RJ.below {w W W' : World} {b2 b4 : Nat} {vD : Value} {D : List Chg} {tot le : Int} {sc me sp : Nat} {vw : Value} {R : List LostB} (h : RJ w W b2 b4 vD D tot le sc me sp vw R) (hb : Below W.heap.size W W') : RJ w W' b2 b4 vD D tot le sc me sp vw R :=
  ⟨h.bel.trans (hb.mono h.bel.size), h.l2, h.l4, h.ne, (hb.block _ (heap_lt h.res)).trans h.res, (hb.block _ (heap_lt h.var)).trans h.var, row_belowC h.drow hb, row_belowC h.wrow hb⟩
theorem RJ.put {w W : World} {b2 b4 j : Nat} {vD v : Value} {D : List Chg} {tot le tot' le' : Int} {sc me sp sc' me' sp' : Nat} {vw : Value} {R : List LostB} (h : RJ w W b2 b4 vD D tot le sc me sp vw R) (hc : (wasC tot le sc me sp vw).setIfInBounds j v = wasC tot' le' sc' me' sp' vw) : RJ w (W.setCell ⟨b4, j, none⟩ v) b2 b4 vD D tot' le' sc' me' sp' vw R := by
  have hv : W.heap[b4]? = some (.cells (wasC tot le sc me sp vw) 27 (0, 0)) := h.var
  refine ⟨below_setCell3 h.bel h.l4 _, h.l2, h.l4, h.ne, (Below.heap_setCell _ _ _ _ (show b2 ≠ b4 from h.ne)).trans h.res, ?_, row_setOther h.drow hv (by decide), row_setOther h.wrow hv (by decide)⟩
  refine (block_set (j := j) hv v).trans ?_
  rw [hc]
  rfl
/-- a row that is put together -/
def NX (wN W : World) (v : Value) (xs : List LostB) : Prop := Below wN.heap.size wN W ∧ W.ownsRow wN.heap.size 36 3 v xs.length (xs.flatMap lostC)
theorem NX.start (w : World) : NX w w (.slice none 0 0) [] := ⟨Below.refl _ _, World.ownsRow_nil _ _ _ _⟩
theorem NX.app {wN W X W' : World} {v v' : Value} {xs ys : List LostB} {m : Nat} (h : NX wN W v xs) (hX : Below W.heap.size W X) (hm : m = ys.length) (ho : W'.ownsRow wN.heap.size 36 3 v' (xs.length + m) (xs.flatMap lostC ++ ys.flatMap lostC)) (hg : X.grownBy W' v.ownBlock) : NX wN W' v' (xs ++ ys) := by
  subst hm
  refine ⟨(h.1.trans (hX.mono h.1.size)).grown hg (Nat.le_trans h.1.size hX.size) (fun k e => (World.ownsRow.lt h.2 k e).1), ?_⟩
  rw [List.length_append, List.flatMap_append]
  exact ho
theorem RJ.worst {w W W' : World} {b2 b4 : Nat} {vD v' : Value} {D : List Chg} {tot le : Int} {sc me sp : Nat} {vw : Value} {R R' : List LostB} (h : RJ w W b2 b4 vD D tot le sc me sp vw R) (hn : NX W W' v' R') : RJ w (W'.setCell ⟨b4, 5, none⟩ v') b2 b4 vD D tot le sc me sp v' R' := by
  have h1 := h.below hn.1
  have hv : W'.heap[b4]? = some (.cells (wasC tot le sc me sp vw) 27 (0, 0)) := h1.var
  refine ⟨below_setCell3 h1.bel h.l4 _, h.l2, h.l4, h.ne, (Below.heap_setCell _ _ _ _ (show b2 ≠ b4 from h.ne)).trans h1.res, ?_, row_setOther h1.drow hv (by decide), row_setOther (row_baseG hn.2 h.bel.size) hv (by decide)⟩
  refine (block_set (j := 5) hv v').trans ?_
  unfold wasObj wasC
  rfl
theorem RJ.cells {w W : World} {b2 b4 : Nat} {vD : Value} {D : List Chg} {tot le : Int} {sc me sp : Nat} {vw : Value} {R : List LostB} (h : RJ w W b2 b4 vD D tot le sc me sp vw R) :
    W.cell? ⟨b4, 0, none⟩ = some (.int .i64 tot) ∧ W.cell? ⟨b4, 1, none⟩ = some (.int .i64 le) ∧ W.cell? ⟨b4, 2, none⟩ = some (.float .f64 sc) ∧ W.cell? ⟨b4, 3, none⟩ = some (.float .f64 me) ∧ W.cell? ⟨b4, 4, none⟩ = some (.float .f64 sp) ∧ W.cell? ⟨b4, 5, none⟩ = some vw ∧ ∀ j, W.frozen? ⟨b4, j, none⟩ = false := by
  have hv : W.heap[b4]? = some (.cells (wasC tot le sc me sp vw) 27 (0, 0)) := h.var
  exact ⟨block_cell hv rfl, block_cell hv rfl, block_cell hv rfl, block_cell hv rfl, block_cell hv rfl, block_cell hv rfl, fun j => block_frozen hv j⟩
theorem row_lit {W : World} {B n size : Nat} {T : TypeId} {v : Value} {xs : List Value} (h : W.ownsRow B T size v n xs) (hn : 0 < n) : ∃ g cap, v = .slice (some ⟨g, 0, none⟩) n cap ∧ n ≤ cap ∧ cap ≤ maxLen ∧ g < W.heap.size ∧ ∀ (j : Nat) x, xs[j]? = some x → W.cell? ⟨g, j, none⟩ = some x := by
  obtain ⟨h1, h2⟩ := h
  rcases h2 with ⟨_, e⟩ | ⟨g, cap, cur, rfl, hB, hg, hnc, hcm, hsz, htk⟩
  · omega
  · refine ⟨g, cap, rfl, hnc, hcm, heap_lt hg, fun j x hx => block_cell hg ?_⟩
    rw [← htk, List.getElem?_take] at hx
    split at hx
    · simpa using hx
    · cases hx
theorem gflat_take {α : Type} {enc : α → List Value} {sz : Nat} (hz : ∀ e, (enc e).length = sz) : ∀ (L : List α) (k : Nat), (L.take k).flatMap enc = (L.flatMap enc).take (k * sz)
  | [], k => by simp
  | x :: L, 0 => by simp
  | x :: L, k + 1 => by
    have h1 : (enc x).take ((k + 1) * sz) = enc x := List.take_of_length_le (by rw [hz, Nat.add_mul]; omega)
    have h2 : (k + 1) * sz - sz = k * sz := by rw [Nat.add_mul]; omega
    rw [List.take_succ_cons, List.flatMap_cons, List.flatMap_cons, gflat_take hz L k, List.take_append, hz, h1, h2]
theorem gflat_drop {α : Type} {enc : α → List Value} {sz : Nat} (hz : ∀ e, (enc e).length = sz) : ∀ (L : List α) (k : Nat), (L.drop k).flatMap enc = (L.flatMap enc).drop (k * sz)
  | [], k => by simp
  | x :: L, 0 => by simp
  | x :: L, k + 1 => by
    have h1 : (enc x).drop ((k + 1) * sz) = [] := List.drop_eq_nil_of_le (by rw [hz, Nat.add_mul]; omega)
    have h2 : (k + 1) * sz - sz = k * sz := by rw [Nat.add_mul]; omega
    rw [List.drop_succ_cons, List.flatMap_cons, gflat_drop hz L k, List.drop_append, hz, h1, h2, List.nil_append]
theorem lostC_ones (L : List LostB) : ∀ u ∈ L.flatMap lostC, u.oneCell' = true := fun u hu => by
  obtain ⟨x, _, hx⟩ := List.mem_flatMap.1 hu
  unfold lostC at hx
  simp only [List.mem_cons, List.not_mem_nil, or_false] at hx
  rcases hx with rfl | rfl | rfl <;> rfl
end Go.Proofs.Ytebniijkhjnbdaa
