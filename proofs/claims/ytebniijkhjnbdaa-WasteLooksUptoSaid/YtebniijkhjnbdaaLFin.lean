/- waste.Look's end: what stands where; what is sorted. -/
import Derived.Test.YtebniijkhjnbdaaLSums
set_option linter.unusedSimpArgs false
set_option linter.unusedVariables false
namespace Go.Proofs.Ytebniijkhjnbdaa
open Go.RowKit Go.Maps
theorem mem_lostV {f : List UInt8 → Option Cost} {V : List (List UInt8)} {y : LostN} : y ∈ (lostV f V).map LostB.n ↔ ∃ c ∈ V, ∃ x, f c = some x ∧ x.now < x.all ∧ y = ⟨c, x.t, x.all - x.now⟩ := by
  rw [List.mem_map]
  unfold lostV
  constructor
  · rintro ⟨z, hz, rfl⟩
    obtain ⟨c, hc, hz⟩ := List.mem_flatMap.1 hz
    unfold lostOne at hz
    cases hf : f c with
    | none => rw [hf] at hz; cases hz
    | some x =>
      rw [hf] at hz
      simp only at hz
      split at hz
      · rename_i hlt
        rw [List.mem_singleton.1 hz]
        exact ⟨c, hc, x, hf, hlt, rfl⟩
      · cases hz
  · rintro ⟨c, hc, x, hf, hlt, rfl⟩
    refine ⟨⟨bs c, x.t, x.all - x.now⟩, List.mem_flatMap.2 ⟨c, hc, ?_⟩, rfl⟩
    unfold lostOne
    rw [hf]
    simp only
    rw [if_pos hlt]
    exact List.mem_singleton.2 rfl
/-- sorted, they are as the reference lists them -/
theorem sorted_is {l : List Cw} {V : List (List UInt8)} (hV : V.Perm ((costsM l).map (·.1))) {R : List LostB} (hR : R.Perm (lostV (getM (costsM l)) V)) (hs : (R.map LostB.n).Pairwise (fun a b => aheadB a b = true)) : R = (worstR l).map LostN.by := by
  have e : R.map LostB.n = worstR l := by
    refine sorted_one hs (worstR_law l).1 fun y => ?_
    rw [← costs_worst l y, (hR.map LostB.n).mem_iff, mem_lostV]
    constructor
    · rintro ⟨c, hc, x, hf, hlt, rfl⟩
      obtain ⟨z, hz, rfl⟩ := List.mem_map.1 (hV.mem_iff.1 hc)
      have := getM_mem (costs_keys l).1 hz
      rw [hf] at this
      injection this with this
      subst this
      exact List.mem_map.2 ⟨z, List.mem_filter.2 ⟨hz, by simpa using hlt⟩, rfl⟩
    · intro hy
      obtain ⟨z, hz, rfl⟩ := List.mem_map.1 hy
      obtain ⟨hz1, hz2⟩ := List.mem_filter.1 hz
      exact ⟨z.1, hV.mem_iff.2 (List.mem_map.2 ⟨z, hz1, rfl⟩), z.2, getM_mem (costs_keys l).1 hz1, by simpa using hz2, rfl⟩
  rw [← e, List.map_map]
  have : ∀ x : LostB, (LostN.by ∘ LostB.n) x = x := fun x => by
    show (⟨bs x.p.data.toList, x.t, x.b⟩ : LostB) = x
    rw [bs_of]
  rw [List.map_congr_left (g := id) fun x _ => this x, List.map_id]
theorem lostV_apart {l : List Cw} {V : List (List UInt8)} (h : V.Nodup) : (lostV (getM (costsM l)) V).Pairwise (fun a b => a.p ≠ b.p) := by
  unfold lostV
  induction V with
  | nil => exact List.Pairwise.nil
  | cons c V ih =>
    have hn := List.nodup_cons.1 h
    rw [List.flatMap_cons, List.pairwise_append]
    have one : ∀ c z, z ∈ lostOne (getM (costsM l)) c → z.p = bs c := fun c z hz => by
      unfold lostOne at hz
      split at hz
      · cases hz
      · split at hz
        · rw [List.mem_singleton.1 hz]
        · cases hz
    refine ⟨?_, ih hn.2, fun a ha b hb e => ?_⟩
    · unfold lostOne
      split
      · exact List.Pairwise.nil
      · split
        · exact List.pairwise_singleton _ _
        · exact List.Pairwise.nil
    · obtain ⟨d, hd, hb⟩ := List.mem_flatMap.1 hb
      rw [one c a ha, one d b hb] at e
      have : c = d := by rw [← bs_toList c, ← bs_toList d, e]
      exact hn.1 (this ▸ hd)
/-- the end of a look -/
structure FinJ (w W : World) (B n : Nat) (szs : List Nat) (tot le : Int) (sc me sp : Nat) (vw : Value) (R : List LostB) : Prop where
  bel : Below B w W
  res : W.heap[B]? = some (wasObj 0 0 0 0 0 (.slice none 0 0))
  siz : ∃ cur : Array Value, W.heap[B + 2]? = some (.cells cur 24 (0, 0)) ∧ cur.size = n ∧ ∀ (j x : Nat), szs[j]? = some x → cur[j]? = some (Value.float FloatKind.f64 (Fl.fl x))
  var : W.heap[B + 3]? = some (wasObj tot le sc me sp vw)
  row : W.ownsRow (B + 4) 36 3 vw R.length (R.flatMap lostC)
  nil : R.length = 0 → vw = .slice none 0 0
theorem row_baseG {W : World} {base base' n size : Nat} {e : TypeId} {v : Value} {xs : List Value} (h : W.ownsRow base e size v n xs) (hb : base' ≤ base) : W.ownsRow base' e size v n xs := by
  obtain ⟨h1, h2⟩ := h
  refine ⟨h1, ?_⟩
  rcases h2 with h2 | ⟨g, cap, cur, a, b, c⟩
  · exact .inl h2
  · exact .inr ⟨g, cap, cur, a, Nat.le_trans hb b, c⟩
/-- behind the sort -/
theorem SumJ.sorted {w w0 W W' : World} {B n r : Nat} {bl : List UInt8 → Nat} {f : List UInt8 → Option Cost} {tot le : Nat} {szs : List Nat} {vw : Value} {R R' : List LostB} (h : SumJ w w0 W B n r bl f tot szs le vw R) (hg : W.grownBy W' vw.ownBlock)
    (hrow : W'.ownsRow (r + 1) 36 3 vw R'.length (R'.flatMap lostC)) : FinJ w W' B n szs tot le flOne 0 0 vw R' := by
  obtain ⟨cur, h1, h2, h3⟩ := h.siz
  have b4 := h.b4
  have r0 := h.r0
  have own : ∀ k, k ≤ r → some k ≠ vw.ownBlock := fun k hk e => by
    have := (World.ownsRow.lt h.row k e.symm).1
    omega
  have keep : ∀ k, k ≤ r → k < W.heap.size → W'.heap[k]? = W.heap[k]? := fun k hr hk => hg.block k hk (own k hr)
  refine ⟨⟨hg.os.trans h.bel.os, hg.tape.trans h.bel.tape, hg.output.trans h.bel.output, Nat.le_trans h.bel.size hg.size, fun k hk => ?_⟩, (keep _ (by omega) (heap_lt h.res)).trans h.res, ⟨cur, (keep _ (by omega) (heap_lt h1)).trans h1, h2, h3⟩, (keep _ (by omega) (heap_lt h.var)).trans h.var, row_baseG hrow (by omega), fun e => ?_⟩
  rotate_left
  · obtain ⟨o1, c1, e1⟩ := row_formG h.row
    obtain ⟨o2, c2, e2⟩ := row_formG hrow
    refine h.nil ?_
    rw [e1] at e2
    injection e2 with _ e2 _
    omega
  have h5 := heap_lt h.res
  exact (keep k (by omega) (by omega)).trans (h.bel.block k hk)
theorem FinJ.drew {w W : World} {B n : Nat} {szs : List Nat} {tot le : Int} {sc me sp : Nat} {vw : Value} {R : List LostB} (h : FinJ w W B n szs tot le sc me sp vw R) : FinJ w W.drew B n szs tot le sc me sp vw R :=
  ⟨⟨h.bel.os, h.bel.tape, h.bel.output, h.bel.size, h.bel.block⟩, h.res, h.siz, h.var, row_keepG (W' := W.drew) h.row fun _ _ _ => rfl, h.nil⟩
theorem FinJ.put {w W : World} {B n j : Nat} {szs : List Nat} {tot le : Int} {sc me sp sc' me' sp' : Nat} {vw v : Value} {R : List LostB} (h : FinJ w W B n szs tot le sc me sp vw R) (hc : (wasC tot le sc me sp vw).setIfInBounds j v = wasC tot le sc' me' sp' vw) : FinJ w (W.setCell ⟨B + 3, j, none⟩ v) B n szs tot le sc' me' sp' vw R := by
  obtain ⟨cur, h1, h2, h3⟩ := h.siz
  have other : ∀ k, k ≠ B + 3 → (W.setCell ⟨B + 3, j, none⟩ v).heap[k]? = W.heap[k]? := fun k hk => Below.heap_setCell _ _ _ _ hk
  refine ⟨⟨h.bel.os, h.bel.tape, h.bel.output, by simpa using h.bel.size, fun k hk => (other k (by omega)).trans (h.bel.block k hk)⟩, (other _ (by omega)).trans h.res, ⟨cur, (other _ (by omega)).trans h1, h2, h3⟩, ?_, row_keepG h.row fun k hk _ => other k (by omega), h.nil⟩
  refine (block_set (j := j) h.var v).trans ?_
  rw [hc]
  rfl
theorem FinJ.cells {w W : World} {B n : Nat} {szs : List Nat} {tot le : Int} {sc me sp : Nat} {vw : Value} {R : List LostB} (h : FinJ w W B n szs tot le sc me sp vw R) :
    W.cell? ⟨B + 1 + 1 + 1, 0, none⟩ = some (.int .i64 tot) ∧ W.cell? ⟨B + 1 + 1 + 1, 1, none⟩ = some (.int .i64 le) ∧ W.cell? ⟨B + 1 + 1 + 1, 2, none⟩ = some (.float .f64 sc) ∧ W.cell? ⟨B + 1 + 1 + 1, 3, none⟩ = some (.float .f64 me) ∧ W.cell? ⟨B + 1 + 1 + 1, 4, none⟩ = some (.float .f64 sp) ∧
      W.frozen? ⟨B + 1 + 1 + 1, 2, none⟩ = false ∧ W.frozen? ⟨B + 1 + 1 + 1, 3, none⟩ = false ∧ W.frozen? ⟨B + 1 + 1 + 1, 4, none⟩ = false := by
  have hv : W.heap[B + 1 + 1 + 1]? = some (.cells (wasC tot le sc me sp vw) 27 (0, 0)) := h.var
  exact ⟨block_cell hv rfl, block_cell hv rfl, block_cell hv rfl, block_cell hv rfl, block_cell hv rfl, block_frozen hv _, block_frozen hv _, block_frozen hv _⟩
theorem FinJ.size {w W : World} {B n : Nat} {szs : List Nat} {tot le : Int} {sc me sp : Nat} {vw : Value} {R : List LostB} (h : FinJ w W B n szs tot le sc me sp vw R) {j x : Nat} (hx : szs[j]? = some x) : W.cell? ⟨B + 1 + 1, j, none⟩ = some (.float .f64 (Fl.fl x)) := by
  obtain ⟨cur, h1, h2, h3⟩ := h.siz
  exact block_cell (b := B + 1 + 1) h1 (h3 j x hx)
/-- the answer's cell is written -/
theorem FinJ.out {w W : World} {B n : Nat} {szs : List Nat} {tot le : Int} {sc me sp : Nat} {vw : Value} {R : List LostB} (h : FinJ w W B n szs tot le sc me sp vw R) (hB : B = w.heap.size) (cs : Array Value) : (W.setRow B cs).ownsRow B 36 3 vw R.length (R.flatMap lostC) ∧ Below w.heap.size w (W.setRow B cs) ∧ (R.length = 0 → vw = .slice none 0 0) := by
  subst hB
  refine ⟨row_baseG (row_keepG h.row fun k hk _ => setRow_other _ _ k _ (by omega)) (by omega), ⟨h.bel.os, h.bel.tape, h.bel.output, by simpa using h.bel.size, fun k hk => (setRow_other _ _ k _ (by omega)).trans (h.bel.block k hk)⟩, h.nil⟩
end Go.Proofs.Ytebniijkhjnbdaa
