/- The walk of waste.Look: what stands where. -/
import Derived.Test.YtebniijkhjnbdaaLSq
import Derived.Test.YtebniijkhjnbdaaName
import Derived.Laws.MakeOwn
import Derived.Carry
import Derived.Deep.DeepCutAuto
import Derived.Deep.CutBlock
set_option linter.unusedSimpArgs false
set_option linter.unusedVariables false
set_option exponentiation.threshold 3000
namespace Go.Proofs.Ytebniijkhjnbdaa
open Go.RowKit Go.Maps
open Go.Lib hiding intOf size_eq
theorem Try.infoLost : (Try.prog.info? 36).map (fun i => (i.zero, i.size, i.bytes)) = some (some (.agg #[.string ⟨#[]⟩, .int .i64 0, .int .i64 0]), 3, 32) := by kernel_rfl
theorem Try.infoF : (Try.prog.info? 24).map (fun i => (i.zero, i.size, i.bytes)) = some (some (Value.float FloatKind.f64 0), 1, 8) := by kernel_rfl
def floats (n : Nat) : Array Value := madeCells #[.float .f64 0] n
/-- the cells of a Waste -/
def wasC (tot least : Int) (sc me sp : Nat) (v : Value) : Array Value := #[.int .i64 tot, .int .i64 least, .float .f64 sc, .float .f64 me, .float .f64 sp, v]
def wasObj (tot least : Int) (sc me sp : Nat) (v : Value) : Obj := .cells (wasC tot least sc me sp v) 27 (0, 0)
/-- where the outer loop stands -/
structure LookI (w wr : World) (B n : Nat) (done : List Cw) (tot : Nat) (szs : List Nat) : Prop where
  bel : Below B w wr
  res : wr.heap[B]? = some (wasObj 0 0 0 0 0 (.slice none 0 0))
  cst : ∃ N D bl, CostsAt wr (B + 1) (B + 4) N D bl (getM (costsM done)) ∧ N ≤ done.length
  siz : ∃ cur : Array Value, wr.heap[B + 2]? = some (.cells cur 24 (0, 0)) ∧ cur.size = n ∧ ∀ (j x : Nat), szs[j]? = some x → cur[j]? = some (Value.float FloatKind.f64 (Fl.fl x))
  var : wr.heap[B + 3]? = some (wasObj tot 0 flOne 0 0 (.slice none 0 0))
/-- the world ahead of the loop -/
noncomputable def lookW (w : World) (n : Nat) : World := (((w.alloc (wasObj 0 0 0 0 0 (.slice none 0 0))).alloc (.map #[] 0)).alloc (.cells (floats n) 24)).alloc (wasObj 0 0 0 0 0 (.slice none 0 0))
theorem lookW_size (w : World) (n : Nat) : (lookW w n).heap.size = w.heap.size + 4 := by simp [lookW]
theorem lookW_var (w : World) (n : Nat) : (lookW w n).heap[w.heap.size + 1 + 1 + 1]? = some (wasObj 0 0 0 0 0 (.slice none 0 0)) := by
  have h := World.alloc_heap_new (((w.alloc (wasObj 0 0 0 0 0 (.slice none 0 0))).alloc (.map #[] 0)).alloc (.cells (floats n) 24)) (wasObj 0 0 0 0 0 (.slice none 0 0))
  rw [show (((w.alloc (wasObj 0 0 0 0 0 (.slice none 0 0))).alloc (.map #[] 0)).alloc (.cells (floats n) 24)).heap.size = w.heap.size + 1 + 1 + 1 by simp] at h
  exact h
theorem look_start (w : World) (n : Nat) : LookI w ((lookW w n).setRow (w.heap.size + 1 + 1 + 1) (wasC 0 0 flOne 0 0 (.slice none 0 0))) w.heap.size n [] 0 [] := by
  have hb : Below w.heap.size w (lookW w n) := ((((Below.refl _ _).alloc (Nat.le_refl _) _).alloc (by simp) _).alloc (by simp; omega) _).alloc (by simp; omega) _
  have other : ∀ k, k ≠ w.heap.size + 1 + 1 + 1 → ((lookW w n).setRow (w.heap.size + 1 + 1 + 1) (wasC 0 0 flOne 0 0 (.slice none 0 0))).heap[k]? = (lookW w n).heap[k]? := fun k hk => setRow_other _ _ k _ hk
  refine ⟨⟨hb.os, hb.tape, hb.output, by simpa using hb.size, fun k hk => (other k (by omega)).trans (hb.block k hk)⟩, ?_, ?_, ?_, ?_⟩
  · rw [other _ (by omega)]
    unfold lookW
    rw [gheap_old _ _ (by simp; omega), gheap_old _ _ (by simp; omega), gheap_old _ _ (by simp)]
    exact World.alloc_heap_new _ _
  · have hm : (lookW w n).ownsMap Try.prog 9 ptrE (w.heap.size + 1) 0 (.map []) := by
      have h0 := World.ownsMap_made (w.alloc (wasObj 0 0 0 0 0 (.slice none 0 0))) Try.prog 9 ptrE
      have := (h0.alloc (.cells (floats n) 24)).alloc (wasObj 0 0 0 0 0 (.slice none 0 0))
      simpa [lookW] using this
    refine ⟨0, .map [], fun _ => 0, ⟨ownsMap_block hm (other _ (by omega)), ⟨fun c => rfl, fun k hk => (by cases hk)⟩, fun c x hx => (by cases hx), fun c x hx => (by cases hx), fun c d x y hx => (by cases hx)⟩, Nat.zero_le _⟩
  · refine ⟨floats n, ?_, size_madeCells _ _, fun j x hx => by cases hx⟩
    rw [other _ (by omega)]
    unfold lookW
    rw [gheap_old _ _ (by simp)]
    have := World.alloc_heap_new ((w.alloc (wasObj 0 0 0 0 0 (.slice none 0 0))).alloc (.map #[] 0)) (.cells (floats n) 24)
    simpa using this
  · exact grow_at (lookW_var w n)
theorem LookI.below {w wr W : World} {B n : Nat} {done : List Cw} {tot : Nat} {szs : List Nat} (h : LookI w wr B n done tot szs) (hb : Below wr.heap.size wr W) : LookI w W B n done tot szs := by
  obtain ⟨N, D, bl, hc, hN⟩ := h.cst
  obtain ⟨cur, h1, h2, h3⟩ := h.siz
  have hs := hb.size
  refine ⟨⟨hb.os.trans h.bel.os, hb.tape.trans h.bel.tape, hb.output.trans h.bel.output, Nat.le_trans h.bel.size hb.size, fun k hk => ?_⟩, (hb.block _ (heap_lt h.res)).trans h.res, ⟨N, D, bl, hc.below hb, hN⟩, ⟨cur, (hb.block _ (heap_lt h1)).trans h1, h2, h3⟩, (hb.block _ (heap_lt h.var)).trans h.var⟩
  rcases Nat.lt_or_ge k wr.heap.size with h4 | h4
  · exact (hb.block k h4).trans (h.bel.block k hk)
  · have h5 := heap_lt h.res
    omega
theorem gone_get (l : List Cw) (c : Cw) (hg : c.g = true) : goneF (getM (costsM l)) c.p = getM (costsM (l ++ [c])) := by
  funext q
  have e : costsM (l ++ [c]) = stepM (costsM l) c := by unfold costsM; rw [List.foldl_append]; rfl
  rw [e]
  unfold stepM goneF
  rw [if_pos hg, getM_gone]
theorem LookI.gone {w w1 w2 : World} {B n r N : Nat} {D : DataW Nat} {bl : List UInt8 → Nat} {done : List Cw} {tot : Nat} {szs : List Nat} {left : Lit → Bool} {cnt : Nat} {c : Cw} (h : LookI w w1 B n done tot szs) (hB : B = w.heap.size) (hN : N ≤ done.length)
    (hg : GoneAt w1 w2 (B + 1) (B + 4) r N D bl (getM (costsM done)) c.p left cnt) (hl : ∀ kl, left kl = false) (hc : c.g = true) : LookI w w2 B n (done ++ [c]) tot szs := by
  obtain ⟨cur, h1, h2, h3⟩ := h.siz
  have hd := hg.done hl
  rw [gone_get done c hc] at hd
  have ne : ∀ k, k < B + 4 → ∀ q x, getM (costsM done) q = some x → bl q ≠ k := fun k hk q x hx e => by have := hg.lo q x hx; omega
  have keep : ∀ k, k < B + 4 → k < w1.heap.size → w2.heap[k]? = w1.heap[k]? := fun k hk hl => hg.oth.block k hl (ne k hk)
  refine ⟨⟨hg.oth.os.trans h.bel.os, hg.oth.tape.trans h.bel.tape, hg.oth.output.trans h.bel.output, Nat.le_trans h.bel.size hg.oth.size, fun k hk => ?_⟩, (keep _ (by omega) (heap_lt h.res)).trans h.res, ⟨N, D, bl, hd, by simp; omega⟩, ⟨cur, (keep _ (by omega) (heap_lt h1)).trans h1, h2, h3⟩, (keep _ (by omega) (heap_lt h.var)).trans h.var⟩
  have h5 := heap_lt h.res
  exact (keep k (by omega) (by omega)).trans (h.bel.block k hk)
theorem allF_le (l : List Cw) (p : List UInt8) : allF l p ≤ totalR l := by
  induction l with
  | nil => exact Nat.le_refl _
  | cons c r ih =>
    have ht : totalR (c :: r) = bringsF c + totalR r := by unfold totalR; rw [List.map_cons, List.sum_cons]
    rw [allF_cons, ht]
    split <;> omega
theorem timesF_le (l : List Cw) (p : List UInt8) : timesF l p ≤ l.length := List.length_filter_le _ _
theorem totalR_append (a b : List Cw) : totalR (a ++ b) = totalR a + totalR b := by unfold totalR; rw [List.map_append, List.sum_append]
theorem flatC_take {LL : List (List Chg)} {i : Nat} {L : List Chg} (h : LL[i]? = some L) : flatC (LL.take (i + 1)) = flatC (LL.take i) ++ L.map cwOf := by
  unfold flatC
  rw [← gtake h, List.flatten_append, List.map_append]
  simp
theorem flatC_split {LL : List (List Chg)} {i : Nat} {L : List Chg} (h : LL[i]? = some L) : ∃ R, flatC LL = flatC (LL.take i) ++ L.map cwOf ++ R := by
  refine ⟨flatC (LL.drop (i + 1)), ?_⟩
  rw [← flatC_take h]
  unfold flatC
  rw [← List.map_append, ← List.flatten_append, List.take_append_drop]
theorem cw_step {L : List Chg} {k : Nat} {c : Chg} (h : L[k]? = some c) : (L.take (k + 1)).map cwOf = (L.take k).map cwOf ++ [cwOf c] := by rw [← gtake h, List.map_append]; rfl
theorem sizeC_step {L : List Chg} {k : Nat} {c : Chg} (h : L[k]? = some c) : sizeC (L.take (k + 1)) = sizeC (L.take k) + (if c.g = true then 0 else c.d.size) := by
  unfold sizeC
  rw [cw_step h, totalR_append]
  unfold totalR bringsF cwOf
  simp
theorem key_of {l : List Cw} {p : List UInt8} {y : Cost} (h : getM (costsM l) p = some y) : ∃ c ∈ l, c.p = p := by
  have hk : p ∈ (costsM l).map (·.1) := by
    by_cases hp : p ∈ (costsM l).map (·.1)
    · exact hp
    · rw [getM_none.2 hp] at h; cases h
  obtain ⟨c, hc, _, e⟩ := ((costs_keys l).2 p).1 hk
  exact ⟨c, hc, e⟩
theorem done_sub {LL : List (List Chg)} {i k : Nat} {L : List Chg} (h : LL[i]? = some L) {y : Cw} (hy : y ∈ flatC (LL.take i) ++ (L.take k).map cwOf) : y ∈ flatC LL := by
  obtain ⟨R, hR⟩ := flatC_split h
  rw [hR]
  rcases List.mem_append.1 hy with h1 | h1
  · exact List.mem_append_left _ (List.mem_append_left _ h1)
  · refine List.mem_append_left _ (List.mem_append_right _ ?_)
    obtain ⟨c, hc, rfl⟩ := List.mem_map.1 h1
    exact List.mem_map.2 ⟨c, List.mem_of_mem_take hc, rfl⟩
theorem done_len {LL : List (List Chg)} {i k : Nat} {L : List Chg} (h : LL[i]? = some L) : (flatC (LL.take i) ++ (L.take k).map cwOf).length ≤ (flatC LL).length := by
  obtain ⟨R, hR⟩ := flatC_split h
  rw [hR]
  simp
  omega
theorem totalR_take (L : List Chg) (k : Nat) : totalR ((L.take k).map cwOf) ≤ totalR (L.map cwOf) := by
  conv => rhs; rw [← List.take_append_drop k L, List.map_append, totalR_append]
  omega
theorem done_tot {LL : List (List Chg)} {i k : Nat} {L : List Chg} (h : LL[i]? = some L) : totalR (flatC (LL.take i) ++ (L.take k).map cwOf) ≤ totalR (flatC LL) := by
  obtain ⟨R, hR⟩ := flatC_split h
  have := totalR_take L k
  rw [hR, totalR_append, totalR_append, totalR_append]
  omega
theorem mem_flatC {LL : List (List Chg)} {y : Cw} (h : y ∈ flatC LL) : ∃ L ∈ LL, ∃ c ∈ L, y = cwOf c := by
  obtain ⟨c, hc, rfl⟩ := List.mem_map.1 h
  obtain ⟨L, hL, hc⟩ := List.mem_flatten.1 hc
  exact ⟨L, hL, c, hc, rfl⟩
theorem GoneAt.still {w0 w w' : World} {bm B r n : Nat} {D : DataW Nat} {bl : List UInt8 → Nat} {f : List UInt8 → Option Cost} {d : List UInt8} {left : Lit → Bool} {cnt : Nat} (h : GoneAt w0 w bm B r n D bl f d left cnt) (hc : CostsAt w0 bm B n D bl f) (hg : w.grownBy w' (some r))
    {k : Nat} {cs : Array Value} {t : TypeId} (hk : w0.heap[k]? = some (.cells cs t (0, 0))) (ht : t ≠ 59) : w'.heap[k]? = some (.cells cs t (0, 0)) := by
  have hlt := heap_lt hk
  have h0 := h.r0
  have hs := h.oth.size
  rw [hg.block k (by omega) (fun e => by have := Option.some.inj e; omega), h.oth.block k hlt (fun c x hx e => ?_)]
  · exact hk
  · have := hc.obj c x hx
    rw [e, hk] at this
    injection this with this
    injection this with _ e2 _
    exact ht e2
theorem zero_at {W : World} {b : Nat} {y : Cost} (h : W.heap[b]? = some (costObj y)) : (W.setCell ⟨b, 2, none⟩ (.int .i64 0)).heap[b]? = some (costObj ⟨y.t, y.all, 0⟩) := by
  have h1 := block_set (j := 2) (show W.heap[b]? = some (.cells (costC y) 59 (0, 0)) from h) (.int .i64 0)
  refine h1.trans ?_
  unfold costObj costC
  simp
theorem hits_eq {d p : ByteArray} (h : (p.toList == d.toList) = true) : hits d.data.toList p.data.toList = true := by
  rw [Lib.toList_data, Lib.toList_data] at h
  unfold hits
  simp [(show p.data.toList = d.data.toList by simpa using h)]
theorem hits_ne {d p : ByteArray} (h : (p.toList == d.toList) = false) : hits d.data.toList p.data.toList = belowP d.data.toList p.data.toList := by
  rw [Lib.toList_data, Lib.toList_data] at h
  unfold hits
  simp [(show ¬ p.data.toList = d.data.toList by simpa using h)]
/-- a cost that is put -/
theorem put_get (l : List Cw) (c : Cw) (hg : c.g = false) (y : Cost) (hy : (getM (costsM l) c.p).getD ⟨0, 0, 0⟩ = y) : fPut (getM (costsM l)) c.p ⟨y.t + 1, y.all + c.n, c.n⟩ = getM (costsM (l ++ [c])) := by
  funext q
  have e : costsM (l ++ [c]) = stepM (costsM l) c := by unfold costsM; rw [List.foldl_append]; rfl
  have e2 : stepM (costsM l) c = putM (costsM l) c.p c.n := by unfold stepM; rw [if_neg (by rw [hg]; decide)]
  rw [e, e2]
  unfold fPut putM
  cases h : getM (costsM l) c.p with
  | none =>
    rw [h] at hy
    simp only []
    rw [getM_append]
    by_cases hq : q = c.p
    · subst hq
      rw [if_pos rfl, h, if_pos rfl, ← hy]
      simp
    · rw [if_neg hq, if_neg (fun e => hq e.symm)]
      simp
  | some z =>
    rw [h] at hy
    simp only [Option.getD_some] at hy
    subst hy
    simp only []
    rw [getM_turn (f := fun x => ⟨x.t + 1, x.all + c.n, c.n⟩)]
    by_cases hq : q = c.p
    · subst hq; rw [if_pos rfl, h]; simp
    · rw [if_neg hq]; simp [hq]
theorem fPut_put (f : List UInt8 → Option Cost) (q : List UInt8) (x y : Cost) : fPut (fPut f q x) q y = fPut f q y := by
  funext c
  unfold fPut
  split <;> rfl
/-- a file is counted: at a path that is there -/
theorem LookI.laid {w w1 w2 : World} {B n N : Nat} {D : DataW Nat} {bl : List UInt8 → Nat} {done : List Cw} {tot : Nat} {szs : List Nat} {c : Cw} (h : LookI w w1 B n done tot szs) (hB : B = w.heap.size) (hN : N ≤ done.length + 1)
    (hc : CostsAt w2 (B + 1) (B + 4) N D bl (getM (costsM (done ++ [c])))) (ho : w2.os = w1.os ∧ w2.tape = w1.tape ∧ w2.output = w1.output ∧ w1.heap.size ≤ w2.heap.size) (hs : ∀ k, k < w1.heap.size → k < B + 4 → k ≠ B + 1 → w2.heap[k]? = w1.heap[k]?) : LookI w w2 B n (done ++ [c]) tot szs := by
  obtain ⟨cur, h1, h2, h3⟩ := h.siz
  refine ⟨⟨ho.1.trans h.bel.os, ho.2.1.trans h.bel.tape, ho.2.2.1.trans h.bel.output, Nat.le_trans h.bel.size ho.2.2.2, fun k hk => ?_⟩, (hs _ (heap_lt h.res) (by omega) (by omega)).trans h.res, ⟨N, D, bl, hc, by simp; omega⟩, ⟨cur, (hs _ (heap_lt h1) (by omega) (by omega)).trans h1, h2, h3⟩, (hs _ (heap_lt h.var) (by omega) (by omega)).trans h.var⟩
  have h5 := heap_lt h.res
  exact (hs k (by omega) (by omega) (by omega)).trans (h.bel.block k hk)
/-- a cost block behind its three stores -/
def bump (W : World) (b : Nat) (y : Cost) (m : Nat) : World := ((W.setCell ⟨b, 0, none⟩ (.int .i64 ((y.t : Int) + 1))).setCell ⟨b, 1, none⟩ (.int .i64 ((y.all : Int) + (m : Int)))).setCell ⟨b, 2, none⟩ (.int .i64 (m : Int))
theorem bump_at {W : World} {b : Nat} {y : Cost} (h : W.heap[b]? = some (costObj y)) (m : Nat) : (bump W b y m).heap[b]? = some (costObj ⟨y.t + 1, y.all + m, m⟩) := by
  have h1 := block_set (j := 0) (show W.heap[b]? = some (.cells (costC y) 59 (0, 0)) from h) (.int .i64 ((y.t : Int) + 1))
  have h2 := block_set (j := 1) h1 (.int .i64 ((y.all : Int) + (m : Int)))
  have h3 := block_set (j := 2) h2 (.int .i64 (m : Int))
  refine h3.trans ?_
  unfold costObj costC
  simp
theorem bump_other (W : World) (b : Nat) (y : Cost) (m k : Nat) (h : k ≠ b) : (bump W b y m).heap[k]? = W.heap[k]? := by
  unfold bump
  rw [Below.heap_setCell _ _ _ _ h, Below.heap_setCell _ _ _ _ h, Below.heap_setCell _ _ _ _ h]
theorem bump_size (W : World) (b : Nat) (y : Cost) (m : Nat) : (bump W b y m).heap.size = W.heap.size := by unfold bump; simp
/-- a change in a block of its own -/
noncomputable def boxC (w : World) (c : Chg) : World := w.alloc (.cells #[.string c.p, .bool c.g, .string c.ep, .int .i64 c.k, .int .i64 c.m, .string c.d, .string c.l] 43)
theorem boxC_at (w : World) (c : Chg) : (boxC w c).heap[w.heap.size]? = some (.cells #[.string c.p, .bool c.g, .string c.ep, .int .i64 c.k, .int .i64 c.m, .string c.d, .string c.l] 43 (0, 0)) := World.alloc_heap_new w _
theorem boxC_below (w : World) (c : Chg) : Below w.heap.size w (boxC w c) := (Below.refl w.heap.size w).alloc (Nat.le_refl _) _
theorem boxC_size (w : World) (c : Chg) : (boxC w c).heap.size = w.heap.size + 1 := by simp [boxC]
/-- a new cost's block -/
noncomputable def boxN (w : World) : World := w.alloc (.cells #[.int .i64 0, .int .i64 0, .int .i64 0] 59)
theorem boxN_at (w : World) : (boxN w).heap[w.heap.size]? = some (costObj ⟨0, 0, 0⟩) := World.alloc_heap_new w _
theorem boxN_below (w : World) : Below w.heap.size w (boxN w) := (Below.refl w.heap.size w).alloc (Nat.le_refl _) _
/-- behind the map's store and the three stores: a new path -/
theorem CostsAt.fresh {w1 w2 w3 : World} {bm B n : Nat} {D : DataW Nat} {bl : List UInt8 → Nat} {l : List Cw} {c : Cw} (h : CostsAt w1 bm B n D bl (getM (costsM l))) (hB : B ≤ w1.heap.size) (hg : c.g = false) (hf : getM (costsM l) c.p = none) (hb2 : Below w1.heap.size w1 w2) (h2 : w2.heap[w1.heap.size]? = some (costObj ⟨0, 0, 0⟩))
    (hm : w3.ownsMap Try.prog 9 ptrE bm (n + 1) (D.put (.string c.p) (ptrD (some w1.heap.size)))) (hg3 : w2.grownBy w3 (some bm)) (hn : bm ≠ w1.heap.size) :
    w3.heap[w1.heap.size]? = some (costObj ⟨0, 0, 0⟩) ∧ CostsAt (bump w3 w1.heap.size ⟨0, 0, 0⟩ c.n) bm B (n + 1) (D.put (.string c.p) (ptrD (some w1.heap.size))) (bPut bl c.p w1.heap.size) (getM (costsM (l ++ [c]))) := by
  have e3 : w3.heap[w1.heap.size]? = some (costObj ⟨0, 0, 0⟩) := by
    rw [hg3.block _ (heap_lt h2) (fun e => hn (Option.some.inj e).symm)]
    exact h2
  refine ⟨e3, ?_⟩
  have h4 := h.add (w1 := w1) hf ⟨0, 0, 0⟩ (Nat.le_refl _) hB hm e3 fun k hk hne => (hg3.block k (Nat.lt_of_lt_of_le hk hb2.size) (fun e => hne (Option.some.inj e))).trans (hb2.block k hk)
  have hq : fPut (getM (costsM l)) c.p ⟨0, 0, 0⟩ c.p = some ⟨0, 0, 0⟩ := by unfold fPut; rw [if_pos rfl]
  have eb : bPut bl c.p w1.heap.size c.p = w1.heap.size := by unfold bPut; rw [if_pos rfl]
  have h5 := h4.set (w' := bump w3 w1.heap.size ⟨0, 0, 0⟩ c.n) hq ⟨0 + 1, 0 + c.n, c.n⟩ (by rw [eb]; exact bump_at e3 c.n) (fun k _ hk => bump_other _ _ _ _ _ (by rw [eb] at hk; exact hk))
  rw [fPut_put] at h5
  rw [← put_get l c hg ⟨0, 0, 0⟩ (by rw [hf]; rfl)]
  exact h5
/-- .. a path that is there -/
theorem CostsAt.again {w1 : World} {bm B n : Nat} {D : DataW Nat} {bl : List UInt8 → Nat} {l : List Cw} {c : Cw} {y : Cost} (h : CostsAt w1 bm B n D bl (getM (costsM l))) (hg : c.g = false) (hf : getM (costsM l) c.p = some y) : CostsAt (bump w1 (bl c.p) y c.n) bm B n D bl (getM (costsM (l ++ [c]))) := by
  have h5 := h.set (w' := bump w1 (bl c.p) y c.n) hf ⟨y.t + 1, y.all + c.n, c.n⟩ (bump_at (h.obj _ _ hf) c.n) (fun k _ hk => bump_other _ _ _ _ _ hk)
  rw [put_get l c hg y (by rw [hf]; rfl)] at h5
  exact h5
theorem bump_new (W : World) (b m : Nat) : bump W b ⟨0, 0, 0⟩ m = ((W.setCell ⟨b, 0, none⟩ (.int .i64 1)).setCell ⟨b, 1, none⟩ (.int .i64 (m : Int))).setCell ⟨b, 2, none⟩ (.int .i64 (m : Int)) := by unfold bump; simp
theorem size_le {LL : List (List Chg)} {i k : Nat} {L : List Chg} {c : Chg} (h : LL[i]? = some L) (hc : L[k]? = some c) (hg : c.g = false) : sizeC (L.take k) + c.d.size ≤ totalR (flatC LL) := by
  have h1 := sizeC_step hc
  rw [hg] at h1
  have h2 := done_tot (k := k + 1) h
  rw [totalR_append] at h2
  have h3 : totalR ((L.take (k + 1)).map cwOf) = sizeC (L.take (k + 1)) := rfl
  simp at h1
  omega
theorem sizes_le {LL : List (List Chg)} {i : Nat} {L : List Chg} (h : LL[i]? = some L) : totalR (flatC (LL.take i)) + sizeC L ≤ totalR (flatC LL) := by
  obtain ⟨R, hR⟩ := flatC_split h
  rw [hR, totalR_append, totalR_append]
  have h3 : totalR (L.map cwOf) = sizeC L := rfl
  omega
/-- a layer is told -/
theorem LookI.layer {w wr : World} {B n tot s : Nat} {done : List Cw} {szs : List Nat} (h : LookI w wr B n done tot szs) (hB : B = w.heap.size) (hi : szs.length < n) :
    LookI w ((wr.setCell ⟨B + 2, szs.length, none⟩ (.float .f64 (floatOfInt .f64 (s : Int)))).setCell ⟨B + 3, 0, none⟩ (.int .i64 ((tot : Int) + (s : Int)))) B n done (tot + s) (szs ++ [s]) := by
  obtain ⟨N, D, bl, hc, hN⟩ := h.cst
  obtain ⟨cur, h1, h2, h3⟩ := h.siz
  have other : ∀ k, k ≠ B + 2 → k ≠ B + 3 → ((wr.setCell ⟨B + 2, szs.length, none⟩ (.float .f64 (floatOfInt .f64 (s : Int)))).setCell ⟨B + 3, 0, none⟩ (.int .i64 ((tot : Int) + (s : Int)))).heap[k]? = wr.heap[k]? := fun k h4 h5 => by
    rw [Below.heap_setCell _ _ _ _ h5, Below.heap_setCell _ _ _ _ h4]
  refine ⟨⟨h.bel.os, h.bel.tape, h.bel.output, by simpa using h.bel.size, fun k hk => (other k (by omega) (by omega)).trans (h.bel.block k hk)⟩, (other _ (by omega) (by omega)).trans h.res, ⟨N, D, bl, hc.keep fun b _ hb => other b (by omega) (by omega), hN⟩, ⟨cur.setIfInBounds szs.length (.float .f64 (floatOfInt .f64 (s : Int))), ?_, by simpa using h2, fun j x hx => ?_⟩, ?_⟩
  · rw [Below.heap_setCell _ _ _ _ (by show B + 2 ≠ B + 3; omega)]
    exact block_set h1 _
  · rw [Array.getElem?_setIfInBounds]
    by_cases hj : szs.length = j
    · rw [if_pos hj, if_pos (by omega)]
      subst hj
      rw [List.getElem?_append_right (Nat.le_refl _)] at hx
      simp at hx
      rw [← hx, Fl.floatOfInt_nat]
    · rw [if_neg hj]
      by_cases hj2 : j < szs.length
      · rw [List.getElem?_append_left hj2] at hx
        exact h3 j x hx
      · rw [List.getElem?_append_right (by omega), List.getElem?_eq_none (by simp; omega)] at hx
        cases hx
  · have h4 : (wr.setCell ⟨B + 2, szs.length, none⟩ (.float .f64 (floatOfInt .f64 (s : Int)))).heap[B + 3]? = some (.cells (wasC tot 0 flOne 0 0 (.slice none 0 0)) 27 (0, 0)) := by
      rw [Below.heap_setCell _ _ _ _ (by show B + 3 ≠ B + 2; omega)]
      exact h.var
    refine (block_set (j := 0) h4 _).trans ?_
    unfold wasObj wasC
    simp
end Go.Proofs.Ytebniijkhjnbdaa
