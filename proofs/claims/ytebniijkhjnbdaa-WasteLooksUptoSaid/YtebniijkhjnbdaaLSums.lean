/- waste.Look's second loop: what stands where. -/
import Derived.Test.YtebniijkhjnbdaaLLookA
set_option linter.unusedSimpArgs false
set_option linter.unusedVariables false
namespace Go.Proofs.Ytebniijkhjnbdaa
open Go.RowKit Go.Maps
def leastV (f : List UInt8 → Option Cost) (V : List (List UInt8)) : Nat := (V.map fun c => ((f c).getD ⟨0, 0, 0⟩).now).sum
def lostOne (f : List UInt8 → Option Cost) (c : List UInt8) : List LostB := match f c with
  | none => []
  | some x => if x.now < x.all then [⟨bs c, x.t, x.all - x.now⟩] else []
def lostV (f : List UInt8 → Option Cost) (V : List (List UInt8)) : List LostB := V.flatMap (lostOne f)
theorem leastV_snoc {f : List UInt8 → Option Cost} {V : List (List UInt8)} {c : List UInt8} {x : Cost} (h : f c = some x) : leastV f (V ++ [c]) = leastV f V + x.now := by
  unfold leastV
  rw [List.map_append, List.sum_append]
  simp [h]
theorem lostV_snoc {f : List UInt8 → Option Cost} {V : List (List UInt8)} {c : List UInt8} {x : Cost} (h : f c = some x) : lostV f (V ++ [c]) = lostV f V ++ (if x.now < x.all then [⟨bs c, x.t, x.all - x.now⟩] else []) := by
  unfold lostV
  rw [List.flatMap_append, List.flatMap_singleton]
  unfold lostOne
  rw [h]
theorem lostV_le (f : List UInt8 → Option Cost) (V : List (List UInt8)) : (lostV f V).length ≤ V.length := by
  unfold lostV
  induction V with
  | nil => exact Nat.le_refl _
  | cons c r ih =>
    rw [List.flatMap_cons, List.length_append, List.length_cons]
    have : (lostOne f c).length ≤ 1 := by
      unfold lostOne
      split
      · simp
      · split <;> simp
    omega
theorem ranges_blocks {w w' : World} {b r n : Nat} {D : DataW Nat} {left : Lit → Bool} {cnt : Nat} (h : w.ranges Try.prog 9 ptrE b r n D left cnt) (h1 : w'.heap[b]? = w.heap[b]?) (h2 : w'.heap[r]? = w.heap[r]?) : w'.ranges Try.prog 9 ptrE b r n D left cnt := by
  obtain ⟨es, clock, since, seen, c0, hb, F, hs, hD, hr, rest⟩ := h
  exact ⟨es, clock, since, seen, c0, h1.trans hb, F, hs, hD, h2.trans hr, rest⟩
/-- while the costs are summed -/
structure SumJ (w w0 W : World) (B n r : Nat) (bl : List UInt8 → Nat) (f : List UInt8 → Option Cost) (tot : Nat) (szs : List Nat) (le : Nat) (vw : Value) (R : List LostB) : Prop where
  b4 : B + 4 ≤ w0.heap.size
  r0 : w0.heap.size ≤ r
  r1 : r < W.heap.size
  bel : Below B w W
  res : W.heap[B]? = some (wasObj 0 0 0 0 0 (.slice none 0 0))
  obj : ∀ c x, f c = some x → W.heap[bl c]? = some (costObj x) ∧ B + 4 ≤ bl c ∧ bl c < w0.heap.size
  siz : ∃ cur : Array Value, W.heap[B + 2]? = some (.cells cur 24 (0, 0)) ∧ cur.size = n ∧ ∀ (j x : Nat), szs[j]? = some x → cur[j]? = some (Value.float FloatKind.f64 (Fl.fl x))
  var : W.heap[B + 3]? = some (wasObj tot le flOne 0 0 vw)
  row : W.ownsRow (r + 1) 36 3 vw R.length (R.flatMap lostC)
  nil : R.length = 0 → vw = .slice none 0 0
theorem SumJ.start {w w0 w1 : World} {B n tot N : Nat} {D : DataW Nat} {bl : List UInt8 → Nat} {done : List Cw} {szs : List Nat} {cnt : Nat} (h : LookI w w0 B n done tot szs) (hc : CostsAt w0 (B + 1) (B + 4) N D bl (getM (costsM done)))
    (hr : w1.ranges Try.prog 9 ptrE (B + 1) w0.heap.size N D (Maps.has D) cnt) (hg : w0.grownBy w1 none) (hs : w1.heap.size = w0.heap.size + 1) : SumJ w w0 w1 B n w0.heap.size bl (getM (costsM done)) tot szs 0 (.slice none 0 0) [] := by
  obtain ⟨cur, h1, h2, h3⟩ := h.siz
  have keep : ∀ k o, w0.heap[k]? = some o → w1.heap[k]? = some o := fun k o hk => (hg.block k (heap_lt hk) (by simp)).trans hk
  refine ⟨heap_lt h.var, Nat.le_refl _, by omega, ⟨hg.os.trans h.bel.os, hg.tape.trans h.bel.tape, hg.output.trans h.bel.output, Nat.le_trans h.bel.size hg.size, fun k hk => ?_⟩, keep _ _ h.res, fun c x hx => ⟨keep _ _ (hc.obj c x hx), hc.lo c x hx, heap_lt (hc.obj c x hx)⟩, ⟨cur, keep _ _ h1, h2, h3⟩, keep _ _ h.var, World.ownsRow_nil _ _ _ _, fun _ => rfl⟩
  have h5 := heap_lt h.res
  exact (hg.block k (by omega) (by simp)).trans (h.bel.block k hk)
theorem SumJ.step {w w0 W W' : World} {B n r : Nat} {bl : List UInt8 → Nat} {f : List UInt8 → Option Cost} {tot le le' : Nat} {szs : List Nat} {vw vw' : Value} {R R' : List LostB} (h : SumJ w w0 W B n r bl f tot szs le vw R)
    (ho : W'.os = W.os ∧ W'.tape = W.tape ∧ W'.output = W.output ∧ W.heap.size ≤ W'.heap.size) (hs : ∀ k, k < W.heap.size → k < r → k ≠ B + 3 → W'.heap[k]? = W.heap[k]?)
    (hv : W'.heap[B + 3]? = some (wasObj tot le' flOne 0 0 vw')) (hrow : W'.ownsRow (r + 1) 36 3 vw' R'.length (R'.flatMap lostC)) (hnil : R'.length = 0 → vw' = .slice none 0 0) : SumJ w w0 W' B n r bl f tot szs le' vw' R' := by
  obtain ⟨cur, h1, h2, h3⟩ := h.siz
  have b4 := h.b4
  have r0 := h.r0
  refine ⟨h.b4, h.r0, Nat.lt_of_lt_of_le h.r1 ho.2.2.2, ⟨ho.1.trans h.bel.os, ho.2.1.trans h.bel.tape, ho.2.2.1.trans h.bel.output, Nat.le_trans h.bel.size ho.2.2.2, fun k hk => ?_⟩, (hs _ (heap_lt h.res) (by omega) (by omega)).trans h.res, fun c x hx => ?_, ⟨cur, (hs _ (heap_lt h1) (by omega) (by omega)).trans h1, h2, h3⟩, hv, hrow, hnil⟩
  · have h5 := heap_lt h.res
    exact (hs k (by omega) (by omega) (by omega)).trans (h.bel.block k hk)
  · obtain ⟨e1, e2, e3⟩ := h.obj c x hx
    exact ⟨(hs _ (heap_lt e1) (by omega) (by omega)).trans e1, e2, e3⟩
theorem row_keepG {W W' : World} {base size n : Nat} {e : TypeId} {v : Value} {xs : List Value} (h : W.ownsRow base e size v n xs) (hk : ∀ k, base ≤ k → k < W.heap.size → W'.heap[k]? = W.heap[k]?) : W'.ownsRow base e size v n xs := by
  obtain ⟨h1, h2⟩ := h
  refine ⟨h1, ?_⟩
  rcases h2 with h2 | ⟨g, cap, cur, a, b, c, d⟩
  · exact .inl h2
  · exact .inr ⟨g, cap, cur, a, b, (hk g b (heap_lt c)).trans c, d⟩
/-- nothing but the iterator has turned -/
theorem SumJ.passed {w w0 W W' : World} {B n r : Nat} {bl : List UInt8 → Nat} {f : List UInt8 → Option Cost} {tot le : Nat} {szs : List Nat} {vw : Value} {R : List LostB} (h : SumJ w w0 W B n r bl f tot szs le vw R) (hg : W.grownBy W' (some r)) : SumJ w w0 W' B n r bl f tot szs le vw R := by
  have b4 := h.b4
  have r0 := h.r0
  have keep : ∀ k, k < W.heap.size → k ≠ r → W'.heap[k]? = W.heap[k]? := fun k hk hne => hg.block k hk (fun e => hne (Option.some.inj e))
  exact h.step ⟨hg.os, hg.tape, hg.output, hg.size⟩ (fun k hk hr _ => keep k hk (by omega)) ((keep _ (heap_lt h.var) (by omega)).trans h.var) (row_keepG h.row fun k hk hl => keep k hl (by omega)) h.nil
theorem SumJ.drew {w w0 W : World} {B n r : Nat} {bl : List UInt8 → Nat} {f : List UInt8 → Option Cost} {tot le : Nat} {szs : List Nat} {vw : Value} {R : List LostB} (h : SumJ w w0 W B n r bl f tot szs le vw R) : SumJ w w0 W.drew B n r bl f tot szs le vw R :=
  h.step ⟨rfl, rfl, rfl, Nat.le_refl _⟩ (fun k _ _ _ => rfl) h.var h.row h.nil
theorem SumJ.least {w w0 W : World} {B n r : Nat} {bl : List UInt8 → Nat} {f : List UInt8 → Option Cost} {tot le : Nat} {szs : List Nat} {vw : Value} {R : List LostB} (h : SumJ w w0 W B n r bl f tot szs le vw R) (m : Nat) : SumJ w w0 (W.setCell ⟨B + 3, 1, none⟩ (.int .i64 ((le : Int) + (m : Int)))) B n r bl f tot szs (le + m) vw R := by
  have b4 := h.b4
  have r0 := h.r0
  refine h.step ⟨rfl, rfl, rfl, by simp⟩ (fun k _ _ hk => Below.heap_setCell _ _ _ _ hk) ?_ (row_keepG h.row fun k hk _ => Below.heap_setCell _ _ _ _ (by show k ≠ B + 3; omega)) h.nil
  refine (block_set (j := 1) h.var _).trans ?_
  unfold wasObj wasC
  simp
theorem SumJ.app {w w0 W W' : World} {B n r : Nat} {bl : List UInt8 → Nat} {f : List UInt8 → Option Cost} {tot le : Nat} {szs : List Nat} {vw v' : Value} {R : List LostB} (h : SumJ w w0 W B n r bl f tot szs le vw R) {x : LostB} (o : Obj)
    (hrow : W'.ownsRow (r + 1) 36 3 v' (R.length + 1) (R.flatMap lostC ++ lostC x)) (hg : (W.alloc o).grownBy W' vw.ownBlock) : SumJ w w0 (W'.setCell ⟨B + 3, 5, none⟩ v') B n r bl f tot szs le v' (R ++ [x]) := by
  have b4 := h.b4
  have r0 := h.r0
  have own : ∀ k, k ≤ r → some k ≠ vw.ownBlock := fun k hk e => by
    have := (World.ownsRow.lt h.row k e.symm).1
    omega
  have hsz : W.heap.size ≤ W'.heap.size := Nat.le_trans (by simp) hg.size
  have keep : ∀ k, k < W.heap.size → k ≤ r → W'.heap[k]? = W.heap[k]? := fun k hk hr => (hg.block k (by simp; omega) (own k hr)).trans (Below.heap_alloc W o k hk)
  refine h.step ⟨hg.os, hg.tape, hg.output, by simpa using hsz⟩ (fun k hk hr hne => (Below.heap_setCell _ _ _ _ hne).trans (keep k hk (by omega))) ?_ ?_ (fun e => by simp at e)
  · refine (block_set (j := 5) ((keep _ (heap_lt h.var) (by omega)).trans h.var) v').trans ?_
    unfold wasObj wasC
    simp
  · rw [List.length_append, List.length_singleton, List.flatMap_append, List.flatMap_singleton]
    exact row_keepG hrow fun k hk _ => Below.heap_setCell _ _ _ _ (by show k ≠ B + 3; omega)
theorem SumJ.appCell {w w0 W W' : World} {B n r : Nat} {bl : List UInt8 → Nat} {f : List UInt8 → Option Cost} {tot le : Nat} {szs : List Nat} {vw : Value} {R : List LostB} (h : SumJ w w0 W B n r bl f tot szs le vw R) {o : Obj} (hg : (W.alloc o).grownBy W' vw.ownBlock) :
    W'.cell? ⟨B + 3, 5, none⟩ = some vw ∧ W'.frozen? ⟨B + 3, 5, none⟩ = false ∧ ∀ k, k ≤ r → k < W.heap.size → W'.heap[k]? = W.heap[k]? := by
  have b4 := h.b4
  have r0 := h.r0
  have own : ∀ k, k ≤ r → some k ≠ vw.ownBlock := fun k hk e => by
    have := (World.ownsRow.lt h.row k e.symm).1
    omega
  have keep : ∀ k, k ≤ r → k < W.heap.size → W'.heap[k]? = W.heap[k]? := fun k hr hk => (hg.block k (by simp; omega) (own k hr)).trans (Below.heap_alloc W o k hk)
  have hv := (keep _ (by omega) (heap_lt h.var)).trans h.var
  unfold wasObj at hv
  exact ⟨block_cell hv rfl, block_frozen hv 5, keep⟩
theorem row_formG {W : World} {base n size : Nat} {e : TypeId} {v : Value} {xs : List Value} (h : W.ownsRow base e size v n xs) : ∃ o c, v = .slice o n c := by
  obtain ⟨_, h2⟩ := h
  rcases h2 with ⟨rfl, rfl⟩ | ⟨g, cap, cur, rfl, _⟩
  · exact ⟨_, _, rfl⟩
  · exact ⟨_, _, rfl⟩
/-- an entry has come -/
theorem cost_came {D : DataW Nat} {bl : List UInt8 → Nat} {f : List UInt8 → Option Cost} (h : CostD D bl f) {x : ByteArray} {o : Option Nat} {y : DataW Nat × List MemPlace} (hv : ptrE (ptrV o) = some y) (hat : ∀ zd, D.atKey (.string x.data.toList) zd = y.1) :
    ∃ c, f x.data.toList = some c ∧ o = some (bl x.data.toList) := by
  have h1 := Maps.has_true_of_atKey hat
  obtain ⟨c, e, hc⟩ := h.has _ h1
  injection e with e
  subst e
  cases hf : f x.data.toList with
  | none => exact absurd hf hc
  | some z =>
    have h2 := h.at_ x.data.toList
    rw [hat, hf] at h2
    rw [ptrE_v] at hv
    injection hv with hv
    rw [← hv] at h2
    exact ⟨z, rfl, ptrD_inj h2⟩
theorem sub_sum {α : Type} [BEq α] [LawfulBEq α] (g : α → Nat) : ∀ (V K : List α), V.Nodup → (∀ x ∈ V, x ∈ K) → (V.map g).sum ≤ (K.map g).sum
  | [], K, _, _ => Nat.zero_le _
  | a :: V, K, hn, hs => by
    have hn2 := List.nodup_cons.1 hn
    have ha := hs a (List.mem_cons_self ..)
    have e : (K.map g).sum = g a + ((K.erase a).map g).sum := by
      rw [((List.perm_cons_erase ha).map g).sum_nat, List.map_cons, List.sum_cons]
    have ih := sub_sum g V (K.erase a) hn2.2 fun x hx => (List.mem_erase_of_ne (fun e => by subst e; exact hn2.1 hx)).2 (hs x (List.mem_cons_of_mem _ hx))
    rw [List.map_cons, List.sum_cons, e]
    omega
theorem sub_length {α : Type} [BEq α] [LawfulBEq α] (V K : List α) (h : V.Nodup) (hs : ∀ x ∈ V, x ∈ K) : V.length ≤ K.length := by
  have := sub_sum (fun _ => 1) V K h hs
  have e : ∀ L : List α, (L.map fun _ => 1).sum = L.length := fun L => by
    induction L with
    | nil => rfl
    | cons a r ih => rw [List.map_cons, List.sum_cons, ih, List.length_cons]; omega
  rwa [e, e] at this
/-- what has been passed -/
structure SeenV (f : List UInt8 → Option Cost) (left : Lit → Bool) (V : List (List UInt8)) : Prop where
  nod : V.Nodup
  mem : ∀ c, c ∈ V ↔ f c ≠ none ∧ left (.string c) = false
theorem SeenV.start {D : DataW Nat} {bl : List UInt8 → Nat} {f : List UInt8 → Option Cost} (h : CostD D bl f) : SeenV f (Maps.has D) [] :=
  ⟨List.nodup_nil, fun c => ⟨fun h => (by cases h), fun ⟨a, b⟩ => by rw [h.conv a] at b; cases b⟩⟩
theorem SeenV.step {f : List UInt8 → Option Cost} {left : Lit → Bool} {V : List (List UInt8)} (h : SeenV f left V) {q : List UInt8} {x : Cost} (hq : f q = some x) (hl : left (.string q) = true) : SeenV f (fun z => left z && !z.sameKey (.string q)) (V ++ [q]) := by
  have hqV : q ∉ V := fun hm => by rw [((h.mem q).1 hm).2] at hl; cases hl
  refine ⟨?_, fun c => ?_⟩
  · rw [List.nodup_append]
    exact ⟨h.nod, by simp, fun a ha b hb => by rw [List.mem_singleton.1 hb]; exact fun e => hqV (e ▸ ha)⟩
  · rw [List.mem_append, List.mem_singleton, h.mem c]
    by_cases hc : c = q
    · subst hc
      have : (Lit.string c).sameKey (.string c) = true := WideAt.sameKey_self (show WideAt.IsKeyLit (Lit.string c) from trivial)
      simp [this, hq]
    · have : (Lit.string c).sameKey (.string q) = false := by
        cases hh : (Lit.string c).sameKey (.string q) with
        | false => rfl
        | true => have := WideAt.sameKey_eq hh; injection this with e; exact absurd e hc
      simp [this, hc]
theorem SeenV.le {l : List Cw} {left : Lit → Bool} {V : List (List UInt8)} (h : SeenV (getM (costsM l)) left V) : V.length ≤ l.length := by
  have hs : ∀ c ∈ V, c ∈ l.map (·.p) := fun c hc => by
    have := (h.mem c).1 hc
    cases hf : getM (costsM l) c with
    | none => exact absurd hf this.1
    | some y =>
      obtain ⟨z, hz, e⟩ := key_of hf
      exact List.mem_map.2 ⟨z, hz, e⟩
  have := sub_length _ _ h.nod hs
  simpa using this
theorem SeenV.perm {l : List Cw} {left : Lit → Bool} {V : List (List UInt8)} (h : SeenV (getM (costsM l)) left V) (hl : ∀ k, left k = false) : V.Perm ((costsM l).map (·.1)) := by
  refine (List.perm_ext_iff_of_nodup h.nod (costs_keys l).1).2 fun c => ?_
  rw [h.mem c]
  constructor
  · rintro ⟨h1, _⟩
    by_cases hp : c ∈ (costsM l).map (·.1)
    · exact hp
    · exact absurd (getM_none.2 hp) h1
  · intro hp
    exact ⟨fun e => getM_none.1 e hp, hl _⟩
theorem leastV_of {l : List Cw} {V : List (List UInt8)} (h : V.Perm ((costsM l).map (·.1))) : leastV (getM (costsM l)) V = leastR l := by
  unfold leastV
  rw [(h.map _).sum_nat, List.map_map, ← costs_least]
  refine congrArg List.sum (List.map_congr_left fun x hx => ?_)
  have := getM_mem (costs_keys l).1 hx
  simp [this]
theorem leastV_le {l : List Cw} {left : Lit → Bool} {V : List (List UInt8)} {q : List UInt8} {x : Cost} (h : SeenV (getM (costsM l)) left V) (hq : getM (costsM l) q = some x) (hl : left (.string q) = true) : leastV (getM (costsM l)) V + x.now ≤ totalR l := by
  have h2 := h.step hq hl
  rw [← leastV_snoc hq]
  have hsub : ∀ c ∈ V ++ [q], c ∈ (costsM l).map (·.1) := fun c hc => by
    have := ((h2.mem c).1 hc).1
    by_cases hp : c ∈ (costsM l).map (·.1)
    · exact hp
    · exact absurd (getM_none.2 hp) this
  have e2 : leastV (getM (costsM l)) ((costsM l).map (·.1)) = leastR l := leastV_of (List.Perm.refl _)
  have e3 : leastV (getM (costsM l)) (V ++ [q]) ≤ leastV (getM (costsM l)) ((costsM l).map (·.1)) := sub_sum _ _ _ h2.nod hsub
  have e4 := costs_sum l
  omega
end Go.Proofs.Ytebniijkhjnbdaa
