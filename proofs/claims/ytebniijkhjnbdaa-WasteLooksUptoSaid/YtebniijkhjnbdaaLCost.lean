/- The map of costs in memory. -/
import Derived.Test.YtebniijkhjnbdaaLPlain
import Derived.Test.YtebniijkhjnbdaaGRows
import Derived.Test.YtebniijkhjnbdaaProg
import Derived.Maps.RangeWalk
import Derived.Maps.OwnSet
set_option linter.unusedSimpArgs false
set_option linter.unusedVariables false
namespace Go.Proofs.Ytebniijkhjnbdaa
open Go.RowKit Go.Maps
theorem Try.keyed_str : Keyed Try.prog 9 := string_keyed Try.underlying9
theorem Try.zero_cost (w : World) : (zeroValue 56).run Try.prog w = .ok (.pointer none) w := by kernel_rfl
/-- a pointer as a map's element reads -/
def ptrE : Value → Option (DataW Nat × List MemPlace)
  | .pointer (some ⟨b, 0, none⟩) => some (.lit (.int .i64 (b : Int)), [])
  | .pointer none => some (.nil, [])
  | _ => none
def ptrV : Option Nat → Value
  | none => .pointer none
  | some b => .pointer (some ⟨b, 0, none⟩)
def ptrD : Option Nat → DataW Nat
  | none => .nil
  | some b => .lit (.int .i64 (b : Int))
theorem ptrE_v (o : Option Nat) : ptrE (ptrV o) = some (ptrD o, []) := by cases o <;> rfl
theorem ptrE_shape {v : Value} {y : DataW Nat × List MemPlace} (h : ptrE v = some y) : ∃ o, v = ptrV o ∧ y = (ptrD o, []) := by
  unfold ptrE at h
  split at h
  · exact ⟨some _, rfl, (Option.some.inj h).symm⟩
  · exact ⟨none, rfl, (Option.some.inj h).symm⟩
  · cases h
theorem ptrD_inj {a b : Option Nat} (h : ptrD a = ptrD b) : a = b := by
  cases a <;> cases b <;> simp [ptrD] at h ⊢
  omega
theorem ptrE_inv {v : Value} {o : Option Nat} {ps : List MemPlace} (h : ptrE v = some (ptrD o, ps)) : v = ptrV o := by
  obtain ⟨o', rfl, e⟩ := ptrE_shape h
  injection e with e1 _
  rw [ptrD_inj e1]
def costC (x : Cost) : Array Value := #[.int .i64 (x.t : Int), .int .i64 (x.all : Int), .int .i64 (x.now : Int)]
def costObj (x : Cost) : Obj := .cells (costC x) 59 (0, 0)
theorem key_text {c : ByteArray} (hc : c.size ≤ maxLen) : keyOf Try.prog 9 (.string c) = some (.string c.data.toList) := WideMaps.keyOf_string_mk Try.underlying9 hc
theorem key_inv {key : Value} {kl : Lit} (h : keyOf Try.prog 9 key = some kl) : ∃ x : ByteArray, key = .string x ∧ kl = .string x.data.toList ∧ x.size ≤ maxLen := by
  cases key <;> simp [keyOf, Try.underlying9, mapKey] at h
  rename_i s
  refine ⟨s, rfl, h.2.symm, ?_⟩
  have := h.1
  simpa [Lit.wf] using this
/-- what the map of costs reads as -/
structure CostD (D : DataW Nat) (bl : List UInt8 → Nat) (f : List UInt8 → Option Cost) : Prop where
  at_ : ∀ c, D.atKey (.string c) .nil = ptrD ((f c).map fun _ => bl c)
  has : ∀ k, Maps.has D k = true → ∃ c, k = .string c ∧ f c ≠ none
theorem CostD.conv {D : DataW Nat} {bl : List UInt8 → Nat} {f : List UInt8 → Option Cost} (h : CostD D bl f) {c : List UInt8} (hc : f c ≠ none) : Maps.has D (.string c) = true := by
  cases hh : Maps.has D (.string c) with
  | true => rfl
  | false =>
    have h1 := h.at_ c
    rw [Maps.atKey_of_not_has hh] at h1
    cases hf : f c with
    | none => exact absurd hf hc
    | some x => rw [hf] at h1; cases h1
theorem CostD.congr {D : DataW Nat} {bl : List UInt8 → Nat} {f g : List UInt8 → Option Cost} (h : CostD D bl f) (he : ∀ c, (g c = none ↔ f c = none)) : CostD D bl g := by
  refine ⟨fun c => ?_, fun k hk => ?_⟩
  · rw [h.at_ c]
    have := he c
    cases hf : f c <;> cases hg : g c
    · rfl
    · rw [hf, hg] at this; simp at this
    · rw [hf, hg] at this; simp at this
    · rfl
  · obtain ⟨c, h1, h2⟩ := h.has k hk
    exact ⟨c, h1, fun e => h2 ((he c).1 e)⟩
/-- the costs stand -/
structure CostsAt (w : World) (bm B n : Nat) (D : DataW Nat) (bl : List UInt8 → Nat) (f : List UInt8 → Option Cost) : Prop where
  map : w.ownsMap Try.prog 9 ptrE bm n D
  cd : CostD D bl f
  obj : ∀ c x, f c = some x → w.heap[bl c]? = some (costObj x)
  lo : ∀ c x, f c = some x → B ≤ bl c
  inj : ∀ c d x y, f c = some x → f d = some y → bl c = bl d → c = d
theorem ownsMap_block {w w' : World} {m n : Nat} {D : DataW Nat} (h : w.ownsMap Try.prog 9 ptrE m n D) (hb : w'.heap[m]? = w.heap[m]?) : w'.ownsMap Try.prog 9 ptrE m n D := by
  obtain ⟨es, clock, h1, h2⟩ := h
  exact ⟨es, clock, hb.trans h1, h2⟩
theorem CostsAt.keep {w w' : World} {bm B n : Nat} {D : DataW Nat} {bl : List UInt8 → Nat} {f : List UInt8 → Option Cost} (h : CostsAt w bm B n D bl f) (hb : ∀ b, b < w.heap.size → B ≤ b ∨ b = bm → w'.heap[b]? = w.heap[b]?) : CostsAt w' bm B n D bl f :=
  ⟨ownsMap_block h.map (hb bm h.map.lt (.inr rfl)), h.cd, fun c x hx => (hb _ (heap_lt (h.obj c x hx)) (.inl (h.lo c x hx))).trans (h.obj c x hx), h.lo, h.inj⟩
theorem CostsAt.below {w w' : World} {bm B n : Nat} {D : DataW Nat} {bl : List UInt8 → Nat} {f : List UInt8 → Option Cost} (h : CostsAt w bm B n D bl f) (hb : Below w.heap.size w w') : CostsAt w' bm B n D bl f := h.keep fun b hl _ => hb.block b hl
theorem CostsAt.look {w : World} {bm B n : Nat} {D : DataW Nat} {bl : List UInt8 → Nat} {f : List UInt8 → Option Cost} (h : CostsAt w bm B n D bl f) {c : ByteArray} (hc : c.size ≤ maxLen) :
    (Instr.lookup 54 (.map (some bm)) (.string c) false).run Try.prog w = .ok (ptrV ((f c.data.toList).map fun _ => bl c.data.toList)) w := by
  obtain ⟨v, ps, h1, h2⟩ := h.map.lookup Try.keyed_str Try.underlying54 (Try.zero_cost w) (zd := .nil) (zp := []) rfl (key_text hc)
  rw [h1]
  rw [h.cd.at_] at h2
  rw [ptrE_inv h2]
/-- the law of a look-up in such a map, for the walk -/
theorem wpList_lookup_cost {w : World} {ops : Array Oper} {rest : List Oper} {o : Oper} {a : Act} {Q : Exit → Act → World → Prop}
    (hg : o.guard = none) (m x : Operand) (hop : o.op = Op.lookup 54 m x false)
    (bm B n : Nat) (D : DataW Nat) (bl : List UInt8 → Nat) (f : List UInt8 → Option Cost) (hm : a.eval m = .map (some bm)) (h : CostsAt w bm B n D bl f) (c : ByteArray) (hx : a.eval x = .string c) (hc : c.size ≤ maxLen)
    (hK : wpList Try.prog ops Q rest (a.put o.dst (ptrV ((f c.data.toList).map fun _ => bl c.data.toList))) w) :
    wpList Try.prog ops Q (o :: rest) a w := by
  refine wpList_plain hg fun K' hK' => ?_
  unfold Oper.wp
  simp [execOp, hop, hm, hx, h.look hc, Result.andThen]
  exact hK' _ _ hK
/-- a new path -/
def fPut (f : List UInt8 → Option Cost) (q : List UInt8) (y : Cost) : List UInt8 → Option Cost := fun c => if c = q then some y else f c
def bPut (bl : List UInt8 → Nat) (q : List UInt8) (b : Nat) : List UInt8 → Nat := fun c => if c = q then b else bl c
theorem CostD.put {D : DataW Nat} {bl : List UInt8 → Nat} {f : List UInt8 → Option Cost} (h : CostD D bl f) (hD : Maps.IsMap D) (q : List UInt8) (y : Cost) (b : Nat) : CostD (D.put (.string q) (ptrD (some b))) (bPut bl q b) (fPut f q y) := by
  refine ⟨fun c => ?_, fun k hk => ?_⟩
  · unfold fPut bPut
    by_cases hc : c = q
    · subst hc
      rw [Maps.atKey_put_same hD (show WideAt.IsKeyLit (Lit.string c) from trivial), if_pos rfl, if_pos rfl]
      rfl
    · rw [Maps.atKey_put_other (by intro x; exact hc (by injection x)), if_neg hc, if_neg hc]
      exact h.at_ c
  · unfold fPut
    by_cases hc : k = .string q
    · exact ⟨_, hc, by rw [if_pos rfl]; simp⟩
    · rw [Maps.has_put_other hc] at hk
      obtain ⟨c, rfl, h2⟩ := h.has k hk
      exact ⟨c, rfl, by rw [if_neg (fun x => hc (by rw [x]))]; exact h2⟩
theorem CostsAt.isMap {w : World} {bm B n : Nat} {D : DataW Nat} {bl : List UInt8 → Nat} {f : List UInt8 → Option Cost} (h : CostsAt w bm B n D bl f) : Maps.IsMap D := by
  obtain ⟨es, rfl, _⟩ := h.map.entries Try.keyed_str
  exact ⟨es, rfl⟩
/-- a cost is written -/
theorem CostsAt.set {w w' : World} {bm B n : Nat} {D : DataW Nat} {bl : List UInt8 → Nat} {f : List UInt8 → Option Cost} (h : CostsAt w bm B n D bl f) {q : List UInt8} {x : Cost} (hq : f q = some x) (y : Cost)
    (hn : w'.heap[bl q]? = some (costObj y)) (hs : ∀ b, b < w.heap.size → b ≠ bl q → w'.heap[b]? = w.heap[b]?) : CostsAt w' bm B n D bl (fPut f q y) := by
  have hmne : bm ≠ bl q := fun e => by
    obtain ⟨es, clock, h1, _⟩ := h.map
    rw [e, h.obj q x hq] at h1
    cases h1
  refine ⟨ownsMap_block h.map (hs bm h.map.lt hmne), h.cd.congr fun c => ?_, fun c z hz => ?_, fun c z hz => ?_, fun c d z z' h1 h2 e => ?_⟩
  · unfold fPut
    by_cases hc : c = q
    · subst hc; rw [if_pos rfl, hq]; simp
    · rw [if_neg hc]
  · unfold fPut at hz
    by_cases hc : c = q
    · subst hc; rw [if_pos rfl] at hz; injection hz with hz; subst hz; exact hn
    · rw [if_neg hc] at hz
      rw [hs _ (heap_lt (h.obj c z hz)) (fun e => hc (h.inj c q z x hz hq e))]
      exact h.obj c z hz
  · unfold fPut at hz
    by_cases hc : c = q
    · subst hc; exact h.lo c x hq
    · rw [if_neg hc] at hz; exact h.lo c z hz
  · have key : ∀ c z, fPut f q y c = some z → ∃ z', f c = some z' := fun c z hz => by
      unfold fPut at hz
      by_cases hc : c = q
      · subst hc; exact ⟨x, hq⟩
      · rw [if_neg hc] at hz; exact ⟨z, hz⟩
    obtain ⟨z1, k1⟩ := key c z h1
    obtain ⟨z2, k2⟩ := key d z' h2
    exact h.inj c d z1 z2 k1 k2 e
/-- a new path is laid: its block, then the map -/
theorem CostsAt.add {w w1 w' : World} {bm B n : Nat} {D : DataW Nat} {bl : List UInt8 → Nat} {f : List UInt8 → Option Cost} (h : CostsAt w bm B n D bl f) {q : List UInt8} (hq : f q = none) (y : Cost) {b : Nat}
    (hb : w.heap.size ≤ b) (hB : B ≤ b) (hm : w'.ownsMap Try.prog 9 ptrE bm (n + 1) (D.put (.string q) (ptrD (some b))))
    (hn : w'.heap[b]? = some (costObj y)) (hs : ∀ k, k < w.heap.size → k ≠ bm → w'.heap[k]? = w.heap[k]?) : CostsAt w' bm B (n + 1) (D.put (.string q) (ptrD (some b))) (bPut bl q b) (fPut f q y) := by
  have hne : ∀ c x, f c = some x → bl c ≠ bm := fun c x hx e => by
    obtain ⟨es, clock, h1, _⟩ := h.map
    rw [← e, h.obj c x hx] at h1
    cases h1
  refine ⟨hm, h.cd.put h.isMap q y b, fun c z hz => ?_, fun c z hz => ?_, fun c d z z' h1 h2 e => ?_⟩
  · unfold fPut at hz
    unfold bPut
    by_cases hc : c = q
    · rw [if_pos hc] at hz ⊢; injection hz with hz; subst hz; exact hn
    · rw [if_neg hc] at hz ⊢
      rw [hs _ (heap_lt (h.obj c z hz)) (hne c z hz)]
      exact h.obj c z hz
  · unfold fPut at hz
    unfold bPut
    by_cases hc : c = q
    · rw [if_pos hc]; exact hB
    · rw [if_neg hc] at hz ⊢; exact h.lo c z hz
  · unfold fPut at h1 h2
    unfold bPut at e
    by_cases hc : c = q <;> by_cases hd : d = q
    · rw [hc, hd]
    · rw [if_neg hd] at h2
      rw [if_pos hc, if_neg hd] at e
      have := heap_lt (h.obj d z' h2)
      omega
    · rw [if_neg hc] at h1
      rw [if_neg hc, if_pos hd] at e
      have := heap_lt (h.obj c z h1)
      omega
    · rw [if_neg hc] at h1
      rw [if_neg hd] at h2
      rw [if_neg hc, if_neg hd] at e
      exact h.inj c d z z' h1 h2 e
/-- nothing but cost blocks has turned -/
structure Oth (w w' : World) (bl : List UInt8 → Nat) (f : List UInt8 → Option Cost) : Prop where
  os : w'.os = w.os
  tape : w'.tape = w.tape
  output : w'.output = w.output
  size : w.heap.size ≤ w'.heap.size
  block : ∀ b, b < w.heap.size → (∀ c x, f c = some x → bl c ≠ b) → w'.heap[b]? = w.heap[b]?
/-- while what is below d goes -/
structure GoneAt (w0 w : World) (bm B r n : Nat) (D : DataW Nat) (bl : List UInt8 → Nat) (f : List UInt8 → Option Cost) (d : List UInt8) (left : Lit → Bool) (cnt : Nat) : Prop where
  rg : w.ranges Try.prog 9 ptrE bm r n D left cnt
  r0 : w0.heap.size ≤ r
  bm0 : bm < w0.heap.size
  cd : CostD D bl f
  obj : ∀ c x, f c = some x → w.heap[bl c]? = some (costObj (if left (.string c) = false ∧ hits d c = true then ⟨x.t, x.all, 0⟩ else x))
  old : ∀ c x, f c = some x → bl c < w0.heap.size
  lo : ∀ c x, f c = some x → B ≤ bl c
  inj : ∀ c d x y, f c = some x → f d = some y → bl c = bl d → c = d
  oth : Oth w0 w bl f
def goneF (f : List UInt8 → Option Cost) (d : List UInt8) : List UInt8 → Option Cost := fun c => (f c).map fun x => if hits d c = true then ⟨x.t, x.all, 0⟩ else x
theorem GoneAt.start {w0 w : World} {bm B n : Nat} {D : DataW Nat} {bl : List UInt8 → Nat} {f : List UInt8 → Option Cost} (h : CostsAt w0 bm B n D bl f) (d : List UInt8) {cnt : Nat} (hr : w.ranges Try.prog 9 ptrE bm w0.heap.size n D (Maps.has D) cnt) (hg : w0.grownBy w none) : GoneAt w0 w bm B w0.heap.size n D bl f d (Maps.has D) cnt := by
  refine ⟨hr, Nat.le_refl _, h.map.lt, h.cd, fun c x hx => ?_, fun c x hx => heap_lt (h.obj c x hx), h.lo, h.inj, ⟨hg.os, hg.tape, hg.output, hg.size, fun b hb _ => hg.block b hb (by simp)⟩⟩
  rw [hg.block _ (heap_lt (h.obj c x hx)) (by simp), h.obj c x hx, if_neg]
  rintro ⟨h1, _⟩
  rw [h.cd.conv (by rw [hx]; simp)] at h1
  cases h1
theorem GoneAt.done {w0 w : World} {bm B r n : Nat} {D : DataW Nat} {bl : List UInt8 → Nat} {f : List UInt8 → Option Cost} {d : List UInt8} {left : Lit → Bool} {cnt : Nat} (h : GoneAt w0 w bm B r n D bl f d left cnt) (hl : ∀ kl, left kl = false) : CostsAt w bm B n D bl (goneF f d) := by
  have key : ∀ c z, goneF f d c = some z → ∃ x, f c = some x ∧ z = if hits d c = true then ⟨x.t, x.all, 0⟩ else x := fun c z hz => by
    unfold goneF at hz
    obtain ⟨x, h1, h2⟩ := Option.map_eq_some_iff.1 hz
    exact ⟨x, h1, h2.symm⟩
  refine ⟨h.rg.owns, h.cd.congr fun c => by unfold goneF; simp, fun c z hz => ?_, fun c z hz => ?_, fun c e z z' h1 h2 he => ?_⟩
  · obtain ⟨x, h1, rfl⟩ := key c z hz
    rw [h.obj c x h1]
    simp [hl]
  · obtain ⟨x, h1, _⟩ := key c z hz
    exact h.lo c x h1
  · obtain ⟨x, k1, _⟩ := key c z h1
    obtain ⟨y, k2, _⟩ := key e z' h2
    exact h.inj c e x y k1 k2 he
/-- an entry has come -/
theorem GoneAt.came {w0 w : World} {bm B r n : Nat} {D : DataW Nat} {bl : List UInt8 → Nat} {f : List UInt8 → Option Cost} {d : List UInt8} {left : Lit → Bool} {cnt : Nat} (h : GoneAt w0 w bm B r n D bl f d left cnt)
    {x : ByteArray} {o : Option Nat} {y : DataW Nat × List MemPlace} (hl : left (.string x.data.toList) = true) (hv : ptrE (ptrV o) = some y) (hat : ∀ zd, D.atKey (.string x.data.toList) zd = y.1) :
    ∃ c, f x.data.toList = some c ∧ o = some (bl x.data.toList) ∧ w.heap[bl x.data.toList]? = some (costObj c) := by
  have h1 := Maps.has_true_of_atKey hat
  obtain ⟨c, e, hc⟩ := h.cd.has _ h1
  injection e with e
  subst e
  cases hf : f x.data.toList with
  | none => exact absurd hf hc
  | some z =>
    have h2 := h.cd.at_ x.data.toList
    rw [hat, hf] at h2
    rw [ptrE_v] at hv
    injection hv with hv
    rw [← hv] at h2
    refine ⟨z, rfl, ptrD_inj h2, ?_⟩
    rw [h.obj _ z hf, if_neg]
    rintro ⟨h3, _⟩
    rw [hl] at h3
    cases h3
/-- .. and is passed -/
theorem GoneAt.step {w0 w w1 w2 : World} {bm B r n : Nat} {D : DataW Nat} {bl : List UInt8 → Nat} {f : List UInt8 → Option Cost} {d q : List UInt8} {left : Lit → Bool} {cnt cnt1 : Nat} (h : GoneAt w0 w bm B r n D bl f d left cnt)
    (hr : w1.ranges Try.prog 9 ptrE bm r n D (fun z => left z && !z.sameKey (.string q)) cnt1) (hg : w.grownBy w1 (some r)) {c : Cost} (hc : f q = some c) (hl : left (.string q) = true)
    (ho : w2.os = w1.os ∧ w2.tape = w1.tape ∧ w2.output = w1.output ∧ w1.heap.size ≤ w2.heap.size) (hs : ∀ b, b < w1.heap.size → b ≠ bl q → w2.heap[b]? = w1.heap[b]?)
    (hn : w2.heap[bl q]? = some (costObj (if hits d q = true then ⟨c.t, c.all, 0⟩ else c))) : GoneAt w0 w2 bm B r n D bl f d (fun z => left z && !z.sameKey (.string q)) cnt1 := by
  have ne1 : bm ≠ bl q := fun e => by
    obtain ⟨es, clock, h1, _⟩ := h.rg.owns
    rw [e, h.obj q c hc] at h1
    cases h1
  have ne2 : r ≠ bl q := fun e => by
    have := h.old q c hc
    have := h.r0
    omega
  have hr2 : w2.ranges Try.prog 9 ptrE bm r n D (fun z => left z && !z.sameKey (.string q)) cnt1 := by
    have g : w1.grownBy w2 (some (bl q)) := ⟨ho.1, ho.2.1, ho.2.2.1, ho.2.2.2, fun i hi hne => hs i hi (fun e => hne (by rw [e]))⟩
    exact hr.kept g (fun e => ne1 (Option.some.inj e)) (fun e => ne2 (Option.some.inj e))
  refine ⟨hr2, h.r0, h.bm0, h.cd, fun k x hx => ?_, h.old, h.lo, h.inj, ⟨ho.1.trans (hg.os.trans h.oth.os), ho.2.1.trans (hg.tape.trans h.oth.tape), ho.2.2.1.trans (hg.output.trans h.oth.output), Nat.le_trans h.oth.size (Nat.le_trans hg.size ho.2.2.2), fun b hb hne => ?_⟩⟩
  · by_cases hk : k = q
    · subst hk
      rw [hc] at hx
      injection hx with hx
      subst hx
      rw [hn]
      have : (left (.string k) && !(Lit.string k).sameKey (.string k)) = false := by
        rw [WideAt.sameKey_self (show WideAt.IsKeyLit (Lit.string k) from trivial)]
        simp
      simp [this]
    · have hbk : bl k ≠ bl q := fun e => hk (h.inj k q x c hx hc e)
      have hlt := h.old k x hx
      have hsz := h.oth.size
      have hrk : bl k ≠ r := fun e => by have := h.r0; omega
      rw [hs _ (Nat.lt_of_lt_of_le hlt (Nat.le_trans hsz hg.size)) hbk, hg.block _ (Nat.lt_of_lt_of_le hlt hsz) (fun e => hrk (Option.some.inj e)), h.obj k x hx]
      have : (Lit.string k).sameKey (.string q) = false := by
        cases hh : (Lit.string k).sameKey (.string q) with
        | false => rfl
        | true => have := WideAt.sameKey_eq hh; injection this with e; exact absurd e hk
      rw [this]
      simp
  · have hsz := h.oth.size
    rw [hs b (Nat.lt_of_lt_of_le hb (Nat.le_trans hsz hg.size)) (fun e => hne q c hc e.symm), hg.block b (Nat.lt_of_lt_of_le hb hsz) (fun e => by have := h.r0; have := Option.some.inj e; omega)]
    exact h.oth.block b hb hne
/-- a cost block's cells -/
theorem cost_cell {w : World} {b : Nat} {x : Cost} (h : w.heap[b]? = some (costObj x)) : w.cell? ⟨b, 0, none⟩ = some (.int .i64 (x.t : Int)) ∧ w.cell? ⟨b, 1, none⟩ = some (.int .i64 (x.all : Int)) ∧ w.cell? ⟨b, 2, none⟩ = some (.int .i64 (x.now : Int)) ∧ (∀ j, w.frozen? ⟨b, j, none⟩ = false) := by
  have e := h
  unfold costObj costC at e
  refine ⟨?_, ?_, ?_, fun j => ?_⟩
  · unfold World.cell?; rw [e]; rfl
  · unfold World.cell?; rw [e]; rfl
  · unfold World.cell?; rw [e]; rfl
  · unfold World.frozen?; rw [e]; simp
end Go.Proofs.Ytebniijkhjnbdaa
