/- A region that draws its order and lays slices: by what each operation lays. -/
import Derived.Test.YtipfccfjniglbaaGreatDoorOpInv
import Derived.Test.YtipfccfjniglbaaGreatDoorDMakes
set_option linter.unusedSimpArgs false
set_option linter.unusedVariables false
namespace Go.Proofs.YtipfccfjniglbaaGreatDoor
open Go.RowKit Go.Maps Go.Shelf
open Go.Lib hiding intOf size_eq
/-- what an operation lays: a value, a slice of entries, a slice of changes -/
inductive KV
  | lit (v : Value)
  | ents (L : List Ent)
  | chgs (C : List Chg)
def KV.pv : KV → Value → World → Prop
  | .lit x, v, _ => v = x
  | .ents L, v, w => EntsAt w v L
  | .chgs C, v, w => ChgsAt w v C
theorem KV.mono {w w' : World} (hb : Below w.heap.size w w') {v : Value} : ∀ {k : KV}, k.pv v w → k.pv v w'
  | .lit _, h => h
  | .ents _, h => EntsAt.below h hb (Nat.le_refl _)
  | .chgs _, h => ItemsAt.below h hb (Nat.le_refl _)
/-- what is known while such a region runs -/
structure VInv (w0 : World) (a0 : Act) (keep : Nat → Bool) (n : Nat) (d : Nat → Nat) (T : Nat → KV) (f : Nat → Bool) (a : Act) (w : World) : Prop where
  defers : a.defers = a0.defers
  size : a.tmps.size = a0.tmps.size
  kept : ∀ k, keep k = true → a.tmps[k]?.getD undef = a0.tmps[k]?.getD undef
  bel : Below w0.heap.size w0 w
  pv : ∀ j, j < n → f j = true → (T j).pv (a.tmps[d j]?.getD undef) w
section
variable {w0 w w' : World} {a0 a : Act} {keep : Nat → Bool} {n : Nat} {d : Nat → Nat} {T : Nat → KV} {f : Nat → Bool}
theorem VInv.start (hf : ∀ i, i < n → f i = false) : VInv w a keep n d T f a w :=
  ⟨rfl, rfl, fun _ _ => rfl, Below.refl _ _, fun j hj h => absurd h (by simp [hf j hj])⟩
theorem VInv.step (h : VInv w0 a0 keep n d T f a w) {i : Nat} (v : Value) (hi : i < n) (hd : ∀ j, j < n → j ≠ i → d i ≠ d j) (hk : keep (d i) = false) (hz : d i < a0.tmps.size)
    (hv : (T i).pv v w') (hb : Below w.heap.size w w') : VInv w0 a0 keep n d T (tick f i) { tmps := a.tmps.setIfInBounds (d i) v, defers := a.defers } w' := by
  refine ⟨h.defers, by simpa using h.size, fun k hkk => ?_, h.bel.trans (hb.mono h.bel.size), fun j hj hfj => ?_⟩
  · rw [← h.kept k hkk]
    exact slot_ne fun e => by rw [e, hkk] at hk; cases hk
  · by_cases e : j = i
    · subst e
      rw [show ({ tmps := a.tmps.setIfInBounds (d j) v, defers := a.defers } : Act).tmps[d j]?.getD undef = v from slot_eq (by rw [h.size]; exact hz)]
      exact hv
    · have hfj2 : f j = true := by unfold tick at hfj; rwa [if_neg e] at hfj
      rw [show ({ tmps := a.tmps.setIfInBounds (d i) v, defers := a.defers } : Act).tmps[d j]?.getD undef = a.tmps[d j]?.getD undef from slot_ne (hd j hj e)]
      exact KV.mono hb (h.pv j hj hfj2)
end
theorem items_of_blk {α : Type} {enc : α → List Value} {sz : Nat} (hz : ∀ e, (enc e).length = sz) {W : World} {b : Nat} {T : TypeId} {L : List α} (h : W.heap[b]? = some (.cells (L.flatMap enc).toArray T (0, 0))) (hl : L.length ≤ maxLen) : ItemsAt enc sz W (.slice (some ⟨b, 0, none⟩) L.length L.length) L := by
  refine ⟨_, _, rfl, Nat.le_refl _, hl, fun i e he => ⟨_, rfl, heap_lt h, fun j x hx => ?_⟩⟩
  rw [gadd_new, gadd_new, Nat.zero_add]
  have := gflat_get hz he hx
  refine block_cell h ?_
  simpa using this
theorem entC_len (e : Ent) : (entC e).length = 5 := rfl
theorem ents_block {W : World} {b : Nat} {T : TypeId} {cs : Array Value} {L : List Ent} (n : Nat) (h : W.heap[b]? = some (.cells cs T (0, 0))) (hc : cs = (L.flatMap entC).toArray) (hn : L.length = n) (hl : L.length ≤ 1099511627776) : EntsAt W (.slice (some ⟨b, 0, none⟩) n n) L := by
  subst hn hc
  exact (items_of_blk entC_len h (by unfold maxLen; omega) : ItemsAt entC 5 W _ L)
theorem chgs_block {W : World} {b : Nat} {T : TypeId} {cs : Array Value} {L : List Chg} (n : Nat) (h : W.heap[b]? = some (.cells cs T (0, 0))) (hc : cs = (L.flatMap chgC).toArray) (hn : L.length = n) (hl : L.length ≤ 1099511627776) : ChgsAt W (.slice (some ⟨b, 0, none⟩) n n) L := by
  subst hn hc
  exact items_of_blk chgC_len h (by unfold maxLen; omega)
end Go.Proofs.YtipfccfjniglbaaGreatDoor
