/- A region that draws its order, by an invariant over what has come up. -/
import Derived.Test.YtipfccfjniglbaaGreatDoorJKit
import Derived.Orders
import Derived.Below
set_option linter.unusedSimpArgs false
set_option linter.unusedVariables false
namespace Go.Proofs.YtipfccfjniglbaaGreatDoor
open Go.RowKit
section
variable {P : Program} {ops : Array Oper} {Q : Exit → Act → World → Prop} {K : Act → World → Prop}
theorem upon_then {o : Oper} {a : Act} : ∀ {r : Result Next}, o.upon P a K (Exit.then K Q) r → o.upon P a K Q r
  | .ok (.value _) _, h => h
  | .ok .skip _, h => h
  | .ok (.defer _) _, h => h
  | .ok (.enter f args) w', h => Calls.mono h fun e w'' he => by cases e <;> exact he
  | .ok (.row _ _) _, h => h
  | .halt x w', h => by cases x <;> first | exact h | (exact (h : False).elim)
/-- one operation of a region, walked as a list of one -/
theorem wpOp_list {i : Nat} {o : Oper} {a : Act} {w : World} (ho : ops[i]? = some o) (h : wpList P ops (Exit.then K Q) [o] a w) : wpOp P ops Q i K a w := by
  unfold wpOp
  rw [ho]
  unfold wpList at h
  show if Region.wanted o (yielded ops a.tmps) = true then _ else _
  split
  · rename_i hw
    rw [if_pos hw] at h
    rcases h with h | h
    · exact .inl (upon_then h)
    · exact .inr h
  · rename_i hw
    rw [if_neg hw] at h
    exact h
def flagsOf (listed : Array Bool) : Nat → Bool := fun i => listed.getD i true
def tick (f : Nat → Bool) (i : Nat) : Nat → Bool := fun j => if j = i then true else f j
theorem flags_set {listed : Array Bool} {i : Nat} (h : flagsOf listed i = false) : flagsOf (listed.setIfInBounds i true) = tick (flagsOf listed) i := by
  funext j
  unfold flagsOf tick
  by_cases hj : j = i
  · subst hj
    rw [if_pos rfl]
    unfold flagsOf at h
    have hlt : j < listed.size := by
      rcases Nat.lt_or_ge j listed.size with h' | h'
      · exact h'
      · simp [Array.getElem?_eq_none h'] at h
    simp [hlt]
  · rw [if_neg hj]
    exact getD_set_ne true (fun e => hj e.symm)
def cnt (f : Nat → Bool) : Nat → Nat
  | 0 => 0
  | n + 1 => cnt f n + (if f n = true then 0 else 1)
theorem cnt_ext {f g : Nat → Bool} : ∀ {n : Nat}, (∀ j, j < n → f j = g j) → cnt f n = cnt g n
  | 0, _ => rfl
  | n + 1, h => by
    unfold cnt
    rw [cnt_ext fun j hj => h j (by omega), h n (by omega)]
theorem cnt_tick {f : Nat → Bool} {i : Nat} (hf : f i = false) : ∀ {n : Nat}, i < n → cnt (tick f i) n + 1 = cnt f n
  | n + 1, h => by
    unfold cnt
    by_cases e : i = n
    · subst e
      rw [cnt_ext (g := f) fun j hj => by unfold tick; rw [if_neg (by omega)]]
      have : tick f i i = true := by unfold tick; rw [if_pos rfl]
      rw [this, hf]
      simp
    · have := cnt_tick hf (n := n) (by omega)
      have e2 : tick f i n = f n := by unfold tick; rw [if_neg (fun h => e h.symm)]
      rw [e2]
      omega
theorem cnt_le (f : Nat → Bool) : ∀ n, cnt f n ≤ n
  | 0 => Nat.le_refl _
  | n + 1 => by unfold cnt; have := cnt_le f n; split <;> omega
theorem cnt_zero {f : Nat → Bool} : ∀ {n : Nat}, cnt f n = 0 → ∀ j, j < n → f j = true
  | n + 1, h, j, hj => by
    unfold cnt at h
    by_cases e : j = n
    · subst e
      by_cases hf : f j = true
      · exact hf
      · rw [if_neg hf] at h; omega
    · exact cnt_zero (n := n) (by omega) j (by omega)
/-- each operation waits for earlier ones alone -/
def backB (ops : Array Oper) : Bool := (List.range ops.size).all fun i => ((ops[i]?).map fun o => o.after.all fun e => decide (e.on < i)).getD true
theorem backB_spec (h : backB ops = true) {i : Nat} {o : Oper} (ho : ops[i]? = some o) : ∀ e ∈ o.after, e.on < i := by
  unfold backB at h
  have := List.all_eq_true.1 h i (List.mem_range.2 (Array.getElem?_eq_some_iff.1 ho).1)
  rw [ho] at this
  simp only [Option.map_some, Option.getD_some, Array.all_eq_true_iff_forall_mem, decide_eq_true_eq] at this
  exact this
/-- what an operation waits for has come up -/
def Due (f : Nat → Bool) (o : Oper) : Prop := ∀ e ∈ o.after, Region.binds .any e = true → f e.on = true
theorem flags_due {listed : Array Bool} (hsz : listed.size = ops.size) (hb : backB ops = true) {j : Nat} {o : Oper} (ho : ops[j]? = some o) : Due (flagsOf listed) o ↔ ∀ e ∈ o.after, Region.binds .any e = true → listed.getD e.on false = true := by
  have hj := (Array.getElem?_eq_some_iff.1 ho).1
  have key : ∀ e ∈ o.after, flagsOf listed e.on = listed.getD e.on false := fun e he => by
    have := backB_spec hb ho e he
    unfold flagsOf
    have hlt : e.on < listed.size := by omega
    simp [hlt]
  exact ⟨fun h e he hbn => (key e he).symm.trans (h e he hbn), fun h e he hbn => (key e he).trans (h e he hbn)⟩
theorem all_listed {listed : Array Bool} (hsz : listed.size = ops.size) (hb : backB ops = true) (hr : Region.ready .any ops listed = []) : ∀ n j, j < n → j < ops.size → flagsOf listed j = true
  | n + 1, j, hj, hs => by
    by_cases hf : flagsOf listed j = true
    · exact hf
    · exfalso
      have ho : ops[j]? = some ops[j] := Array.getElem?_eq_getElem hs
      have : j ∈ Region.ready .any ops listed := mem_ready.2 ⟨by unfold flagsOf at hf; simpa using hf, _, ho, (flags_due hsz hb ho).1 fun e he hbn => by
        have := backB_spec hb ho e he
        exact all_listed hsz hb hr n e.on (by omega) (by omega)⟩
      rw [hr] at this
      cases this
variable {I : (Nat → Bool) → Act → World → Prop}
theorem any_inv (hb : backB ops = true)
    (hs : ∀ (i : Nat) (o : Oper) (f : Nat → Bool) (a : Act) (w : World), ops[i]? = some o → I f a w → f i = false → Due f o → wpOp P ops Q i (I (tick f i)) a w)
    (hf : ∀ (f : Nat → Bool) (a : Act) (w : World), I f a w → (∀ i, i < ops.size → f i = true) → Q .normal a w) :
    ∀ (fuel : Nat) (listed : Array Bool) (a : Act) (w : World), listed.size = ops.size → cnt (flagsOf listed) ops.size ≤ fuel → I (flagsOf listed) a w → wpAny P .any ops Q fuel listed a w
  | 0, listed, a, w, hsz, hc, hI => by
    have hall := cnt_zero (f := flagsOf listed) (n := ops.size) (by omega)
    refine ⟨?_, hf _ _ _ hI hall⟩
    apply List.eq_nil_iff_forall_not_mem.2
    intro i hi
    obtain ⟨h1, o, ho, _⟩ := mem_ready.1 hi
    have := hall i (Array.getElem?_eq_some_iff.1 ho).1
    unfold flagsOf at this
    rw [h1] at this
    cases this
  | fuel + 1, listed, a, w, hsz, hc, hI => by
    refine ⟨fun hr => hf _ _ _ hI fun i hi => all_listed hsz hb hr (i + 1) i (by omega) hi, fun i hi => ?_⟩
    obtain ⟨h1, o, ho, hd⟩ := mem_ready.1 hi
    have hi2 := (Array.getElem?_eq_some_iff.1 ho).1
    refine wpOp_mono (fun a' w' h' => ?_) (hs i o (flagsOf listed) a w ho hI h1 ((flags_due hsz hb ho).2 hd))
    refine any_inv hb hs hf fuel _ a' w' (by simpa using hsz) ?_ (by rw [flags_set h1]; exact h')
    rw [flags_set h1]
    have := cnt_tick (f := flagsOf listed) h1 hi2
    omega
/-- a region that draws, by an invariant over what has come up -/
theorem region_inv {id : Nat} {a : Act} {w : World} (I : (Nat → Bool) → Act → World → Prop) (hm : P.follows .mixedOrders = true) (hb : backB ops = true)
    (h0 : ∀ f : Nat → Bool, (∀ i, i < ops.size → f i = false) → I f a w.drew)
    (hs : ∀ (i : Nat) (o : Oper) (f : Nat → Bool) (a : Act) (w : World), ops[i]? = some o → I f a w → f i = false → Due f o → wpOp P ops Q i (I (tick f i)) a w)
    (hf : ∀ (f : Nat → Bool) (a : Act) (w : World), I f a w → (∀ i, i < ops.size → f i = true) → Q .normal a w) : (Code.region id ops true).wp P Q a w :=
  wp_region_any hm (any_inv hb hs hf ops.size _ a _ (by simp) (cnt_le _ _) (h0 _ fun i hi => by unfold flagsOf; simp [hi]))
theorem due_on {f : Nat → Bool} {o : Oper} (h : Due f o) (k : Nat) (hk : (o.after.toList.any fun e => e.on == k && Region.binds .any e) = true) : f k = true := by
  obtain ⟨e, he, hb⟩ := List.any_eq_true.1 hk
  simp only [Bool.and_eq_true, beq_iff_eq] at hb
  have := h e (Array.mem_toList_iff.1 he) hb.2
  rwa [hb.1] at this
end
section
theorem slot_ne {tm : Array Value} {i k : Nat} {v : Value} (h : i ≠ k) : (tm.setIfInBounds i v)[k]?.getD undef = tm[k]?.getD undef := by rw [Array.getElem?_setIfInBounds_ne h]
theorem slot_eq {tm : Array Value} {i : Nat} {v : Value} (h : i < tm.size) : (tm.setIfInBounds i v)[i]?.getD undef = v := by simp [h]
end
/-- what is known while such a region runs: each of the first n operations lays its value in its slot; the last one may write over what was there: each of the first n operations lays its value in its slot; the last one closes -/
structure OpInv (w0 : World) (a0 : Act) (keep : Nat → Bool) (n : Nat) (d : Nat → Nat) (PV : Nat → Value → World → Prop) (Fin : Act → World → Prop) (f : Nat → Bool) (a : Act) (w : World) : Prop where
  defers : a.defers = a0.defers
  size : a.tmps.size = a0.tmps.size
  kept : ∀ k, keep k = true → a.tmps[k]?.getD undef = a0.tmps[k]?.getD undef
  bel : f n = false → Below w0.heap.size w0 w
  full : f n = true → ∀ j, j < n → f j = true
  pv : f n = false → ∀ j, j < n → f j = true → PV j (a.tmps[d j]?.getD undef) w
  fin : f n = true → Fin a w
section
variable {w0 w w' : World} {a0 a : Act} {keep : Nat → Bool} {n : Nat} {d : Nat → Nat} {PV : Nat → Value → World → Prop} {Fin : Act → World → Prop} {f : Nat → Bool}
theorem OpInv.start (hf : ∀ i, i < n + 1 → f i = false) : OpInv w a keep n d PV Fin f a w :=
  ⟨rfl, rfl, fun _ _ => rfl, fun _ => Below.refl _ _, fun h => absurd h (by simp [hf n (by omega)]), fun _ j hj h => absurd h (by simp [hf j (by omega)]), fun h => absurd h (by simp [hf n (by omega)])⟩
theorem OpInv.open_ (h : OpInv w0 a0 keep n d PV Fin f a w) {i : Nat} (hi : i < n) (hfi : f i = false) : f n = false := by
  cases e : f n
  · rfl
  · have := h.full e i hi
    rw [hfi] at this
    cases this
theorem OpInv.step (h : OpInv w0 a0 keep n d PV Fin f a w) {i : Nat} (v : Value) (hi : i < n) (hfi : f i = false) (hd : ∀ j, j < n → j ≠ i → d i ≠ d j) (hk : keep (d i) = false) (hz : d i < a0.tmps.size)
    (hm : ∀ j u, PV j u w → PV j u w') (hv : PV i v w') (hb : Below w.heap.size w w') : OpInv w0 a0 keep n d PV Fin (tick f i) { tmps := a.tmps.setIfInBounds (d i) v, defers := a.defers } w' := by
  have hn := h.open_ hi hfi
  have hne : n ≠ i := by omega
  have htn : tick f i n = false := by unfold tick; rw [if_neg hne]; exact hn
  refine ⟨h.defers, by simpa using h.size, fun k hkk => ?_, fun _ => (h.bel hn).trans (hb.mono (h.bel hn).size), fun e => ?_, fun _ j hj hfj => ?_, fun e => ?_⟩
  · rw [← h.kept k hkk]
    exact slot_ne fun e => by rw [e, hkk] at hk; cases hk
  · rw [htn] at e; cases e
  · by_cases e : j = i
    · subst e
      rw [show ({ tmps := a.tmps.setIfInBounds (d j) v, defers := a.defers } : Act).tmps[d j]?.getD undef = v from slot_eq (by rw [h.size]; exact hz)]
      exact hv
    · have hfj2 : f j = true := by unfold tick at hfj; rwa [if_neg e] at hfj
      rw [show ({ tmps := a.tmps.setIfInBounds (d i) v, defers := a.defers } : Act).tmps[d j]?.getD undef = a.tmps[d j]?.getD undef from slot_ne (hd j hj e)]
      exact hm j _ (h.pv hn j hj hfj2)
  · rw [htn] at e; cases e
theorem OpInv.close (h : OpInv w0 a0 keep n d PV Fin f a w) (hall : ∀ j, j < n → f j = true) (hF : Fin a w') : OpInv w0 a0 keep n d PV Fin (tick f n) a w' := by
  have htn : tick f n n = true := by unfold tick; rw [if_pos rfl]
  refine ⟨h.defers, h.size, h.kept, fun e => ?_, fun _ j hj => ?_, fun e => ?_, fun _ => hF⟩
  · rw [htn] at e; cases e
  · unfold tick; split
    · rfl
    · exact hall j hj
  · rw [htn] at e; cases e
end
theorem arrN (n : Nat) (tm : Array Value) (h : tm.size = n) : tm = ((List.range n).map fun i => tm[i]?.getD undef).toArray := by
  apply Array.ext
  · simp [h]
  · intro i h1 h2
    simp [h1]
end Go.Proofs.YtipfccfjniglbaaGreatDoor
