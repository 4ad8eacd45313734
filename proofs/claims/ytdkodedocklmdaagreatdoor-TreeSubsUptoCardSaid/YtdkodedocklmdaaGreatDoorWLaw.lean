/- What lies below a directory: ApartEntries, Sub and its reference, the walk of TreeSubs (WRange, WApart, WMarks, WSub, WSubR, WSubT, WLaw). -/
import Derived.Test.YtdkodedocklmdaaGreatDoorRange
import Derived.Test.YtdkodedocklmdaaGreatDoorAWay
import Derived.Test.YtdkodedocklmdaaGreatDoorULent
import Derived.Test.YtdkodedocklmdaaGreatDoorVList
import Derived.Test.YtdkodedocklmdaaGreatDoorUOne
import Derived.Test.YtdkodedocklmdaaGreatDoorTListed
import Derived.Test.YtdkodedocklmdaaGreatDoorUWorks
import Derived.Test.YtdkodedocklmdaaGreatDoorUChecks
import Derived.Deep.MidRow
import Derived.Deep.RegionHeld3
import Derived.Sort.CutIn
set_option linter.unusedSimpArgs false
set_option linter.unusedVariables false
namespace Go.Proofs.YtdkodedocklmdaaGreatDoor
section
open Go.RowKit
theorem wpIn_rangeW {P : Program} {α : Type} {g : Operand} {ps : Array Tmp} {assign body : Code} {Q : Exit → Act → World → Prop} {a : Act} {w : World}
    {gf : Nat} {lb : Array Value} (hg : a.eval g = .func (.func gf) #[] lb) (eg : ∀ args w, (callFunc gf args).run P w = .ok (.enter gf args) w)
    {encs : α → Array Value} {Kp : World → World → Prop} {L : List α} {w0 : World} (hseq : SeqL P gf lb encs Kp L w0)
    (hKt : ∀ {A B C : World}, Kp A B → Kp B C → Kp A C) (hKb : ∀ (W : World) (l : Nat) (o o' : Obj), w.heap.size ≤ l → W.heap[l]? = some o → o.isCells = false → o.isWalk = false → Kp W (W.putObj l o')) (hb0 : Below w0.heap.size w0 w) (hps : ∀ x, (encs x).size = ps.size)
    (I : List α → World → Prop) (Ix : Code → List α → World → Prop) (hI : OwnFrom w.heap.size I) (hIx : ∀ c, OwnFrom w.heap.size (Ix c)) (h0 : I [] w)
    (Ax : World → α → Act → World → Prop) (hAx : ∀ W0 x a', OwnFrom w.heap.size (fun (_ : Unit) W => Ax W0 x a' W))
    (hassign : ∀ (l : Nat) (pre : List α) (x : α) (W : World) (K : Act → World → Prop), I pre W → (∀ a' W', KeepsFrom w.heap.size W W' → I pre W' → Ax W x a' W' → K a' W') →
      assign.wpIn (Fence.wide.inRound l) 0 P (Exit.then K (fun _ _ _ => False)) { tmps := (ps.zip (encs x)).foldl (fun t (p, v) => t.setIfInBounds p v) a.tmps, defers := [] } W)
    (hbody : ∀ (l : Nat) (pre : List α) (x : α) (rest : List α) (a' : Act) (W0 W : World), w.heap.size ≤ l → (∃ r, W.heap[l]? = some (.loop r)) → L = pre ++ x :: rest → I pre W → Ax W0 x a' W →
      body.wpIn (Fence.wide.inRound l) 0 P (ownPostG w.heap.size (fun _ Z => Kp W0 Z) I Ix (pre ++ [x]) W) a' W)
    (hdone : ∀ (D : Nat) (W : World), w.heap.size ≤ D → I L W → W.heap[D]? = some (.deferred (some [])) → Q .normal { a with defers := { target := .collected D, args := #[] } :: a.defers } W)
    (hstop : ∀ (D : Nat) (c : Code) (pre : List α) (x : α) (rest : List α) (W : World), w.heap.size ≤ D → L = pre ++ x :: rest → Ix c (pre ++ [x]) W → W.heap[D]? = some (.deferred (some [])) →
      c.wpIn Fence.wide 0 P Q { a with defers := { target := .collected D, args := #[] } :: a.defers } W) :
    (Code.rangeFunc g ps assign body).wpIn Fence.wide 0 P Q a w := by
  refine wpIn_rangeFunc ?_
  intro fn hfn
  show ∃ l mark w₁ d w₁' f args w₂, (Instr.enterLoop fn a.tmps ps assign body none).run P w = .ok (l, mark) w₁ ∧ _
  obtain ⟨rec, hrec⟩ : ∃ rec : LoopState → Option Code → Loop, rec = fun st pe => { state := st, pending := pe, fn, tmps := a.tmps, params := ps, assign, body, defers := w.heap.size } := ⟨_, rfl⟩
  obtain ⟨W1, hW1⟩ : ∃ W1, (w.alloc (.deferred (some []))).alloc (.loop (rec .ready none)) = W1 := ⟨_, rfl⟩
  have hsz : W1.heap.size = w.heap.size + 2 := by rw [← hW1]; simp
  have hL1 : W1.heap[w.heap.size + 1]? = some (.loop (rec .ready none)) := by
    rw [← hW1]; have := World.alloc_heap_new (w.alloc (.deferred (some []))) (.loop (rec .ready none)); rwa [World.size_alloc] at this
  have hK1 : W1.heap[w.heap.size]? = some (.deferred (some [])) := by
    rw [← hW1]; exact (Below.heap_alloc _ _ _ (by simp)).trans (World.alloc_heap_new w _)
  have hI1 : I [] W1 := by rw [← hW1]; exact hI.alloc _ (hI.alloc _ h0)
  have hb1 : Below w0.heap.size w0 W1 := by
    rw [← hW1]; exact hb0.trans ((((Below.refl _ w).alloc (Nat.le_refl _) _).alloc (by simp) _).mono hb0.size)
  refine ⟨w.heap.size + 1, [{ target := .collected w.heap.size, args := #[] }], W1, { target := .fn (.func gf) lb, args := #[.func (.yield (w.heap.size + 1)) #[] #[]] }, W1, gf,
    #[.func (.yield (w.heap.size + 1)) #[] #[]] ++ lb, W1, ?_, ?_, ?_, ?_, fun h => absurd h (by simp [Fence.wide]), ?_⟩
  · rw [← hW1, hrec]; exact run_enterLoop_outer _ _ _ _ _
  · simp only [resolve, hg]
    simp [go_sem]
  · intro f' hf'; trivial
  · simp [invoke, go_sem, eg]
  · have two : ∀ {A B : World} {row : Option Nat} {k : Nat} {o : Obj}, A.grownBy B row → (∀ r, row = some r → W1.heap.size ≤ r ∧ ∃ o : Obj, A.heap[r]? = some o ∧ o.isCells = false) → k < w.heap.size + 2 → A.heap[k]? = some o → B.heap[k]? = some o := by
      intro A B row k o hg' hr hk h
      refine (hg'.block k (Array.getElem?_eq_some_iff.1 h).1 (fun e => ?_)).trans h
      have := (hr k e.symm).1
      omega
    have wide : ∀ {A : World} {row : Option Nat}, (∀ r, row = some r → W1.heap.size ≤ r ∧ ∃ o : Obj, A.heap[r]? = some o ∧ o.isCells = false) → (∀ r, row = some r → w.heap.size ≤ r ∧ ∃ o : Obj, A.heap[r]? = some o ∧ o.isCells = false) :=
      fun hr r e => ⟨by have := (hr r e).1; omega, (hr r e).2⟩
    refine (hseq (w.heap.size + 1)
      (fun pre W => I pre W ∧ W.heap[w.heap.size + 1]? = some (.loop (rec .ready none)) ∧ W.heap[w.heap.size]? = some (.deferred (some [])))
      (fun pre W => ∃ c, Ix c pre W ∧ W.heap[w.heap.size + 1]? = some (.loop (rec .done (some c))) ∧ W.heap[w.heap.size]? = some (.deferred (some [])))
      W1 hb1
      (fun s A B row hs hg' hr => ⟨hI s A B row hs.1 hg' (wide hr), two hg' hr (by omega) hs.2.1, two hg' hr (by omega) hs.2.2⟩)
      (fun s A B row hs hg' hr => by
        obtain ⟨c, hc, hl, hk⟩ := hs
        exact ⟨c, hIx c s A B row hc hg' (wide hr), two hg' hr (by omega) hl, two hg' hr (by omega) hk⟩)
      ?_ ⟨hI1, hL1, hK1⟩).mono ?_
    · rintro pre x rest W hL ⟨hi, hl, hk⟩
      have hlt : w.heap.size + 1 < W.heap.size := (Array.getElem?_eq_some_iff.1 hl).1
      have hy := run_yield (P := P) (args := encs x) hl (by rw [hrec]; exact hps x)
      rw [hrec] at hy
      refine ⟨fn, _, assign, body, hy, roundIn_of_wpIn hfn (hassign _ pre x W _ hi ?_)⟩
      clear hy
      intro a' Wa hkfa hia hax
      replace hl := hkfa.same _ _ (by omega) hl rfl
      replace hk := hkfa.same _ _ (Nat.le_refl _) hk rfl
      replace hlt : w.heap.size + 1 < Wa.heap.size := (Array.getElem?_eq_some_iff.1 hl).1
      refine ⟨_, run_beginRound hl (by rw [hrec]), ?_⟩
      have hl2 : (Wa.putObj (w.heap.size + 1) (.loop { rec .ready none with state := .busy })).heap[w.heap.size + 1]? = some (.loop { rec .ready none with state := .busy }) := World.putObj_heap_same hlt
      have hk2 : (Wa.putObj (w.heap.size + 1) (.loop { rec .ready none with state := .busy })).heap[w.heap.size]? = some (.deferred (some [])) := (World.putObj_heap_other (by omega)).trans hk
      refine wpIn_mono (hbody _ pre x rest a' W _ (by omega) ⟨_, hl2⟩ hL (hI.putObj _ hia (by omega) hl rfl) ((hAx W x a').putObj (s := ()) _ hax (by omega) hl rfl)) ?_
      have fin : ∀ (jump : Option Code) (W3 : World), KeepsFrom w.heap.size (Wa.putObj (w.heap.size + 1) (.loop { rec .ready none with state := .busy })) W3 →
          (Instr.endRound (w.heap.size + 1) jump).run P W3 = .ok (.bool jump.isNone) (W3.putObj (w.heap.size + 1) (.loop (rec (if jump.isNone then .ready else .done) jump))) ∧
          W3.heap[w.heap.size + 1]? = some (.loop { rec .ready none with state := .busy }) ∧
          (W3.putObj (w.heap.size + 1) (.loop (rec (if jump.isNone then .ready else .done) jump))).heap[w.heap.size + 1]? = some (.loop (rec (if jump.isNone then .ready else .done) jump)) ∧
          (W3.putObj (w.heap.size + 1) (.loop (rec (if jump.isNone then .ready else .done) jump))).heap[w.heap.size]? = some (.deferred (some [])) := fun jump W3 hk3 => by
        have hl3 := hk3.same _ _ (by omega) hl2 rfl
        have := run_endRound (P := P) jump hl3
        rw [hrec] at this ⊢
        exact ⟨this, by rw [hrec] at hl3; exact hl3, World.putObj_heap_same (Array.getElem?_eq_some_iff.1 hl3).1, (World.putObj_heap_other (by omega)).trans (hk3.same _ _ (Nat.le_refl _) hk2 rfl)⟩
      have hkey : ∀ (W3 : World) (o : Obj), KeepsFrom w.heap.size (Wa.putObj (w.heap.size + 1) (.loop { rec .ready none with state := .busy })) W3 → KeepsFrom W1.heap.size W (W3.putObj (w.heap.size + 1) o) := fun W3 o h3 =>
        (((KeepsFrom.more hkfa (by omega)).trans (KeepsFrom.putObj _ (by omega))).trans (KeepsFrom.more h3 (by omega))).trans (KeepsFrom.putObj _ (by omega))
      rintro e a3 W3 hp
      cases e with
      | normal =>
        obtain ⟨hk3, hkp3, hi3⟩ := hp
        obtain ⟨hr, hl3, hl4, hk4⟩ := fin none W3 hk3
        exact ⟨_, _, hr, hkey W3 _ hk3, .inl ⟨rfl, ⟨hI.putObj _ hi3 (by omega) hl3 rfl, hl4, hk4⟩, hKt hkp3 (hKb _ _ _ _ (by omega) hl3 rfl rfl)⟩⟩
      | ret =>
        obtain ⟨hk3, hi3⟩ := hp
        obtain ⟨hr, hl3, hl4, hk4⟩ := fin (some .ret) W3 hk3
        exact ⟨_, _, hr, hkey W3 _ hk3, .inr ⟨rfl, .ret, (hIx _).putObj _ hi3 (by omega) hl3 rfl, hl4, hk4⟩⟩
      | exit id =>
        obtain ⟨hk3, hi3⟩ := hp
        obtain ⟨hr, hl3, hl4, hk4⟩ := fin (some (.exit id)) W3 hk3
        exact ⟨_, _, hr, hkey W3 _ hk3, .inr ⟨rfl, .exit id, (hIx _).putObj _ hi3 (by omega) hl3 rfl, hl4, hk4⟩⟩
      | goto t =>
        obtain ⟨hk3, hi3⟩ := hp
        obtain ⟨hr, hl3, hl4, hk4⟩ := fin (some (.goto t)) W3 hk3
        exact ⟨_, _, hr, hkey W3 _ hk3, .inr ⟨rfl, .goto t, (hIx _).putObj _ hi3 (by omega) hl3 rfl, hl4, hk4⟩⟩
      | panic ch => exact hp.elim
      | outgrown => exact hp.elim
    · rintro e W2 ⟨⟨v, rfl⟩, (⟨hi, hl, hk⟩ | ⟨pre, x, rest, hL, c, hi, hl, hk⟩)⟩
      · exact ⟨none, _, by have := run_endLoop (P := P) hl (by rw [hrec]; simp); rw [hrec] at this; exact this, hdone _ _ (Nat.le_refl _) (hI.putObj _ hi (by omega) hl rfl) ((World.putObj_heap_other (by omega)).trans hk)⟩
      · exact ⟨some c, _, by have := run_endLoop (P := P) hl (by rw [hrec]; simp); rw [hrec] at this; exact this, hstop _ c pre x rest _ (Nat.le_refl _) hL ((hIx c).putObj _ hi (by omega) hl rfl) ((World.putObj_heap_other (by omega)).trans hk)⟩
end
section
section
open Go.RowKit Go.Maps Go.Shelf
open Go.Lib hiding intOf size_eq
/- several cells are set -/
def setMany : Array Value → Nat → List Value → Array Value
  | cur, _, [] => cur
  | cur, o, v :: r => setMany (cur.setIfInBounds o v) (o + 1) r
theorem setMany_size : ∀ (vs : List Value) (cur : Array Value) (o : Nat), (setMany cur o vs).size = cur.size
  | [], _, _ => rfl
  | v :: r, cur, o => by
    unfold setMany
    rw [setMany_size r]
    simp
theorem setMany_get : ∀ (vs : List Value) (cur : Array Value) (o j : Nat), o + vs.length ≤ cur.size → (setMany cur o vs)[j]? = if o ≤ j ∧ j < o + vs.length then vs[j - o]? else cur[j]?
  | [], cur, o, j, _ => by
    unfold setMany
    rw [if_neg (by simp)]
  | v :: r, cur, o, j, h => by
    have hl : (v :: r).length = r.length + 1 := rfl
    rw [hl] at h ⊢
    unfold setMany
    rw [setMany_get r _ _ _ (by simp; omega)]
    by_cases h1 : o = j
    · subst h1
      rw [if_neg (by omega), if_pos (by omega), Array.getElem?_setIfInBounds, if_pos rfl, if_pos (by omega)]
      simp
    · by_cases h2 : o + 1 ≤ j ∧ j < o + 1 + r.length
      · rw [if_pos h2, if_pos (by omega), show j - o = j - (o + 1) + 1 by omega, List.getElem?_cons_succ]
      · rw [if_neg h2, if_neg (by omega), Array.getElem?_setIfInBounds, if_neg h1]
theorem heap_setCells : ∀ (vs : List Value) (w : World) (b o : Nat) (cur : Array Value) (t : TypeId), w.heap[b]? = some (.cells cur t (0, 0)) → (w.setCells b o vs).heap[b]? = some (.cells (setMany cur o vs) t (0, 0))
  | [], w, b, o, cur, t, h => h
  | v :: r, w, b, o, cur, t, h => heap_setCells r _ b (o + 1) _ t (Go.heap_setCell_same w b o cur t v h)
theorem grown_trans_row {w w1 w2 : World} {row : Option Nat} (h : w.grownBy w1 row) (h2 : w1.grownBy w2 row) : w.grownBy w2 row :=
  ⟨h2.os.trans h.os, h2.tape.trans h.tape, h2.output.trans h.output, Nat.le_trans h.size h2.size, fun k hk hn => (h2.block k (Nat.lt_of_lt_of_le hk h.size) hn).trans (h.block k hk hn)⟩
theorem grown_setCells (b : Nat) : ∀ (vs : List Value) (o : Nat) (w : World), w.grownBy (w.setCells b o vs) (some b)
  | [], _, w => ⟨rfl, rfl, rfl, Nat.le_refl _, fun _ _ _ => rfl⟩
  | v :: r, o, w => grown_trans_row (grown_set ⟨b, o, none⟩ v) (grown_setCells b r (o + 1) _)
theorem markI_apart {k j a b : Nat} (hk : k < 256) (hj : j < 256) (h : bs (markI k a) = bs (markI j b)) : k = j := by
  have h1 : markI k a = markI j b := congrArg (fun x : ByteArray => x.data.toList) h
  unfold markI at h1
  injection h1 with _ h1
  injection h1 with h1 _
  have h2 := congrArg (fun x : UInt8 => (x.toNat : Int)) h1
  simp only [byteI_val] at h2
  omega
theorem marksE_of {k : Int} {n : Nat} {xs : List Ent} (hl : xs.length = n) (h : ∀ i : Nat, i < n → xs[i]? = some (markE k i)) : xs = marksE k n := by
  apply List.ext_getElem?
  intro i
  by_cases hi : i < n
  · rw [h i hi, marksE_get hi]
  · rw [List.getElem?_eq_none (by omega), List.getElem?_eq_none (by rw [marksE_len]; omega)]
/-- the cell of a list of entries -/
theorem flat_at {xs : List Ent} {j : Nat} (hj : j < xs.length * 5) : ∃ e, xs[j / 5]? = some e ∧ (xs.flatMap entC)[j]? = (entC e)[j % 5]? := by
  obtain ⟨e, he⟩ : ∃ e, xs[j / 5]? = some e := ⟨_, List.getElem?_eq_getElem (by omega)⟩
  refine ⟨e, he, ?_⟩
  have h5 : j % 5 < (entC e).length := by show j % 5 < 5; omega
  have h1 := flat_get he (List.getElem?_eq_getElem h5)
  rw [show j / 5 * 5 + j % 5 = j by omega] at h1
  rw [h1, List.getElem?_eq_getElem h5]
/-- a row of the call's own -/
def RowE (W : World) (base : Nat) (v : Value) (n : Nat) (xs : List Ent) : Prop := W.ownsRow base 38 5 v n (xs.flatMap entC) ∧ (n = 0 → v = .slice none 0 0)
theorem RowE.len {W : World} {base : Nat} {v : Value} {n : Nat} {xs : List Ent} (h : RowE W base v n xs) : xs.length = n := by
  have := h.1.1
  rw [flat_len] at this
  omega
/-- a row that is read -/
def RowM (W : World) (v : Value) (n : Nat) (xs : List Ent) : Prop := ∃ o cap, v = .slice o n cap ∧ n ≤ cap ∧ cap ≤ maxLen ∧ (n = 0 → o = none) ∧ ∀ i x, i < n → xs[i]? = some x → ∃ g cur, o = some ⟨g, 0, none⟩ ∧ W.heap[g]? = some (.cells cur 38 (0, 0)) ∧ ∀ j u, (entC x)[j]? = some u → cur[i * 5 + j]? = some u
theorem RowE.look {W : World} {base : Nat} {v : Value} {n : Nat} {xs : List Ent} (h : RowE W base v n xs) : RowM W v n xs := by
  have hlen := h.len
  obtain ⟨⟨h1, h2⟩, h3⟩ := h
  by_cases hn : n = 0
  · obtain rfl := h3 hn
    subst hn
    exact ⟨none, 0, rfl, Nat.le_refl _, by simp, fun _ => rfl, fun i x hi => by omega⟩
  · rcases h2 with ⟨_, h0⟩ | ⟨g, cap, cur, rfl, hb, hg, hnc, hcm, hcs, htk⟩
    · exact absurd h0 hn
    · refine ⟨_, cap, rfl, hnc, hcm, fun e => absurd e hn, fun i x hi hx => ⟨g, cur, rfl, hg, fun j u hu => ?_⟩⟩
      have hj : j < 5 := (List.getElem?_eq_some_iff.1 hu).1
      have h4 := flat_get hx hu
      rw [← htk, List.getElem?_take, if_pos (by omega)] at h4
      simpa using h4
theorem RowM.keep {W W' : World} {v : Value} {n : Nat} {xs : List Ent} (h : RowM W v n xs) (hs : W.heap.size ≤ W'.heap.size) (hk : ∀ b, v.ownBlock = some b → b < W.heap.size → W'.heap[b]? = W.heap[b]?) : RowM W' v n xs := by
  obtain ⟨o, cap, rfl, h1, h2, h3, h4⟩ := h
  refine ⟨o, cap, rfl, h1, h2, h3, fun i x hi hx => ?_⟩
  obtain ⟨g, cur, rfl, hg, hc⟩ := h4 i x hi hx
  exact ⟨g, cur, rfl, (hk g rfl (Array.getElem?_eq_some_iff.1 hg).1).trans hg, hc⟩
theorem RowE.keep {W W' : World} {base : Nat} {v : Value} {n : Nat} {xs : List Ent} (h : RowE W base v n xs) (hk : ∀ b, v.ownBlock = some b → b < W.heap.size → W'.heap[b]? = W.heap[b]?) : RowE W' base v n xs := by
  obtain ⟨⟨h1, h2⟩, h3⟩ := h
  refine ⟨⟨h1, ?_⟩, h3⟩
  rcases h2 with h2 | ⟨g, cap, cur, rfl, hb, hg, hnc, hcm, hcs, htk⟩
  · exact .inl h2
  · exact .inr ⟨g, cap, cur, rfl, hb, (hk g rfl (Array.getElem?_eq_some_iff.1 hg).1).trans hg, hnc, hcm, hcs, htk⟩
/-- rows with marks of different lists lie apart -/
theorem RowM.apart {W : World} {v v' : Value} {k k' n n' : Nat} (hk : k < 256) (hk' : k' < 256) (hne : k ≠ k') (h : RowM W v n (marksE k n)) (h' : RowM W v' n' (marksE k' n')) : ∀ b, v.ownBlock = some b → v'.ownBlock ≠ some b := by
  obtain ⟨o, cap, rfl, _, _, h3, h4⟩ := h
  obtain ⟨o', cap', rfl, _, _, h3', h4'⟩ := h'
  intro b hb hb'
  by_cases hn : n = 0
  · rw [h3 hn] at hb; simp [Value.ownBlock] at hb
  by_cases hn' : n' = 0
  · rw [h3' hn'] at hb'; simp [Value.ownBlock] at hb'
  obtain ⟨g, cur, rfl, hg, hc⟩ := h4 0 _ (by omega) (marksE_get (by omega))
  obtain ⟨g', cur', rfl, hg', hc'⟩ := h4' 0 _ (by omega) (marksE_get (by omega))
  simp [Value.ownBlock] at hb hb'
  subst hb
  subst hb'
  rw [hg] at hg'
  injection hg' with hg'
  injection hg' with hg' _ _
  subst hg'
  have d1 := hc 0 _ rfl
  have d2 := hc' 0 _ rfl
  rw [d1] at d2
  injection d2 with d2
  injection d2 with d2
  exact hne (markI_apart hk hk' d2)
set_option maxHeartbeats 1000000 in
theorem RowE.set {W : World} {base : Nat} {n g cap i : Nat} {xs : List Ent} (h : RowE W base (.slice (some ⟨g, 0, none⟩) n cap) n xs) (hi : i < n) (u : Ent) :
    RowE (W.setCells g (i * 5) (entC u)) base (.slice (some ⟨g, 0, none⟩) n cap) n (xs.set i u) ∧ W.there g (i * 5) 5 := by
  have hlen := h.len
  obtain ⟨⟨h1, h2⟩, h3⟩ := h
  rcases h2 with ⟨e, _⟩ | ⟨g2, cap2, cur, e, hb, hg, hnc, hcm, hcs, htk⟩
  · cases e
  · injection e with e1 e2 e3
    injection e1 with e1
    injection e1 with e1
    subst e1
    subst e3
    have hset := heap_setCells (entC u) W g (i * 5) cur 38 hg
    have h5 : (entC u).length = 5 := rfl
    refine ⟨⟨⟨by rw [flat_len, List.length_set, hlen], .inr ⟨g, cap, _, rfl, hb, hset, hnc, hcm, by rw [setMany_size]; exact hcs, ?_⟩⟩, fun e => absurd e (by omega)⟩, fun j hj => ⟨?_, frozen_of_row hg⟩⟩
    · apply List.ext_getElem?
      intro j
      by_cases hj : j < n * 5
      · rw [List.getElem?_take, if_pos hj, Array.getElem?_toList, setMany_get _ _ _ _ (by rw [h5]; omega), h5]
        obtain ⟨e, he, hf⟩ := flat_at (xs := xs.set i u) (j := j) (by rw [List.length_set]; omega)
        rw [hf]
        rw [List.getElem?_set] at he
        by_cases hq : i = j / 5
        · rw [if_pos hq, if_pos (by omega)] at he
          obtain rfl := Option.some.inj he
          rw [if_pos (by omega), show j - i * 5 = j % 5 by omega]
        · rw [if_neg hq] at he
          rw [if_neg (by omega)]
          obtain ⟨e2, he2, hf2⟩ := flat_at (xs := xs) (j := j) (by omega)
          rw [he] at he2
          injection he2 with he2
          subst he2
          rw [← hf2, ← htk, List.getElem?_take, if_pos hj, Array.getElem?_toList]
      · rw [List.getElem?_take, if_neg hj, List.getElem?_eq_none (by rw [flat_len, List.length_set]; omega)]
    · rw [cell_of_row hg (Array.getElem?_eq_getElem (by omega))]
      rfl
theorem RowE.block {W : World} {base : Nat} {v : Value} {n b : Nat} {xs : List Ent} (h : RowE W base v n xs) (hb : v.ownBlock = some b) : base ≤ b ∧ ∃ cur, W.heap[b]? = some (.cells cur 38 (0, 0)) := by
  obtain ⟨⟨h1, h2⟩, h3⟩ := h
  rcases h2 with ⟨rfl, _⟩ | ⟨g, cap, cur, rfl, hbg, hg, _⟩
  · simp [Value.ownBlock] at hb
  · obtain rfl : g = b := by simpa [Value.ownBlock] using hb
    exact ⟨hbg, cur, hg⟩
theorem RowM.cell {W : World} {v : Value} {n i : Nat} {xs : List Ent} {x : Ent} (h : RowM W v n xs) (hi : i < n) (hx : xs[i]? = some x) : ∃ g cap, v = .slice (some ⟨g, 0, none⟩) n cap ∧ W.rangeAt g (i * 5) (entC x) := by
  obtain ⟨o, cap, rfl, _, _, _, h4⟩ := h
  obtain ⟨g, cur, rfl, hg, hc⟩ := h4 i x hi hx
  exact ⟨g, cap, rfl, fun j u hu => cell_of_row hg (hc j u hu)⟩
theorem RowM.block {W : World} {v : Value} {n b : Nat} {xs : List Ent} (h : RowM W v n xs) (hl : xs.length = n) (hb : v.ownBlock = some b) : ∃ cur, W.heap[b]? = some (.cells cur 38 (0, 0)) := by
  obtain ⟨o, cap, rfl, _, _, h3, h4⟩ := h
  by_cases hn : n = 0
  · rw [h3 hn] at hb; simp [Value.ownBlock] at hb
  obtain ⟨g, cur, rfl, hg, hc⟩ := h4 0 _ (by omega) (List.getElem?_eq_getElem (by omega))
  obtain rfl : g = b := by simpa [Value.ownBlock] using hb
  exact ⟨cur, hg⟩
/-- what stands all the while -/
structure ApE (w wr : World) (B base : Nat) (rs : List (Value × Nat)) : Prop where
  bel : Below base w wr
  bb : wr.heap[B]? = some (.cells (rs.map (·.1)).toArray 22 (0, 0))
theorem ApE.grown {w wr W : World} {B base : Nat} {rs : List (Value × Nat)} {row : Option Nat} (h : ApE w wr B base rs) (hg : wr.grownBy W row) (hbase : base ≤ w.heap.size) (hr : ∀ b, row = some b → base ≤ b ∧ b ≠ B) : ApE w W B base rs :=
  ⟨h.bel.grown hg (Nat.le_trans hbase h.bel.size) (fun b hb => (hr b hb).1), (hg.block B (heap_lt h.bb) (fun e => (hr B e.symm).2 rfl)).trans h.bb⟩
theorem RowE.grown {W W' : World} {base : Nat} {v : Value} {n : Nat} {xs : List Ent} {row : Option Nat} (h : RowE W base v n xs) (hg : W.grownBy W' row) (hr : ∀ b, v.ownBlock = some b → row ≠ some b) : RowE W' base v n xs :=
  h.keep (fun b hb hlt => hg.block b hlt (fun e => hr b hb e.symm))
theorem RowM.grown {W W' : World} {v : Value} {n : Nat} {xs : List Ent} {row : Option Nat} (h : RowM W v n xs) (hg : W.grownBy W' row) (hr : ∀ b, v.ownBlock = some b → row ≠ some b) : RowM W' v n xs :=
  h.keep hg.size (fun b hb hlt => hg.block b hlt (fun e => hr b hb e.symm))
/-- the first loops -/
def E1 (w wr : World) (B base : Nat) (rs : List (Value × Nat)) (k i : Nat) : Prop := ApE w wr B base rs ∧
  ∀ j v n, rs[j]? = some (v, n) → ∃ xs, RowE wr base v n xs ∧ (j < k → xs = marksE j n) ∧ (j = k → ∀ a, a < i → xs[a]? = some (markE k a))
theorem E1.quiet {w wr W : World} {B base : Nat} {rs : List (Value × Nat)} {k i : Nat} (h : E1 w wr B base rs k i) (hbase : base ≤ w.heap.size) (hg : wr.grownBy W none) : E1 w W B base rs k i :=
  ⟨h.1.grown hg hbase (fun b hb => by cases hb), fun j v n hj => by
    obtain ⟨xs, h1, h2, h3⟩ := h.2 j v n hj
    exact ⟨xs, h1.grown hg (fun b _ e => by cases e), h2, h3⟩⟩
def ApF (rs : List (Value × Nat)) : Prop := ∀ (j k : Nat) (v : Value) (n : Nat) (v' : Value) (n' : Nat), j ≠ k → rs[j]? = some (v, n) → rs[k]? = some (v', n') → ∀ b, v.ownBlock = some b → v'.ownBlock ≠ some b
theorem E1.set {w wr : World} {B base : Nat} {rs : List (Value × Nat)} {k i n g cap : Nat} (h : E1 w wr B base rs k i) (hbase : base ≤ w.heap.size) (hd : ApF rs) (hk : rs[k]? = some (.slice (some ⟨g, 0, none⟩) n cap, n)) (hi : i < n) :
    E1 w (wr.setCells g (i * 5) (entC (markE k i))) B base rs k (i + 1) ∧ wr.there g (i * 5) 5 := by
  obtain ⟨xs, h1, h2, h3⟩ := h.2 k _ n hk
  obtain ⟨q1, q2⟩ := h1.set hi (markE k i)
  obtain ⟨hb1, cur, hb2⟩ := h1.block (b := g) rfl
  refine ⟨⟨h.1.grown (grown_setCells _ _ _ _) hbase (fun b hb => ?_), fun j v' n' hj => ?_⟩, q2⟩
  · obtain rfl : g = b := by simpa using hb
    refine ⟨hb1, fun e => ?_⟩
    subst e
    have := h.1.bb
    rw [hb2] at this
    injection this with this
    injection this with _ this _
    exact absurd this (by decide)
  · by_cases hjk : j = k
    · subst hjk
      rw [hk] at hj
      injection hj with hj
      injection hj with hj1 hj2
      subst hj1
      subst hj2
      refine ⟨_, q1, fun e => by omega, fun _ a ha => ?_⟩
      have hlen : xs.length = n := h1.len
      rw [List.getElem?_set]
      by_cases hai : i = a
      · subst hai
        rw [if_pos rfl, if_pos (by omega)]
      · rw [if_neg hai]
        exact h3 rfl a (by omega)
    · obtain ⟨xs', r1, r2, r3⟩ := h.2 j v' n' hj
      exact ⟨xs', r1.grown (grown_setCells _ _ _ _) (fun b hb e => hd j k _ _ _ _ hjk hj hk b hb (by simpa [Value.ownBlock] using e)), r2, fun e => absurd e hjk⟩
theorem E1.next {w wr : World} {B base : Nat} {rs : List (Value × Nat)} {k n : Nat} {v : Value} (h : E1 w wr B base rs k n) (hk : rs[k]? = some (v, n)) : E1 w wr B base rs (k + 1) 0 :=
  ⟨h.1, fun j v' n' hj => by
    obtain ⟨xs, h1, h2, h3⟩ := h.2 j v' n' hj
    refine ⟨xs, h1, fun hlt => ?_, fun _ a ha => by omega⟩
    by_cases hjk : j = k
    · subst hjk
      rw [hk] at hj
      injection hj with hj
      injection hj with hj1 hj2
      subst hj2
      exact marksE_of h1.len (h3 rfl)
    · exact h2 (by omega)⟩
end
section
open Go.RowKit Go.Maps Go.Shelf
open Go.Lib hiding intOf size_eq
theorem RowE.val {W : World} {base : Nat} {v : Value} {n : Nat} {xs : List Ent} (h : RowE W base v n xs) : ∃ o cap, v = .slice o n cap ∧ n ≤ cap ∧ cap ≤ maxLen ∧ (n ≠ 0 → ∃ g, o = some ⟨g, 0, none⟩) := by
  by_cases hn : n = 0
  · exact ⟨none, 0, by rw [h.2 hn, hn], by omega, by simp, fun x => absurd hn x⟩
  · obtain ⟨⟨h1, h2⟩, h3⟩ := h
    rcases h2 with ⟨_, h0⟩ | ⟨g, cap, cur, rfl, hb, hg, hnc, hcm, hcs, htk⟩
    · exact absurd h0 hn
    · exact ⟨_, cap, rfl, hnc, hcm, fun _ => ⟨g, rfl⟩⟩
theorem ApE.cell {w wr : World} {B base : Nat} {rs : List (Value × Nat)} (h : ApE w wr B base rs) {k : Nat} {v : Value} {n : Nat} (hk : rs[k]? = some (v, n)) : wr.cell? ⟨B, k, none⟩ = some v := by
  unfold World.cell?
  rw [h.bb]
  simp [hk]
/-- the lists that were grown already, and those that weren't yet (of the list k nothing is said) -/
structure E2 (w wr : World) (B base : Nat) (rs gs : List (Value × Nat)) (gv : Value) (k : Nat) (at_ : Bool) : Prop where
  st : ApE w wr B base rs
  gl : gs.length = k
  gr : wr.ownsRow base 22 1 gv k (gs.map (·.1))
  gb : gv.ownBlock ≠ some B
  old : ∀ j v n, j < k → rs[j]? = some (v, n) → RowM wr v n (marksE j n) ∧ ∃ v', gs[j]? = some (v', n + 64) ∧ RowE wr base v' (n + 64) (marksE j (n + 64))
  new : ∀ j v n, k ≤ j → (at_ = true → j ≠ k) → rs[j]? = some (v, n) → RowE wr base v n (marksE j n)
theorem E2.grown {w wr W : World} {B base : Nat} {rs gs : List (Value × Nat)} {gv : Value} {k : Nat} {a : Bool} {row : Option Nat} (h : E2 w wr B base rs gs gv k a) (hbase : base ≤ w.heap.size) (hg : wr.grownBy W row) (hN : rs.length ≤ 200) {n' : Nat} {v : Value} {kk : Nat} (hkk : a = true → kk = k)
    (hr : row = none ∨ (a = true ∧ k < rs.length ∧ row = v.ownBlock ∧ RowE wr base v n' (marksE k n'))) : E2 w W B base rs gs gv k a := by
  rcases hr with rfl | ⟨ha, hkl, rfl, hv⟩
  · exact ⟨h.st.grown hg hbase (fun b e => by cases e), h.gl, grown_row h.gr hg (fun b _ e => by cases e), h.gb, fun j v n hj hjk => by
      obtain ⟨h1, v', h2, h3⟩ := h.old j v n hj hjk
      exact ⟨h1.grown hg (fun b _ e => by cases e), v', h2, h3.grown hg (fun b _ e => by cases e)⟩, fun j v n hj hne hjk => (h.new j v n hj hne hjk).grown hg (fun b _ e => by cases e)⟩
  · have hblk := fun b (hb : v.ownBlock = some b) => hv.block hb
    have ap : ∀ (j : Nat) (v2 : Value) (n2 : Nat), j < rs.length → j ≠ k → RowM wr v2 n2 (marksE j n2) → ∀ b, v2.ownBlock = some b → v.ownBlock ≠ some b := fun j v2 n2 hj hne h2 b hb => RowM.apart (by omega) (by omega) hne h2 hv.look b hb
    refine ⟨h.st.grown hg hbase (fun b hb => ?_), h.gl, grown_row h.gr hg (fun b hb e => ?_), h.gb, fun j v2 n2 hj hjk => ?_, fun j v2 n2 hj hne hjk => ?_⟩
    · obtain ⟨h1, cur, h2⟩ := hblk b hb
      refine ⟨h1, fun e => ?_⟩
      subst e
      have := h.st.bb
      rw [h2] at this
      injection this with this
      injection this with _ this _
      exact absurd this (by decide)
    · obtain ⟨_, cur, h2⟩ := hblk b e
      obtain ⟨_, cur', h3⟩ := row_type h.gr hb
      rw [h2] at h3
      injection h3 with h3
      injection h3 with _ h3 _
      exact absurd h3 (by decide)
    · obtain ⟨h1, v', h2, h3⟩ := h.old j v2 n2 hj hjk
      have hjl : j < rs.length := (List.getElem?_eq_some_iff.1 hjk).1
      exact ⟨h1.grown hg (ap j v2 n2 hjl (by omega) h1), v', h2, h3.grown hg (ap j v' _ hjl (by omega) h3.look)⟩
    · have h1 := h.new j v2 n2 hj hne hjk
      have hjl : j < rs.length := (List.getElem?_eq_some_iff.1 hjk).1
      exact h1.grown hg (ap j v2 n2 hjl (hne ha) h1.look)
/-- the list k under way: n + i there, the old one is as it was -/
structure E3 (w wr : World) (B base : Nat) (rs gs : List (Value × Nat)) (gv : Value) (k : Nat) (v : Value) (n : Nat) (v' : Value) (i : Nat) : Prop where
  rest : E2 w wr B base rs gs gv k true
  it : rs[k]? = some (v, n)
  row : RowE wr base v' (n + i) (marksE k (n + i))
  was : RowM wr v n (marksE k n)
theorem E2.start {w wr : World} {B base : Nat} {rs gs : List (Value × Nat)} {gv : Value} {k : Nat} {v : Value} {n : Nat} (h : E2 w wr B base rs gs gv k false) (hk : rs[k]? = some (v, n)) : E3 w wr B base rs gs gv k v n v 0 := by
  have h1 := h.new k v n (Nat.le_refl _) (fun e => by cases e) hk
  exact ⟨⟨h.st, h.gl, h.gr, h.gb, h.old, fun j v n hj hne hjk => h.new j v n hj (fun e => by cases e) hjk⟩, hk, h1, h1.look⟩
theorem E3.quiet {w wr W : World} {B base : Nat} {rs gs : List (Value × Nat)} {gv : Value} {k : Nat} {v v' : Value} {n i : Nat} (h : E3 w wr B base rs gs gv k v n v' i) (hbase : base ≤ w.heap.size) (hN : rs.length ≤ 200) (hg : wr.grownBy W none) : E3 w W B base rs gs gv k v n v' i :=
  ⟨h.rest.grown (v := v) (n' := 0) (kk := k) hbase hg hN (fun _ => rfl) (.inl rfl), h.it, h.row.grown hg (fun b _ e => by cases e), h.was.grown hg (fun b _ e => by cases e)⟩
/-- one more is appended -/
theorem E3.step {w wr W : World} {B base : Nat} {rs gs : List (Value × Nat)} {gv : Value} {k : Nat} {v v' v'' : Value} {n i : Nat} (h : E3 w wr B base rs gs gv k v n v' i) (hbase : base ≤ w.heap.size) (hN : rs.length ≤ 200)
    (ho : W.ownsRow base 38 5 v'' (n + i + 1) ((marksE k (n + i)).flatMap entC ++ entC (markE k ((n + i : Nat) : Int))))
    (hs : (v''.ownBlock = v'.ownBlock ∧ wr.grownBy W v'.ownBlock) ∨ (v''.ownBlock = some wr.heap.size ∧ wr.grownBy W none)) : E3 w W B base rs gs gv k v n v'' (i + 1) := by
  have hkl : k < rs.length := (List.getElem?_eq_some_iff.1 h.it).1
  rw [← flat_one, ← marksE_succ] at ho
  have hrow : RowE W base v'' (n + (i + 1)) (marksE k (n + (i + 1))) := ⟨ho, fun e => by omega⟩
  rcases hs with ⟨h1, h2⟩ | ⟨h1, h2⟩
  · refine ⟨h.rest.grown (v := v') (n' := n + i) (kk := k) hbase h2 hN (fun _ => rfl) (.inr ⟨rfl, hkl, rfl, h.row⟩), h.it, hrow, ?_⟩
    by_cases hn : n = 0
    · obtain ⟨o, cap, rfl, a1, a2, a3, _⟩ := h.was
      exact ⟨o, cap, rfl, a1, a2, a3, fun j x hj => by omega⟩
    · by_cases hb : v.ownBlock = v'.ownBlock
      · obtain ⟨o, cap, rfl, a1, a2, a3, a4⟩ := h.was
        refine ⟨o, cap, rfl, a1, a2, a3, fun j x hj hx => ?_⟩
        obtain ⟨g, cur, rfl, hg, hc⟩ := a4 j x hj hx
        obtain ⟨g2, cap2, hv2, hcell⟩ := hrow.look.cell (i := j) (x := markE k j) (by omega) (marksE_get (by omega))
        have hgg : g2 = g := by
          have e := h1
          rw [← hb, hv2] at e
          simpa [Value.ownBlock] using e
        subst hgg
        rw [marksE_get hj] at hx
        injection hx with hx
        subst hx
        obtain ⟨_, cur2, hg2⟩ := hrow.block (b := g2) (by rw [hv2]; rfl)
        refine ⟨g2, cur2, rfl, hg2, fun a u hu => ?_⟩
        have hcu := hcell a u hu
        unfold World.cell? at hcu
        rw [hg2] at hcu
        exact hcu
      · exact h.was.grown h2 (fun b e e2 => hb (e.trans e2.symm))
  · refine ⟨h.rest.grown (v := v') (n' := n + i) (kk := k) hbase h2 hN (fun _ => rfl) (.inl rfl), h.it, hrow, h.was.grown h2 (fun b _ e => by cases e)⟩
/-- the grown list is laid down -/
theorem E3.next {w wr W : World} {B base : Nat} {rs gs : List (Value × Nat)} {gv gv' : Value} {k : Nat} {v v' : Value} {n : Nat} (h : E3 w wr B base rs gs gv k v n v' 64) (hbase : base ≤ w.heap.size) (hN : rs.length ≤ 200)
    (hs : (gv'.ownBlock = gv.ownBlock ∧ wr.grownBy W gv.ownBlock) ∨ (gv'.ownBlock = some wr.heap.size ∧ wr.grownBy W none)) (ho : W.ownsRow base 22 1 gv' (k + 1) (gs.map (·.1) ++ [v'])) : E2 w W B base rs (gs ++ [(v', n + 64)]) gv' (k + 1) false := by
  have hg : wr.grownBy W gv.ownBlock := by
    rcases hs with ⟨_, h2⟩ | ⟨_, h2⟩
    · exact h2
    · exact ⟨h2.os, h2.tape, h2.output, h2.size, fun k hk _ => h2.block k hk (by simp)⟩
  have hgb : gv'.ownBlock ≠ some B := by
    rcases hs with ⟨h1, _⟩ | ⟨h1, _⟩
    · rw [h1]; exact h.rest.gb
    · rw [h1]
      have := heap_lt h.rest.st.bb
      intro e
      injection e with e
      omega
  have hne : ∀ (b : Nat) cur, gv.ownBlock = some b → wr.heap[b]? = some (.cells cur 38 (0, 0)) → False := fun b cur hb hc => by
    obtain ⟨_, cur', h3⟩ := row_type h.rest.gr hb
    rw [hc] at h3
    injection h3 with h3
    injection h3 with _ h3 _
    exact absurd h3 (by decide)
  have rl : ∀ {v2 : Value} {n2 j : Nat}, RowM wr v2 n2 (marksE j n2) → RowM W v2 n2 (marksE j n2) := fun {v2 n2 j} h2 => h2.grown hg fun b hb e => by
    obtain ⟨cur, hc⟩ := h2.block (marksE_len _ _) hb
    exact hne b cur e hc
  have rx : ∀ {v2 : Value} {n2 j : Nat}, RowE wr base v2 n2 (marksE j n2) → RowE W base v2 n2 (marksE j n2) := fun {v2 n2 j} h2 => h2.grown hg fun b hb e => by
    obtain ⟨_, cur, hc⟩ := h2.block hb
    exact hne b cur e hc
  have hst : ApE w W B base rs := h.rest.st.grown hg hbase fun b hb => by
    exact ⟨(row_type h.rest.gr hb).1, fun e => h.rest.gb (by rw [hb, e])⟩
  refine ⟨hst, by simp [h.rest.gl], by rw [List.map_append]; exact ho, hgb, fun j v2 n2 hj hjk => ?_, fun j v2 n2 hj _ hjk => rx (h.rest.new j v2 n2 (by omega) (fun _ => by omega) hjk)⟩
  by_cases hjk2 : j = k
  · subst hjk2
    rw [h.it] at hjk
    injection hjk with hjk
    injection hjk with e1 e2
    subst e1
    subst e2
    refine ⟨rl h.was, v', ?_, rx h.row⟩
    rw [← h.rest.gl, List.getElem?_concat_length]
  · obtain ⟨h1, v3, h2, h3⟩ := h.rest.old j v2 n2 (by omega) hjk
    refine ⟨rl h1, v3, ?_, rx h3⟩
    rw [List.getElem?_append_left (by rw [h.rest.gl]; omega)]
    exact h2
theorem E1.second {w wr : World} {B base : Nat} {rs : List (Value × Nat)} (h : E1 w wr B base rs rs.length 0) : E2 w wr B base rs [] (.slice none 0 0) 0 false :=
  ⟨h.1, rfl, World.ownsRow_nil _ _ _ _, (by simp [Value.ownBlock]), fun j v n hj => by omega, fun j v n _ _ hjk => by
    obtain ⟨xs, h1, h2, _⟩ := h.2 j v n hjk
    rw [h2 (List.getElem?_eq_some_iff.1 hjk).1] at h1
    exact h1⟩
end
section
open Go.RowKit Go.Maps Go.Shelf
open Go.Lib hiding intOf size_eq
theorem E3.app {w wr : World} {B base : Nat} {rs gs : List (Value × Nat)} {gv : Value} {k : Nat} {v v' : Value} {n : Nat} (h : E3 w wr B base rs gs gv k v n v' 64) (hbase : base ≤ w.heap.size) (hN : rs.length ≤ 200) :
    (wr.alloc (.cells #[v'] 22)).ownsRow base 22 1 gv k (gs.map (·.1)) ∧ base ≤ (wr.alloc (.cells #[v'] 22)).heap.size ∧ (∀ (j : Nat) (u : Value), [v'][j]? = some u → (wr.alloc (.cells #[v'] 22)).cell? ((⟨wr.heap.size, 0, none⟩ : Addr).add j) = some u) ∧
      ∀ gv' w6, w6.ownsRow base 22 1 gv' (k + 1) (gs.map (·.1) ++ [v']) → ((gv'.ownBlock = gv.ownBlock ∧ (wr.alloc (.cells #[v'] 22)).grownBy w6 gv.ownBlock) ∨ (gv'.ownBlock = some (wr.alloc (.cells #[v'] 22)).heap.size ∧ (wr.alloc (.cells #[v'] 22)).grownBy w6 none)) →
        E2 w w6 B base rs (gs ++ [(v', n + 64)]) gv' (k + 1) false := by
  have hq := h.quiet hbase hN (grown_alloc (w := wr) (.cells #[v'] 22))
  refine ⟨hq.rest.gr, by have := h.rest.st.bel.size; rw [World.size_alloc]; omega, fun j u hj => ?_, fun gv' w6 ho hs => hq.next hbase hN hs ho⟩
  cases j with
  | zero =>
    injection hj with hj
    subst hj
    show (wr.alloc _).cell? ⟨wr.heap.size, 0, none⟩ = _
    unfold World.cell?
    rw [World.alloc_heap_new]
    rfl
  | succ j => simp at hj
theorem E2.quiet {w wr W : World} {B base : Nat} {rs gs : List (Value × Nat)} {gv : Value} {k : Nat} (h : E2 w wr B base rs gs gv k false) (hbase : base ≤ w.heap.size) (hN : rs.length ≤ 200) (hg : wr.grownBy W none) : E2 w W B base rs gs gv k false :=
  h.grown (v := .bool false) (n' := 0) (kk := k) hbase hg hN (fun _ => rfl) (.inl rfl)
/-- the grown list k as it is read -/
theorem E2.read {w wr : World} {B base : Nat} {rs gs : List (Value × Nat)} {gv : Value} {k N : Nat} (h : E2 w wr B base rs gs gv N false) (hbase : base ≤ w.heap.size) (hk : k < N) {v : Value} {n : Nat} (hkn : rs[k]? = some (v, n)) :
    ∃ (g gcap g2 c2 : Nat) (o : Option Addr) (c : Nat), gv = .slice (some ⟨g, 0, none⟩) N gcap ∧ N ≤ gcap ∧ gcap ≤ maxLen ∧ n + 64 ≤ c2 ∧ c2 ≤ maxLen ∧ v = .slice o n c ∧ n ≤ c ∧ c ≤ maxLen ∧ (∀ i, i < n → ∃ g3, o = some ⟨g3, 0, none⟩) ∧
      ∀ W, wr.grownBy W none → W.cell? ⟨g, k, none⟩ = some (.slice (some ⟨g2, 0, none⟩) (n + 64) c2) ∧ W.cell? ⟨B, k, none⟩ = some v ∧ (∀ i : Nat, i < n + 64 → W.rangeAt g2 (i * 5) (entC (markE k i))) ∧ ∀ (i g3 : Nat), i < n → o = some ⟨g3, 0, none⟩ → W.rangeAt g3 (i * 5) (entC (markE k i)) := by
  obtain ⟨h1, v', h2, h3⟩ := h.old k v n hk hkn
  obtain ⟨o2, c2, rfl, a1, a2, a3⟩ := h3.val
  obtain ⟨g2, rfl⟩ := a3 (by omega)
  obtain ⟨o, c, rfl, b1, b2, b3, b4⟩ := h1
  obtain ⟨q1, q2⟩ := h.gr
  rcases q2 with ⟨rfl, q2⟩ | ⟨g, gcap, cur, rfl, hbg, hg, hnc, hcm, hcs, htk⟩
  · omega
  refine ⟨g, gcap, g2, c2, o, c, rfl, hnc, hcm, a1, a2, rfl, b1, b2, fun i hi => ?_, fun W hW => ⟨?_, ?_, fun i hi => ?_, fun i g3 hi e => ?_⟩⟩
  · obtain ⟨g3, cur3, e, _, _⟩ := b4 i _ hi (marksE_get hi)
    exact ⟨g3, e⟩
  · have hgw : W.heap[g]? = some (.cells cur 22 (0, 0)) := (hW.block g (heap_lt hg) (by simp)).trans hg
    have hx : (gs.map (·.1))[k]? = some (.slice (some ⟨g2, 0, none⟩) (n + 64) c2) := by rw [List.getElem?_map, h2]; rfl
    rw [← htk, List.getElem?_take, if_pos (by omega)] at hx
    exact cell_of_row hgw (by simpa using hx)
  · exact (h.st.grown hW hbase (fun b e => by cases e)).cell hkn
  · obtain ⟨g4, cap4, e, hc⟩ := (h3.grown hW (fun b _ e => by cases e)).look.cell (i := i) (x := markE k i) hi (marksE_get hi)
    injection e with e _ _
    injection e with e
    injection e with e
    subst e
    exact hc
  · obtain ⟨g4, cur4, e4, hg4, hc4⟩ := b4 i _ hi (marksE_get hi)
    rw [e] at e4
    injection e4 with e4
    injection e4 with e4
    subst e4
    exact fun j u hu => cell_of_row ((hW.block g3 (heap_lt hg4) (by simp)).trans hg4) (hc4 j u hu)
end
end
section
open Go.RowKit Go.Maps Go.Shelf
open Go.Lib hiding intOf size_eq
theorem step_store_mid {P : Program} {w : World} {ops : Array Oper} {o : Oper} {a : Act} {K : Act → World → Prop} {Q : Exit → Act → World → Prop} {X : Prop} (hw : Region.wanted o (yielded ops a.tmps) = true) (ty : TypeId) (x y : Operand) (ho : o.op = .store ty x y)
    (b off : Nat) (cells : Array Value) (hx : a.eval x = .pointer (some ⟨b, off, none⟩)) (hy : a.eval y = .agg cells)
    (ht : w.there b off cells.size) (hi : (P.info? ty).map (·.size) = some cells.size) (h1 : cells.all (·.oneCell') = true)
    (h : K (a.put o.dst undef) (w.setCells b off cells.toList)) : if Region.wanted o (yielded ops a.tmps) = true then Oper.wp P o a w K Q else X := by
  rw [if_pos hw]
  exact wp_store_mid ty x y ho b off cells hx hy ht hi h1 h
theorem still_load_guard {P : Program} {w : World} {ops : Array Oper} {rest : List Oper} {o : Oper} {a : Act} {Q : Act → Prop} (hw : Region.wanted o (yielded ops a.tmps) = true) (ty : TypeId) (x : Operand) (ho : o.op = .load ty x)
    (p : Addr) (hx : a.eval x = .pointer (some p)) (cs : List Value) (d : TypeDesc) (hc : ∀ j v, cs[j]? = some v → w.cell? (p.add j) = some v)
    (hu : P.underlying ty = some d) (hd : (match d with | .struct _ | .array _ _ => true | _ => false) = true) (hi : (P.info? ty).map (·.size) = some cs.length)
    (h : wpStill P ops w Q rest (a.put o.dst (.agg cs.toArray))) : wpStill P ops w Q (o :: rest) a := by
  refine wpStill_step (fun K hK => ?_)
  rw [if_pos hw]
  unfold Oper.still execOp
  simp only [ho, hx, Instr.loadAt, Instr.sureAddr, Sem.run_bind, Sem.run_pure, Result.andThen_ok, run_loadVar_at w p ty cs d hc hu hd hi]
  exact ⟨rfl, hK _ h⟩
theorem still_val_eq {P : Program} {w : World} {ops : Array Oper} {rest : List Oper} {o : Oper} {a : Act} {Q : Act → Prop} (v : Value) (hw : Region.wanted o (yielded ops a.tmps) = true) (hx : (execOp a.eval o).run P w = .ok (.value v) w) : wpStill P ops w Q (o :: rest) a = wpStill P ops w Q rest (a.put o.dst v) := by
  show (if Region.wanted o (yielded ops a.tmps) = true then o.still P a w (wpStill P ops w Q rest) else wpStill P ops w Q rest (a.put o.dst undef)) = _
  rw [if_pos hw]
  unfold Oper.still
  rw [hx]
  exact propext ⟨fun h => h.2, fun h => ⟨rfl, h⟩⟩
theorem still_skip_eq {P : Program} {w : World} {ops : Array Oper} {rest : List Oper} {o : Oper} {a : Act} {Q : Act → Prop} (hw : Region.wanted o (yielded ops a.tmps) = false) : wpStill P ops w Q (o :: rest) a = wpStill P ops w Q rest (a.put o.dst undef) := by
  show (if Region.wanted o (yielded ops a.tmps) = true then o.still P a w (wpStill P ops w Q rest) else wpStill P ops w Q rest (a.put o.dst undef)) = _
  rw [if_neg (by rw [hw]; decide)]
theorem lt_cellM {W : World} {a : Addr} {v : Value} (h : W.cell? a = some v) : a.block < W.heap.size := World.block_lt_of_cell? W a h
/-- what the third loops read -/
def RD (W : World) (g k g2 n c2 B : Nat) (o : Option Addr) (c : Nat) : Prop := W.cell? ⟨g, k, none⟩ = some (.slice (some ⟨g2, 0, none⟩) (n + 64) c2) ∧ W.cell? ⟨B, k, none⟩ = some (.slice o n c) ∧ (∀ i : Nat, i < n + 64 → W.rangeAt g2 (i * 5) (entC (markE k i))) ∧ ∀ (i g3 : Nat), i < n → o = some ⟨g3, 0, none⟩ → W.rangeAt g3 (i * 5) (entC (markE k i))
theorem Tryz.infoRowE : (Tryz.prog.info? 22).map (fun i => (i.zero, i.size, i.bytes)) = some (some (.slice none 0 0), 1, 24) := by kernel_rfl
set_option maxRecDepth 100000 in
set_option maxHeartbeats 4000000 in
theorem apartEntries_any (rs : List (Value × Nat)) (B base cap : Nat) (w : World) (hn : rs.length ≤ 200) (hcap : rs.length ≤ cap) (hcm : cap ≤ maxLen) (hbase : base ≤ w.heap.size)
    (hB : w.heap[B]? = some (.cells (rs.map (·.1)).toArray 22 (0, 0))) (hr : ∀ (j : Nat) (v : Value) (n : Nat), rs[j]? = some (v, n) → ∃ xs, RowE w base v n xs) (hd : ApF rs) (hl : ∀ (j : Nat) (v : Value) (n : Nat), rs[j]? = some (v, n) → n ≤ 4194304) :
    Calls Tryz.prog 31 #[.slice (some ⟨B, 0, none⟩) rs.length cap] w fun r w' => r = .returned (.bool true) ∧ Below base w w' := by
  obtain ⟨N, hN⟩ : ∃ N, N = rs.length := ⟨_, rfl⟩
  have h1 : E1 w w B base rs 0 0 := ⟨⟨Below.refl _ _, hB⟩, fun j v n hj => by
    obtain ⟨xs, hx⟩ := hr j v n hj
    exact ⟨xs, hx, fun h => by omega, fun _ a ha => by omega⟩⟩
  rw [← hN] at hn hcap ⊢
  have Hl := Lib.hid hl
  have Hd := Lib.hid hd
  have HN := Lib.hid hN
  have H1 := Lib.hid h1
  have mk := fun (k i : Nat) (W : World) (hk : k ≤ 200) (hi : i ≤ 4194368) => markEnt_any k i W (by omega) (by omega)
  have HM := Lib.hid mk
  clear hB hr hd hl hN h1 mk
  go_enter Tryz.func31, Tryz.ntmps31
  go_upto_block 0 with fail
  go_cut [2] (fun rv wx => rv = .bool false ∧ E1 w wx B base rs N 0)
  case first =>
    go_wp2_with fail
    go_loopw [3, 4] (fun kv _ wr => ∃ (k : Nat), kv = .int .i64 (k : Int) ∧ k ≤ N ∧ E1 w wr B base rs k 0) (fun kv _ _ => N - (intOf kv).toNat)
    case atStart => exact ⟨0, rfl, Nat.zero_le _, H1.out⟩
    case round =>
      obtain ⟨k, rfl, hk, hP⟩ := hrel
      by_cases hlt : k < N
      · obtain ⟨⟨v, n⟩, hkn⟩ : ∃ x, rs[k]? = some x := ⟨_, List.getElem?_eq_getElem (by rw [← HN.out]; exact hlt)⟩
        obtain ⟨xs, hx, _⟩ := hP.2 k v n hkn
        obtain ⟨o, cp, rfl, hnc, hcm2, hog⟩ := hx.val
        have hnl := Hl.out k _ n hkn
        have HP := Lib.hid hP
        have Hkn := Lib.hid hkn
        have Hog := Lib.hid hog
        clear hP hkn hx hog
        go_wp2_with fail
        obtain ⟨wo, hwo⟩ : ∃ x, x = wr := ⟨_, rfl⟩
        subst hwo
        go_loopw [4] (fun iv wr => ∃ (i : Nat), iv = .int .i64 (i : Int) ∧ i ≤ n ∧ E1 w wr B base rs k i) (fun iv _ => n - (intOf iv).toNat)
        case atStart => exact ⟨0, rfl, Nat.zero_le _, HP.out⟩
        case round =>
          obtain ⟨i, rfl, hi, hPi⟩ := hrel
          have c0 := hPi.1.cell Hkn.out
          have HPi := Lib.hid hPi
          clear hPi
          by_cases hilt : i < n
          · obtain ⟨g, rfl⟩ := Hog.out (by omega)
            obtain ⟨xs1, hx1, _, _⟩ := HPi.out.2 k _ n Hkn.out
            obtain ⟨y, hy⟩ : ∃ y, xs1[i]? = some y := ⟨_, List.getElem?_eq_getElem (by rw [hx1.len]; exact hilt)⟩
            obtain ⟨g', cp', hgg, hrg⟩ := hx1.look.cell hilt hy
            injection hgg with hgg _ _
            injection hgg with hgg
            injection hgg with hgg
            subst hgg
            have hnx : ∀ W, Below wr.heap.size wr W → (W.cell? ⟨B, k, none⟩ = some (.slice (some ⟨g, 0, none⟩) n cp) ∧ W.cell? ⟨g, i * 5, none⟩ = some (.string y.p) ∧ W.cell? ⟨g, i * 5 + 1, none⟩ = some (.int .i64 y.k) ∧ W.cell? ⟨g, i * 5 + 2, none⟩ = some (.int .i64 y.m) ∧ W.cell? ⟨g, i * 5 + 3, none⟩ = some (.string y.d) ∧ W.cell? ⟨g, i * 5 + 4, none⟩ = some (.string y.l) ∧ W.frozen? ⟨g, i * 5, none⟩ = false ∧ W.frozen? ⟨g, i * 5 + 1, none⟩ = false ∧ W.frozen? ⟨g, i * 5 + 2, none⟩ = false ∧ W.frozen? ⟨g, i * 5 + 3, none⟩ = false ∧ W.frozen? ⟨g, i * 5 + 4, none⟩ = false) ∧ E1 w (W.setCells g (i * 5) (entC (markE k i))) B base rs k (i + 1) := fun W hW => by
              have hq := HPi.out.quiet hbase (grown_none hW)
              obtain ⟨a1, a2⟩ := hq.set hbase Hd.out Hkn.out hilt
              have hc : ∀ j v, (entC y)[j]? = some v → W.cell? ⟨g, i * 5 + j, none⟩ = some v := fun j v hj => (hW.cell (p := ⟨g, i * 5 + j, none⟩) (lt_cellM (hrg j v hj))).trans (hrg j v hj)
              exact ⟨⟨hq.1.cell Hkn.out, hc 0 _ rfl, hc 1 _ rfl, hc 2 _ rfl, hc 3 _ rfl, hc 4 _ rfl, (a2 0 (by decide)).2, (a2 1 (by decide)).2, (a2 2 (by decide)).2, (a2 3 (by decide)).2, (a2 4 (by decide)).2⟩, a1⟩
            have hsd := (hnx wr.drew (below_drew (Below.refl _ _))).1
            have Hnx := Lib.hid hnx
            clear hnx hx1 hy hrg
            go_wp2_with fail
            clear c0
            have c0d := hsd.1
            clear hsd
            go_region_law (go_simp; go_at_call 75; refine (HM.out k i _ (by omega) (by omega)).mono ?_; rintro r w4 ⟨hb4, rfl⟩
                           obtain ⟨⟨z0, z1, z2, z3, z4, z5, z6, z7, z8, z9, z10⟩, d4⟩ := Hnx.out w4 ⟨hb4.os, hb4.tape, hb4.output, hb4.size, hb4.block⟩
                           have H4 := Lib.hid d4
                           clear hb4 d4)
            all_goals go_wp2_with fail
            all_goals go_roundw
            all_goals first
              | exact ⟨i + 1, by go_num, by omega, H4.out⟩
              | (simp [intOf]; omega)
          · obtain rfl : i = n := by omega
            go_wp2
            go_roundw
            case rel => exact ⟨k + 1, by go_num, by omega, HPi.out.next Hkn.out⟩
            case measure => simp [intOf]; omega
      · obtain rfl : k = N := by omega
        go_wp2
        go_meet
        exact ⟨rfl, hP⟩
  case rest =>
    obtain ⟨rfl, hP⟩ := hcut
    have H2 := Lib.hid (E1.second (HN.out ▸ hP))
    clear hP
    obtain ⟨i0, hi, hz0, hz1, hz2⟩ := info_parts Tryz.infoEntry
    obtain ⟨i1, hi1, hy0, hy1, hy2⟩ := info_parts Tryz.infoRowE
    have Hi := Lib.hid hi
    have Hz0 := Lib.hid hz0
    have Hz1 := Lib.hid hz1
    have Hz2 := Lib.hid hz2
    have Hi1 := Lib.hid hi1
    have Hy0 := Lib.hid hy0
    have Hy1 := Lib.hid hy1
    have Hy2 := Lib.hid hy2
    clear hi hz0 hz1 hz2 hi1 hy0 hy1 hy2
    go_upto_block 4 with fail
    go_cut [2, 5] (fun rv gv wx => rv = .bool false ∧ ∃ gs, E2 w wx B base rs gs gv N false)
    case first =>
      go_wp2_with fail
      go_loopw [5, 6, 7, 8] (fun gv kv _ _ wr => ∃ (k : Nat) (gs : List (Value × Nat)), kv = .int .i64 (k : Int) ∧ k ≤ N ∧ E2 w wr B base rs gs gv k false) (fun _ kv _ _ _ => N - (intOf kv).toNat)
      case atStart => exact ⟨0, [], rfl, Nat.zero_le _, H2.out⟩
      case round =>
        obtain ⟨k, gs, rfl, hk, hP⟩ := hrel
        by_cases hlt : k < N
        · obtain ⟨⟨v, n⟩, hkn⟩ : ∃ x, rs[k]? = some x := ⟨_, List.getElem?_eq_getElem (by rw [← HN.out]; exact hlt)⟩
          obtain ⟨o, cp, rfl, hnc, hcm2, hog⟩ := (hP.new k v n (Nat.le_refl _) (fun e => by cases e) hkn).val
          have hnl := Hl.out k _ n hkn
          have c0 := hP.st.cell hkn
          have HP := Lib.hid (hP.start hkn)
          have Hkn := Lib.hid hkn
          have Hgl := Lib.hid hP.gl
          clear hP hkn hog
          go_wp2_with fail
          obtain ⟨wo, hwo⟩ : ∃ x, x = wr := ⟨_, rfl⟩
          subst hwo
          clear c0
          go_loopw [7, 8] (fun g iv wr => ∃ (i : Nat), iv = .int .i64 (i : Int) ∧ i ≤ 64 ∧ E3 w wr B base rs gs _ k (.slice o n cp) n g i) (fun _ iv _ => 64 - (intOf iv).toNat)
          case atStart => exact ⟨0, rfl, Nat.zero_le _, HP.out⟩
          case round =>
            obtain ⟨i, rfl, hi, hPi⟩ := hrel
            obtain ⟨o2, cp2, rfl, hnc2, hcm3, _⟩ := hPi.row.val
            have c0 := hPi.rest.st.cell Hkn.out
            by_cases hilt : i < 64
            · have hm := HM.out k (n + i)
              rw [show ((n + i : Nat) : Int) = (n : Int) + (i : Int) from by simp] at hm
              have hsz := hPi.rest.st.bel.size
              have hcast : ((n + i : Nat) : Int) = (n : Int) + (i : Int) := by simp
              have nxt : ∀ W, Below wr.heap.size wr W → base ≤ W.heap.size ∧ (∀ (j : Nat) (u : Value), ([.string (bs (markI (k : Int) ((n : Int) + (i : Int)))), .int .i64 0, .int .i64 (-7 - (k : Int)), .string emp, .string emp] : List Value)[j]? = some u → (W.alloc (.cells #[.string (bs (markI (k : Int) ((n : Int) + (i : Int)))), .int .i64 0, .int .i64 (-7 - (k : Int)), .string emp, .string emp] 38)).cell? ((⟨W.heap.size, 0, none⟩ : Addr).add j) = some u) ∧ (W.alloc (.cells #[.string (bs (markI (k : Int) ((n : Int) + (i : Int)))), .int .i64 0, .int .i64 (-7 - (k : Int)), .string emp, .string emp] 38)).ownsRow base 38 5 (.slice o2 (n + i) cp2) (n + i) ((marksE k (n + i)).flatMap entC) ∧ base ≤ (W.alloc (.cells #[.string (bs (markI (k : Int) ((n : Int) + (i : Int)))), .int .i64 0, .int .i64 (-7 - (k : Int)), .string emp, .string emp] 38)).heap.size ∧
                  ∀ v'' w6, w6.ownsRow base 38 5 v'' (n + i + 1) ((marksE k (n + i)).flatMap entC ++ [.string (bs (markI (k : Int) ((n : Int) + (i : Int)))), .int .i64 0, .int .i64 (-7 - (k : Int)), .string emp, .string emp]) →
                    ((v''.ownBlock = (Value.slice o2 (n + i) cp2).ownBlock ∧ (W.alloc (.cells #[.string (bs (markI (k : Int) ((n : Int) + (i : Int)))), .int .i64 0, .int .i64 (-7 - (k : Int)), .string emp, .string emp] 38)).grownBy w6 (Value.slice o2 (n + i) cp2).ownBlock) ∨ (v''.ownBlock = some (W.alloc (.cells #[.string (bs (markI (k : Int) ((n : Int) + (i : Int)))), .int .i64 0, .int .i64 (-7 - (k : Int)), .string emp, .string emp] 38)).heap.size ∧ (W.alloc (.cells #[.string (bs (markI (k : Int) ((n : Int) + (i : Int)))), .int .i64 0, .int .i64 (-7 - (k : Int)), .string emp, .string emp] 38)).grownBy w6 none)) → E3 w w6 B base rs gs _ k (.slice o n cp) n v'' (i + 1) := fun W hW => by
                have hg0 := grown_none hW
                have hq := hPi.quiet hbase (by rw [← HN.out]; exact hn) hg0
                have hq2 := hq.quiet hbase (by rw [← HN.out]; exact hn) (grown_alloc (w := W) (.cells #[.string (bs (markI (k : Int) ((n : Int) + (i : Int)))), .int .i64 0, .int .i64 (-7 - (k : Int)), .string emp, .string emp] 38))
                have hWs := hW.size
                refine ⟨by omega, ent_cells (e := markE (k : Int) ((n : Int) + (i : Int))) (World.alloc_heap_new W _), hq2.row.1, by rw [World.size_alloc]; omega, fun v'' w6 ho hs => hq2.step hbase (by rw [← HN.out]; exact hn) ?_ hs⟩
                rw [hcast]
                exact ho
              have Hm := Lib.hid hm
              have Hnx := Lib.hid nxt
              clear hm nxt hPi hsz
              go_wp2_with (first
                | (go_at_call 75; refine (Hm.out _ (by omega) (by omega)).mono ?_; rintro r w4 ⟨hb4, rfl⟩
                   obtain ⟨d2, d3, d4, d5, d6⟩ := Hnx.out w4 ⟨hb4.os, hb4.tape, hb4.output, hb4.size, hb4.block⟩
                   have D3 := Lib.hid d3
                   have D4 := Lib.hid d4
                   have D6 := Lib.hid d6
                   clear hb4 d3 d4 d6)
                | (refine wpList_append_split rfl _ _ 22 rfl base 38 i0 _ 5 64 Tryz.underlying22 Hi.out Hz0.out Hz1.out Hz2.out rfl (by decide) _ (n + i) _ rfl D4.out ⟨w4.heap.size, 0, none⟩ 1 1 [.string (bs (markI (k : Int) ((n : Int) + (i : Int)))), .int .i64 0, .int .i64 (-7 - (k : Int)), .string emp, .string emp] rfl rfl D3.out (by simp [Value.oneCell']) (by unfold maxLen; omega) (by omega) d5 ?_
                   intro v'' w6 ho6 _ hs6
                   have H6 := Lib.hid (D6.out v'' w6 ho6 hs6)
                   clear ho6 hs6))
              go_roundw
              case rel => exact ⟨i + 1, by go_num, by omega, H6.out⟩
              case measure => simp [intOf]; omega
            · obtain rfl : i = 64 := by omega
              have nxt := hPi.app hbase (by rw [← HN.out]; exact hn)
              obtain ⟨d4, d5, d3, d6⟩ := nxt
              have D3 := Lib.hid d3
              have D4 := Lib.hid d4
              have D6 := Lib.hid d6
              clear d3 d4 d6 hPi
              go_wp2_with (first
                | (refine wpList_append_split rfl _ _ 60 rfl base 22 i1 (.slice none 0 0) 1 24 Tryz.underlying60 Hi1.out Hy0.out Hy1.out Hy2.out rfl (by decide) _ k _ rfl D4.out ⟨wr.heap.size, 0, none⟩ 1 1 [.slice o2 (n + 64) cp2] rfl rfl D3.out (by intro u hu; rw [List.mem_singleton.1 hu]; rfl) (by unfold maxLen; omega) (by omega) d5 ?_
                   intro v'' w6 ho6 _ hs6
                   have H6 := Lib.hid (D6.out v'' w6 ho6 hs6)
                   clear ho6 hs6))
              go_roundw
              case rel => exact ⟨k + 1, _, by go_num, by omega, H6.out⟩
              case measure => simp [intOf]; omega
        · obtain rfl : k = N := by omega
          go_wp2
          go_meet
          exact ⟨rfl, gs, hP⟩
    case rest =>
      obtain ⟨rfl, gs, hP⟩ := hcut
      have HP := Lib.hid hP
      clear hP
      go_wp2_with fail
      go_loopw [9, 10, 11] (fun kv _ _ wr => ∃ (k : Nat), kv = .int .i64 (k : Int) ∧ k ≤ N ∧ E2 w wr B base rs gs _ N false) (fun kv _ _ _ => N - (intOf kv).toNat)
      case atStart => exact ⟨0, rfl, Nat.zero_le _, HP.out⟩
      case round =>
        obtain ⟨k, rfl, hk, hP⟩ := hrel
        by_cases hlt : k < N
        · obtain ⟨⟨v, n⟩, hkn⟩ : ∃ x, rs[k]? = some x := ⟨_, List.getElem?_eq_getElem (by rw [← HN.out]; exact hlt)⟩
          have hnl := Hl.out k _ n hkn
          obtain ⟨g, gcap, g2, c2, o, c, rfl, e1, e2, e3, e4, rfl, e5, e6, e7, e8⟩ := hP.read hbase hlt hkn
          have HP := Lib.hid hP
          have Hkn := Lib.hid hkn
          have E7 := Lib.hid e7
          obtain ⟨f1, f2, f3, f4⟩ := e8 wr (grown_none (Below.refl _ _))
          have E8 := Lib.hid e8
          clear hP hkn e7 e8 f3 f4
          go_wp2_with fail
          obtain ⟨wo, hwo⟩ : ∃ x, x = wr := ⟨_, rfl⟩
          subst hwo
          go_loopw [10, 11] (fun iv _ wr => ∃ (i : Nat), iv = .int .i64 (i : Int) ∧ i ≤ n + 64 ∧ E2 w wr B base rs gs (.slice (some ⟨g, 0, none⟩) N gcap) N false ∧ ∀ W, wr.grownBy W none → RD W g k g2 n c2 B o c) (fun iv _ _ => n + 64 - (intOf iv).toNat)
          case atStart => exact ⟨0, rfl, by omega, HP.out, E8.out⟩
          case round =>
            obtain ⟨i, rfl, hi, hPi, hci⟩ := hrel
            obtain ⟨f1, f2, f3, f4⟩ := hci wr (grown_none (Below.refl _ _))
            by_cases hilt : i < n + 64
            · have hm := HM.out k i
              have mid : ∀ w4, Below wr.heap.size wr w4 → Below wr.heap.size wr ((w4.alloc (.cells #[.string ⟨#[]⟩, .int .i64 0, .int .i64 0, .string ⟨#[]⟩, .string ⟨#[]⟩] 38)).setRow w4.heap.size #[.string (bs (markI (k : Int) (i : Int))), .int .i64 0, .int .i64 (-7 - (k : Int)), .string emp, .string emp]) ∧
                  (w4.alloc (.cells #[.string ⟨#[]⟩, .int .i64 0, .int .i64 0, .string ⟨#[]⟩, .string ⟨#[]⟩] 38)).heap[w4.heap.size]? = some (.cells #[.string ⟨#[]⟩, .int .i64 0, .int .i64 0, .string ⟨#[]⟩, .string ⟨#[]⟩] 38 (0, 0)) ∧
                  ((w4.alloc (.cells #[.string ⟨#[]⟩, .int .i64 0, .int .i64 0, .string ⟨#[]⟩, .string ⟨#[]⟩] 38)).setRow w4.heap.size #[.string (bs (markI (k : Int) (i : Int))), .int .i64 0, .int .i64 (-7 - (k : Int)), .string emp, .string emp]).heap[w4.heap.size]? = some (.cells #[.string (bs (markI (k : Int) (i : Int))), .int .i64 0, .int .i64 (-7 - (k : Int)), .string emp, .string emp] 38 (0, 0)) := fun w4 hW => by
                have h1 := World.alloc_heap_new w4 (.cells #[.string ⟨#[]⟩, .int .i64 0, .int .i64 0, .string ⟨#[]⟩, .string ⟨#[]⟩] 38)
                refine ⟨?_, h1, setRow_at h1⟩
                have h2 := hW.alloc hW.size (.cells #[.string ⟨#[]⟩, .int .i64 0, .int .i64 0, .string ⟨#[]⟩, .string ⟨#[]⟩] 38)
                exact ⟨h2.os, h2.tape, h2.output, by simpa using h2.size, fun j hj => (setRow_other _ w4.heap.size j _ (by have := hW.size; omega)).trans (h2.block j hj)⟩
              have nxt : ∀ W, Below wr.heap.size wr W → RD W g k g2 n c2 B o c ∧ E2 w W B base rs gs (.slice (some ⟨g, 0, none⟩) N gcap) N false ∧ ∀ W', W.grownBy W' none → RD W' g k g2 n c2 B o c := fun W hW =>
                ⟨hci W (grown_none hW), hPi.quiet hbase (by rw [← HN.out]; exact hn) (grown_none hW), fun W' hW' => hci W' (grown_trans (grown_none hW) hW')⟩
              have Hm := Lib.hid hm
              have Hnx := Lib.hid nxt
              have Hmid := Lib.hid mid
              have Hone := Lib.hid (show (#[.string (bs (markI (k : Int) (i : Int))), .int .i64 0, .int .i64 (-7 - (k : Int)), .string emp, .string emp] : Array Value).all (·.oneCell') = true by simp [Value.oneCell'])
              clear hm nxt mid hPi hci f2 f3 f4
              go_wp2_with (first
                | (go_at_call 75; refine (Hm.out _ (by omega) (by omega)).mono ?_; rintro r w4 ⟨hb4, rfl⟩
                   obtain ⟨m1, m2, m3⟩ := Hmid.out w4 ⟨hb4.os, hb4.tape, hb4.output, hb4.size, hb4.block⟩
                   obtain ⟨w5, hw5⟩ : ∃ x, x = (w4.alloc (.cells #[.string ⟨#[]⟩, .int .i64 0, .int .i64 0, .string ⟨#[]⟩, .string ⟨#[]⟩] 38)).setRow w4.heap.size #[.string (bs (markI (k : Int) (i : Int))), .int .i64 0, .int .i64 (-7 - (k : Int)), .string emp, .string emp] := ⟨_, rfl⟩
                   have HW5 := Lib.hid hw5
                   have B6 := Lib.hid (show Below wr.heap.size wr w5 from (by rw [hw5]; exact m1))
                   have M2 := Lib.hid m2
                   have C6 := Lib.hid (ent_cells (e := markE (k : Int) (i : Int)) (show w5.heap[w4.heap.size]? = some (.cells #[.string (bs (markI (k : Int) (i : Int))), .int .i64 0, .int .i64 (-7 - (k : Int)), .string emp, .string emp] 38 (0, 0)) from (by rw [hw5]; exact m3)))
                   clear hb4 m1 m2 m3 hw5)
                | (refine wpList_store_row rfl _ _ _ rfl w4.heap.size #[.string (bs (markI (k : Int) (i : Int))), .int .i64 0, .int .i64 (-7 - (k : Int)), .string emp, .string emp] rfl rfl 38 _ M2.out (by kernel_rfl) rfl Hone.out ?_; rw [← HW5.out]
                   clear M2))
              generalize w4.heap.size = b5 at *
              obtain ⟨⟨q1, q2, q3, q4⟩, q5, q6⟩ := Hnx.out w5.drew (below_drew B6.out)
              have hc6 := C6.out
              have c60 : w5.drew.cell? ⟨b5, 0, none⟩ = some (.string (bs (markI (k : Int) (i : Int)))) := hc6 0 _ rfl
              have c61 : w5.drew.cell? ⟨b5, 1, none⟩ = some (.int .i64 0) := hc6 1 _ rfl
              have c62 : w5.drew.cell? ⟨b5, 2, none⟩ = some (.int .i64 (-7 - (k : Int))) := hc6 2 _ rfl
              have c63 : w5.drew.cell? ⟨b5, 3, none⟩ = some (.string emp) := hc6 3 _ rfl
              have c64 : w5.drew.cell? ⟨b5, 4, none⟩ = some (.string emp) := hc6 4 _ rfl
              have q3' := q3 i hilt
              have Q5 := Lib.hid q5
              have Q6 := Lib.hid q6
              clear q3 q5 q6 B6 hc6 Hnx Hmid Hone Hm HW5 f1
              by_cases hin : i < n
              · obtain ⟨g3, rfl⟩ := E7.out i hin
                have q4' := q4 i g3 hin rfl
                have hsd : w5.drew.cell? ⟨g, k, none⟩ = some (.slice (some ⟨g2, 0, none⟩) (n + 64) c2) ∧ w5.drew.cell? ⟨B, k, none⟩ = some (.slice (some ⟨g3, 0, none⟩) n c) ∧ w5.drew.cell? ⟨g2, i * 5, none⟩ = some (.string (bs (markI (k : Int) (i : Int)))) ∧ w5.drew.cell? ⟨g2, i * 5 + 1, none⟩ = some (.int .i64 0) ∧ w5.drew.cell? ⟨g2, i * 5 + 2, none⟩ = some (.int .i64 (-7 - (k : Int))) ∧ w5.drew.cell? ⟨g2, i * 5 + 3, none⟩ = some (.string emp) ∧ w5.drew.cell? ⟨g2, i * 5 + 4, none⟩ = some (.string emp) ∧ w5.drew.cell? ⟨b5, 0, none⟩ = some (.string (bs (markI (k : Int) (i : Int)))) ∧ w5.drew.cell? ⟨b5, 1, none⟩ = some (.int .i64 0) ∧ w5.drew.cell? ⟨b5, 2, none⟩ = some (.int .i64 (-7 - (k : Int))) ∧ w5.drew.cell? ⟨b5, 3, none⟩ = some (.string emp) ∧ w5.drew.cell? ⟨b5, 4, none⟩ = some (.string emp) ∧ w5.drew.cell? ⟨g3, i * 5, none⟩ = some (.string (bs (markI (k : Int) (i : Int)))) ∧ w5.drew.cell? ⟨g3, i * 5 + 1, none⟩ = some (.int .i64 0) ∧ w5.drew.cell? ⟨g3, i * 5 + 2, none⟩ = some (.int .i64 (-7 - (k : Int))) ∧ w5.drew.cell? ⟨g3, i * 5 + 3, none⟩ = some (.string emp) ∧ w5.drew.cell? ⟨g3, i * 5 + 4, none⟩ = some (.string emp) :=
                  ⟨q1, q2, q3' 0 _ rfl, q3' 1 _ rfl, q3' 2 _ rfl, q3' 3 _ rfl, q3' 4 _ rfl, c60, c61, c62, c63, c64, q4' 0 _ rfl, q4' 1 _ rfl, q4' 2 _ rfl, q4' 3 _ rfl, q4' 4 _ rfl⟩
                clear q1 q2 q3' q4 q4' c60 c61 c62 c63 c64
                go_region_held3 (fun W => W.cell? ⟨g, k, none⟩ = some (.slice (some ⟨g2, 0, none⟩) (n + 64) c2) ∧ W.cell? ⟨B, k, none⟩ = some (.slice (some ⟨g3, 0, none⟩) n c) ∧ W.cell? ⟨g2, i * 5, none⟩ = some (.string (bs (markI (k : Int) (i : Int)))) ∧ W.cell? ⟨g2, i * 5 + 1, none⟩ = some (.int .i64 0) ∧ W.cell? ⟨g2, i * 5 + 2, none⟩ = some (.int .i64 (-7 - (k : Int))) ∧ W.cell? ⟨g2, i * 5 + 3, none⟩ = some (.string emp) ∧ W.cell? ⟨g2, i * 5 + 4, none⟩ = some (.string emp) ∧ W.cell? ⟨b5, 0, none⟩ = some (.string (bs (markI (k : Int) (i : Int)))) ∧ W.cell? ⟨b5, 1, none⟩ = some (.int .i64 0) ∧ W.cell? ⟨b5, 2, none⟩ = some (.int .i64 (-7 - (k : Int))) ∧ W.cell? ⟨b5, 3, none⟩ = some (.string emp) ∧ W.cell? ⟨b5, 4, none⟩ = some (.string emp) ∧ W.cell? ⟨g3, i * 5, none⟩ = some (.string (bs (markI (k : Int) (i : Int)))) ∧ W.cell? ⟨g3, i * 5 + 1, none⟩ = some (.int .i64 0) ∧ W.cell? ⟨g3, i * 5 + 2, none⟩ = some (.int .i64 (-7 - (k : Int))) ∧ W.cell? ⟨g3, i * 5 + 3, none⟩ = some (.string emp) ∧ W.cell? ⟨g3, i * 5 + 4, none⟩ = some (.string emp)) (first | assumption | go_keep) (fail)
                go_wp2_with fail
                go_roundw
                case rel => exact ⟨i + 1, by go_num, by omega, Q5.out, Q6.out⟩
                case measure => simp [intOf]; omega
              · have hg2 : ∀ j v, (entC (markE (k : Int) (i : Int)))[j]? = some v → w5.drew.cell? ((⟨g2, i * 5, none⟩ : Addr).add j) = some v := fun j v hj => by rw [Addr.add_mid]; exact q3' j v hj
                have hg5 : ∀ j v, (entC (markE (k : Int) (i : Int)))[j]? = some v → w5.drew.cell? ((⟨b5, 0, none⟩ : Addr).add j) = some v := C6.out
                have HG2 := Lib.hid hg2
                have HG5 := Lib.hid hg5
                clear q3' q4 c60 c61 c62 c63 c64 hg2 hg5 C6
                refine region_still_name2 (by kernel_rfl) (by kernel_rfl) ?_
                intro wz hz
                rw [← hz] at q1 q2 HG2 HG5 Q5 Q6
                clear hz
                iterate 6 still_step
                refine still_load_guard (by rfl) _ _ rfl ⟨g2, i * 5, none⟩ rfl [.string (bs (markI (k : Int) (i : Int))), .int .i64 0, .int .i64 (-7 - (k : Int)), .string emp, .string emp] _ HG2.out Tryz.underlying38 rfl (by kernel_rfl) ?_
                refine still_load_guard (by rfl) _ _ rfl ⟨b5, 0, none⟩ rfl [.string (bs (markI (k : Int) (i : Int))), .int .i64 0, .int .i64 (-7 - (k : Int)), .string emp, .string emp] _ HG5.out Tryz.underlying38 rfl (by kernel_rfl) ?_
                iterate 10 still_step
                iterate 9 (rw [still_skip_eq]; rotate_left; rfl; simp only [Act.put, List.setIfInBounds_toArray, List.set_cons_zero, List.set_cons_succ])
                rw [still_val_eq (v := .bool false)]
                rotate_left
                rfl
                rfl
                simp only [Act.put, List.setIfInBounds_toArray, List.set_cons_zero, List.set_cons_succ]
                rw [still_val_eq (v := .bool false)]
                rotate_left
                rfl
                rfl
                simp only [Act.put, List.setIfInBounds_toArray, List.set_cons_zero, List.set_cons_succ]
                refine wpStill_nil ?_
                go_wp2_with fail
                go_roundw
                case rel => exact ⟨i + 1, by go_num, by omega, Q5.out, Q6.out⟩
                case measure => simp [intOf]; omega
            · obtain rfl : i = n + 64 := by omega
              have HPi := Lib.hid hPi
              clear hPi hci f2 f3 f4
              go_wp2
              go_roundw
              case rel => exact ⟨k + 1, by go_num, by omega, HPi.out⟩
              case measure => simp [intOf]; omega
        · obtain rfl : k = N := by omega
          go_wp2
          go_ret
          exact ⟨rfl, hP.st.bel⟩
end
section
open Go.RowKit Go.Maps
open Go.Lib hiding intOf size_eq
/-- an entry whose path is cut -/
def cutE (n : Nat) (x : Ent) : Ent := { x with p := x.p.extract n x.p.size }
def underF (p : List UInt8) (x : Ent) : Bool := belowP p x.path
def underL (l : List Ent) (p : List UInt8) : List Ent := l.filter (underF p)
/-- what is wrong with a question for what lies below a path -/
def subNo (l : List Ent) (p : List UInt8) : Nat := if (checkL l).1 ≠ 0 then (checkL l).1 else if p = [] then 0 else match lookE l p with
  | none => 10
  | some x => if x.k = 1 then 0 else 13
def subAt (l : List Ent) : Int := if (checkL l).1 ≠ 0 then ((checkL l).2 : Int) else -1
def subL (l : List Ent) (p : List UInt8) : List Ent := if subNo l p ≠ 0 then [] else if p = [] then l else (underL l p).map (cutE (p.length + 1))
theorem under_le (l : List Ent) (p : List UInt8) : (underL l p).length ≤ l.length := List.length_filter_le _ _
theorem under_small {l : List Ent} (h : Small l) (p : List UInt8) : Small (underL l p) := fun e he => h e (List.mem_filter.1 he).1
theorem under_long {l : List Ent} {p : List UInt8} {k : Nat} {x : Ent} (hp : p ≠ []) (hx : (underL l p)[k]? = some x) : p.length + 1 ≤ x.p.size := by
  have h1 := (List.mem_filter.1 (List.mem_of_getElem? hx)).2
  obtain ⟨t, ht⟩ := (below_pre hp).1 h1
  have h2 : x.p.size = x.path.length := rfl
  rw [h2, ht]
  simp
/-- the first k cut -/
def mixE (c : Nat) (k : Nat) (U : List Ent) : List Ent := (U.take k).map (cutE c) ++ U.drop k
theorem mixE_zero (c : Nat) (U : List Ent) : mixE c 0 U = U := by simp [mixE]
theorem mixE_all (c : Nat) (U : List Ent) : mixE c U.length U = U.map (cutE c) := by simp [mixE]
theorem mixE_get {c k : Nat} {U : List Ent} {x : Ent} (h : U[k]? = some x) : (mixE c k U)[k]? = some x := by
  have hk := (List.getElem?_eq_some_iff.1 h).1
  unfold mixE
  rw [List.getElem?_append_right (by simp; omega), List.getElem?_drop]
  have : k + (k - ((U.take k).map (cutE c)).length) = k := by simp; omega
  rw [this, h]
theorem mixE_step {c k : Nat} {U : List Ent} {x : Ent} (h : U[k]? = some x) : (mixE c k U).set k (cutE c x) = mixE c (k + 1) U := by
  have hk := (List.getElem?_eq_some_iff.1 h).1
  have hl : ((U.take k).map (cutE c)).length = k := by simp; omega
  unfold mixE
  rw [List.set_append_right _ _ (by omega), hl, Nat.sub_self, drop_step h, ← take_step h, List.map_append]
  simp
theorem row_setPath {W : World} {base : Nat} {n g cap i : Nat} {xs : List Ent} {e : Ent} (h : W.ownsRow base 38 5 (.slice (some ⟨g, 0, none⟩) n cap) n (xs.flatMap entC)) (hx : xs[i]? = some e) (q : ByteArray) :
    (W.setCell ⟨g, i * 5, none⟩ (.string q)).ownsRow base 38 5 (.slice (some ⟨g, 0, none⟩) n cap) n ((xs.set i { e with p := q }).flatMap entC) ∧ W.frozen? ⟨g, i * 5, none⟩ = false ∧ W.cell? ⟨g, i * 5, none⟩ = some (.string e.p) ∧ base ≤ g := by
  obtain ⟨h1, h2⟩ := h
  have hlen : xs.length = n := by rw [flat_len] at h1; omega
  have hi : i < n := by rw [← hlen]; exact (List.getElem?_eq_some_iff.1 hx).1
  rcases h2 with ⟨e0, _⟩ | ⟨g2, cap2, cur, e0, hb, hg, hnc, hcm, hcs, htk⟩
  · cases e0
  · injection e0 with e1 e2 e3
    injection e1 with e1
    injection e1 with e1
    subst e1
    subst e3
    have hset := Go.heap_setCell_same W g (i * 5) cur 38 (.string q) hg
    refine ⟨⟨by rw [flat_len, List.length_set, hlen], .inr ⟨g, cap, _, rfl, hb, hset, hnc, hcm, by simpa using hcs, ?_⟩⟩, frozen_of_row hg, ?_, hb⟩
    · apply List.ext_getElem?
      intro j
      by_cases hj : j < n * 5
      · rw [List.getElem?_take, if_pos hj, Array.getElem?_toList, Array.getElem?_setIfInBounds]
        obtain ⟨x, he, hf⟩ := flat_at (xs := xs.set i { e with p := q }) (j := j) (by rw [List.length_set]; omega)
        obtain ⟨x2, he2, hf2⟩ := flat_at (xs := xs) (j := j) (by omega)
        have hold : cur[j]? = (entC x2)[j % 5]? := by rw [← hf2, ← htk, List.getElem?_take, if_pos hj, Array.getElem?_toList]
        rw [hf, hold]
        rw [List.getElem?_set] at he
        by_cases hq : i = j / 5
        · rw [if_pos hq, if_pos (by omega)] at he
          injection he with he
          subst he
          rw [← hq, hx] at he2
          injection he2 with he2
          subst he2
          by_cases h0 : i * 5 = j
          · rw [if_pos h0, if_pos (by omega), show j % 5 = 0 by omega]
            rfl
          · rw [if_neg h0]
            obtain ⟨r, hr⟩ : ∃ r, j % 5 = r + 1 := ⟨j % 5 - 1, by omega⟩
            rw [hr]
            rfl
        · rw [if_neg hq] at he
          rw [if_neg (by omega)]
          rw [he] at he2
          injection he2 with he2
          rw [he2]
      · rw [List.getElem?_take, if_neg hj, List.getElem?_eq_none (by rw [flat_len, List.length_set]; omega)]
    · obtain ⟨x2, he2, hf2⟩ := flat_at (xs := xs) (j := i * 5) (by omega)
      rw [show i * 5 / 5 = i by omega, hx] at he2
      injection he2 with he2
      subst he2
      refine cell_of_row hg ?_
      have h3 : cur[i * 5]? = (entC e)[i * 5 % 5]? := by rw [← hf2, ← htk, List.getElem?_take, if_pos (by omega), Array.getElem?_toList]
      rw [h3, show i * 5 % 5 = 0 by omega]
      rfl
set_option maxRecDepth 100000 in
set_option maxHeartbeats 2000000 in
theorem under07_any (v : Value) (L : List Ent) (p : ByteArray) (w : World) (h : EntsAt w v L) (hb : Small L) (hl : L.length ≤ 1099511627776) (hp : p.size < 1152921504606846976) :
    Calls Tryz.prog 74 #[v, .string p] w fun r w' => ∃ v', r = .returned v' ∧ w'.ownsRow w.heap.size 38 5 v' (underL L p.data.toList).length ((underL L p.data.toList).flatMap entC) ∧ Below w.heap.size w w' := by
  obtain ⟨i0, hi, hz0, hz1, hz2⟩ := info_parts Tryz.infoEntry
  obtain ⟨o, cap, rfl, hlc, hcm, hcells⟩ := h
  obtain ⟨n, hn⟩ : ∃ n, n = L.length := ⟨_, rfl⟩
  rw [← hn] at hlc hl ⊢
  have Hi := Lib.hid hi
  have Hz0 := Lib.hid hz0
  have Hz1 := Lib.hid hz1
  have Hz2 := Lib.hid hz2
  have Hcells := Lib.hid hcells
  have Hn := Lib.hid hn
  have Hb := Lib.hid hb
  have HB := Lib.hid (fun (e : Ent) (he : e ∈ L) (W : World) => rbelow_any p e.p W (by omega) (hb e he).1)
  clear hcells hn hi hz0 hz1 hz2 hb
  go_enter Tryz.func74, Tryz.ntmps74
  go_wp2
  go_loopw [5, 6] (fun ov iv wr => ∃ (k m : Nat), iv = .int .i64 (k : Int) ∧ k ≤ n ∧ m ≤ k ∧ m = ((L.take k).filter (underF p.data.toList)).length ∧ wr.ownsRow w.heap.size 38 5 ov m (((L.take k).filter (underF p.data.toList)).flatMap entC) ∧ Below w.heap.size w wr) (fun _ iv _ => n - (intOf iv).toNat)
  case atStart => exact ⟨0, 0, rfl, Nat.zero_le _, Nat.le_refl _, rfl, World.ownsRow_nil _ _ _ _, Below.refl _ _⟩
  case round =>
    obtain ⟨k, m, rfl, hk, hmk, hm, hrow, hbr⟩ := hrel
    have hbs := hbr.size
    by_cases hlt : k < n
    · obtain ⟨e, hek⟩ : ∃ e, L[k]? = some e := ⟨_, List.getElem?_eq_getElem (by rw [← Hn.out]; exact hlt)⟩
      obtain ⟨a, rfl, hal, hcs⟩ := Hcells.out k e hek
      have hem := List.mem_of_getElem? hek
      have hcw : ∀ j x, (entC e)[j]? = some x → wr.cell? ((a.add (k * 5)).add j) = some x := fun j x hx => by
        have := hcs j x hx
        unfold World.cell? at this ⊢
        rw [hbr.block _ (by rw [add_block, add_block]; omega)]
        exact this
      have c0 : wr.cell? (a.add (k * 5)) = some (.string e.p) := by rw [← add_zero' (a.add (k * 5))]; exact hcw 0 _ rfl
      have hnew : ∀ j u, (entC e)[j]? = some u → (wr.alloc (.cells #[.string e.p, .int .i64 e.k, .int .i64 e.m, .string e.d, .string e.l] 38)).cell? ((⟨wr.heap.size, 0, none⟩ : Addr).add j) = some u := ent_cells (World.alloc_heap_new wr _)
      have Hcw := Lib.hid hcw
      have Hnew := Lib.hid hnew
      have Hrow := Lib.hid hrow
      have Hbr := Lib.hid hbr
      have HBe := Lib.hid (HB.out e hem)
      have hfs := filter_step (f := underF p.data.toList) hek
      have Hm := Lib.hid hm
      clear hcw hnew hrow hbr hcs hek hem hm
      by_cases hbl : belowP p.data.toList e.p.data.toList = true
      · rw [if_pos (show underF p.data.toList e = true from hbl)] at hfs
        have Hstep := Lib.hid (show ((L.take k).filter (underF p.data.toList)).flatMap entC ++ entC e = ((L.take (k + 1)).filter (underF p.data.toList)).flatMap entC by rw [hfs, flat_one])
        have Hlen := Lib.hid (show ((L.take (k + 1)).filter (underF p.data.toList)).length = m + 1 by rw [hfs, List.length_append, ← Hm.out]; rfl)
        rw [hbl] at HBe
        clear hfs hbl
        go_wp2_with (first
          | (go_at_call 107; refine (HBe.out _).mono ?_; rintro r w4 ⟨rfl, rfl⟩)
          | (refine wpList_load_at rfl _ _ rfl (a.add (k * 5)) rfl [.string e.p, .int .i64 e.k, .int .i64 e.m, .string e.d, .string e.l] _ Hcw.out Tryz.underlying38 rfl (by kernel_rfl) ?_)
          | (at_builtin; go_loud (refine wpList_append_own _ rfl _ _ 22 rfl w.heap.size 38 i0 _ 5 64 Tryz.underlying22 Hi.out Hz0.out Hz1.out Hz2.out rfl (by decide) _ _ _ rfl (Hrow.out.alloc _) ⟨wr.heap.size, 0, none⟩ 1 1 [.string e.p, .int .i64 e.k, .int .i64 e.m, .string e.d, .string e.l] rfl rfl Hnew.out (by simp [Value.oneCell']) (by unfold maxLen; omega) (by omega) (by simp; omega) ?_); intro v' w2 hown' hgrow _))
        go_roundw
        case rel => exact ⟨k + 1, m + 1, by go_num, by omega, by omega, Hlen.out.symm, by rw [← Hstep.out]; exact hown', (Hbr.out.alloc (by omega) _).grown hgrow (by simp; omega) (fun k e => (World.ownsRow.lt Hrow.out k e).1)⟩
        case measure => simp [intOf]; omega
      · have hbl2 : belowP p.data.toList e.p.data.toList = false := by simpa using hbl
        rw [if_neg (show ¬ underF p.data.toList e = true from hbl), List.append_nil] at hfs
        have Hfs := Lib.hid hfs
        rw [hbl2] at HBe
        clear hfs hbl hbl2
        go_wp2_with (first
          | (go_at_call 107; refine (HBe.out _).mono ?_; rintro r w4 ⟨rfl, rfl⟩))
        go_roundw
        case rel => exact ⟨k + 1, m, by go_num, by omega, by omega, by rw [Hfs.out]; exact Hm.out, by rw [Hfs.out]; exact Hrow.out, Hbr.out⟩
        case measure => simp [intOf]; omega
    · obtain rfl : k = n := by omega
      have hrow2 : wr.ownsRow w.heap.size 38 5 u5 (underL L p.data.toList).length ((underL L p.data.toList).flatMap entC) := by
        rw [hm, Hn.out, List.take_length] at hrow
        exact hrow
      have Hrow2 := Lib.hid hrow2
      have Hbr := Lib.hid hbr
      clear hrow hbr hrow2 hm
      go_wp2
      go_ret
      exact ⟨_, rfl, Hrow2.out, Hbr.out⟩
end
section
open Go.RowKit Go.Maps
open Go.Lib hiding intOf size_eq
theorem nil_ents (w : World) : EntsAt w (.slice none 0 0) [] := ⟨none, 0, rfl, Nat.le_refl _, by simp, fun i e he => by cases he⟩
theorem row_val {W : World} {base n : Nat} {v : Value} {xs : List Value} {e : TypeId} (h : W.ownsRow base e 5 v n xs) : ∃ o cap, v = .slice o n cap ∧ n ≤ cap ∧ cap ≤ maxLen ∧ (0 < n → ∃ g, o = some ⟨g, 0, none⟩) := by
  obtain ⟨_, h2⟩ := h
  rcases h2 with ⟨rfl, h0⟩ | ⟨g, cap, cur, rfl, hb, hg, hnc, hcm, hcs, htk⟩
  · exact ⟨none, 0, by rw [h0], by omega, by simp, fun x => by omega⟩
  · exact ⟨_, cap, rfl, hnc, hcm, fun _ => ⟨g, rfl⟩⟩
set_option maxRecDepth 100000 in
set_option maxHeartbeats 4000000 in
theorem rsub07_any (v : Value) (L : List Ent) (p : ByteArray) (w : World) (h : EntsAt w v L) (hS : ∀ x ∈ L, x.p.size ≤ 1099511627776 ∧ x.l.size ≤ 1099511627776 ∧ x.d.size ≤ 1099511627776) (hl : L.length ≤ 1048576) (hp : p.size ≤ 1048576) :
    Calls Tryz.prog 28 #[v, .string p] w fun r w' => ∃ v', r = .returned (.tuple #[v', .int .i64 (subNo L p.data.toList : Int), .int .i64 (subAt L)]) ∧ EntsAt w' v' (subL L p.data.toList) ∧ Below w.heap.size w w' := by
  have hb : Small L := fun e he => by have := hS e he; exact ⟨by omega, by omega, by omega⟩
  have hck := rcheck07_any v L w h hS (by omega)
  have hE := h
  have HE := Lib.hid hE
  have hcopy := fun W (hW : Below w.heap.size w W) => copy_any v L W (HE.out.below hW (Nat.le_refl _)) (by omega)
  have hfind := fun W (hW : Below w.heap.size w W) => find07_any v L p W (HE.out.below hW (Nat.le_refl _)) (by omega) (fun e he => by have := (hb e he).1; omega) (by omega)
  have hunder := fun W (hW : Below w.heap.size w W) => under07_any v L p W (HE.out.below hW (Nat.le_refl _)) hb (by omega) (by omega)
  obtain ⟨o, cap, rfl, hlc, hcm, hcells⟩ := h
  have Hck := Lib.hid hck
  have Hcopy := Lib.hid hcopy
  have Hfind := Lib.hid hfind
  have Hunder := Lib.hid hunder
  have Hcells := Lib.hid hcells
  have HSz := Lib.hid hS
  clear hck hcopy hfind hunder hcells hE hb hS
  by_cases hc : (checkL L).1 ≠ 0
  · have hN : subNo L p.data.toList = (checkL L).1 := by unfold subNo; rw [if_pos hc]
    have hA : subAt L = ((checkL L).2 : Int) := by unfold subAt; rw [if_pos hc]
    have hL : subL L p.data.toList = [] := by unfold subL; rw [if_pos (by rw [hN]; exact hc)]
    rw [hN, hA, hL]
    generalize (checkL L).1 = N at *
    generalize (checkL L).2 = A at *
    have b0 : ((N : Int) == 0) = false := by simp; omega
    clear hN hA hL hc
    generalize L.length = n at *
    go_enter Tryz.func28, Tryz.ntmps28
    go_wp2_with (first
      | (go_at_call 11; refine Hck.out.mono ?_; rintro r w1 ⟨rfl, hb1⟩; have B1 := Lib.hid hb1; clear hb1))
    go_ret3
    exact ⟨_, rfl, nil_ents _, B1.out⟩
  have hc0 : (checkL L).1 = 0 := by omega
  have hA : subAt L = -1 := by unfold subAt; rw [if_neg hc]
  rw [hA]
  rw [hc0] at Hck
  generalize (checkL L).2 = A at *
  by_cases hpe : p.data.toList = []
  · have hN : subNo L p.data.toList = 0 := by unfold subNo; rw [if_neg hc, if_pos hpe]
    have hL : subL L p.data.toList = L := by unfold subL; rw [if_neg (by rw [hN]; exact fun x => x rfl), if_pos hpe]
    rw [hN, hL]
    have b1 := emptyB_t hpe
    clear hN hL hc hc0 hA hpe
    generalize L.length = n at *
    go_enter Tryz.func28, Tryz.ntmps28
    go_wp2_with (first
      | (go_at_call 11; refine Hck.out.mono ?_; rintro r w1 ⟨rfl, hb1⟩; have B1 := Lib.hid hb1; clear hb1)
      | (go_at_call 71; refine (Hcopy.out w1 B1.out).mono ?_; rintro r w2 ⟨v', rfl, hv, hb1⟩; have HV := Lib.hid hv; have B2 := Lib.hid (B1.out.trans (hb1.mono B1.out.size)); clear hb1 hv))
    go_ret3
    exact ⟨_, rfl, HV.out, B2.out⟩
  have b1 := emptyB_f hpe
  cases hlk : lookE L p.data.toList with
  | none =>
    have hN : subNo L p.data.toList = 10 := by unfold subNo; rw [if_neg hc, if_neg hpe, hlk]
    have hL : subL L p.data.toList = [] := by unfold subL; rw [if_pos (by rw [hN]; decide)]
    rw [hN, hL]
    rw [ixE_miss hlk] at Hfind
    clear hN hL hc hc0 hA hpe hlk
    generalize L.length = n at *
    go_enter Tryz.func28, Tryz.ntmps28
    go_wp2_with (first
      | (go_at_call 11; refine Hck.out.mono ?_; rintro r w1 ⟨rfl, hb1⟩; have B1 := Lib.hid hb1; clear hb1)
      | (go_at_call 72; refine (Hfind.out w1 B1.out).mono ?_; rintro r w2 ⟨rfl, rfl⟩))
    go_ret3
    exact ⟨_, rfl, nil_ents _, B1.out⟩
  | some x =>
    obtain ⟨k, hix, hkx⟩ := ixE_some_of hlk
    have hkn := (List.getElem?_eq_some_iff.1 hkx).1
    rw [hix] at Hfind
    obtain ⟨a, rfl, hal, hcs⟩ := Hcells.out k x hkx
    clear hkx
    have up : ∀ W, Below w.heap.size w W → ∀ j y, (entC x)[j]? = some y → W.cell? ((a.add (k * 5)).add j) = some y := fun W hW j y hy => by
      have := hcs j y hy
      unfold World.cell? at this ⊢
      rw [hW.block _ (by rw [add_block, add_block]; omega)]
      exact this
    have Hup := Lib.hid up
    have k0 : ((k : Int) < 0) = False := by simp
    clear up hcs hix
    by_cases hk1 : x.k = 1
    · have hN : subNo L p.data.toList = 0 := by unfold subNo; rw [if_neg hc, if_neg hpe, hlk]; simp [hk1]
      have hL : subL L p.data.toList = (underL L p.data.toList).map (cutE (p.data.toList.length + 1)) := by unfold subL; rw [if_neg (by rw [hN]; exact fun x => x rfl), if_neg hpe]
      rw [hN, hL]
      have hlong := fun (i : Nat) (y : Ent) (hy : (underL L p.data.toList)[i]? = some y) => under_long hpe hy
      have hsz : p.data.toList.length = p.size := rfl
      rw [hsz] at hlong ⊢
      have hul := under_le L p.data.toList
      obtain ⟨U, hU⟩ : ∃ U, U = underL L p.data.toList := ⟨_, rfl⟩
      rw [← hU] at hlong hul Hunder ⊢
      have hUn : U.length ≤ 1048576 := by omega
      have Hlong := Lib.hid hlong
      have HD := Lib.hid (fun W => isDir07_any x W)
      rw [show (x.k == 1) = true by simp [hk1]] at HD
      have hsU : ∀ (i : Nat) (y : Ent), U[i]? = some y → y.p.size ≤ 1099511627776 := fun i y hy => by
        rw [hU] at hy
        exact (HSz.out y (List.mem_filter.1 (List.mem_of_getElem? hy)).1).1
      have HsU := Lib.hid hsU
      obtain ⟨m, hm⟩ : ∃ m, m = U.length := ⟨_, rfl⟩
      rw [← hm] at hUn Hunder
      have Hm := Lib.hid hm
      obtain ⟨c, hcc⟩ : ∃ c, c = p.size + 1 := ⟨_, rfl⟩
      clear hN hL hc hc0 hA hpe hlk hlong hul hU hsU hm hsz hk1
      generalize L.length = n at *
      go_enter Tryz.func28, Tryz.ntmps28
      go_wp2_with (first
        | (go_at_call 11; refine Hck.out.mono ?_; rintro r w1 ⟨rfl, hb1⟩; have B1 := Lib.hid hb1; have HU1 := Lib.hid (Hup.out w1 hb1); clear hb1)
        | (go_at_call 72; refine (Hfind.out w1 B1.out).mono ?_; rintro r w2 ⟨rfl, rfl⟩)
        | (refine wpList_load_at rfl _ _ rfl (a.add (k * 5)) rfl [.string x.p, .int .i64 x.k, .int .i64 x.m, .string x.d, .string x.l] _ HU1.out Tryz.underlying38 rfl (by kernel_rfl) ?_)
        | (go_at_call 73; refine (HD.out w2).mono ?_; rintro r w3 ⟨rfl, hb1⟩; have B3 := Lib.hid (B1.out.trans (hb1.mono B1.out.size)); clear hb1)
        | (go_at_call 74; refine (Hunder.out w3 B3.out).mono ?_; rintro r w4 ⟨vu, rfl, hrow, hb4⟩
           obtain ⟨ou, cu, rfl, hmc, hcm2, hog⟩ := row_val hrow
           have HR := Lib.hid hrow
           have Hog := Lib.hid hog
           have B4 := Lib.hid (B3.out.trans (hb4.mono B3.out.size))
           clear hrow hog hb4))
      go_loopw [11] (fun iv wr => ∃ (i : Nat), iv = .int .i64 (i : Int) ∧ i ≤ m ∧ wr.ownsRow w3.heap.size 38 5 (.slice ou m cu) m ((mixE c i U).flatMap entC) ∧ Below w.heap.size w wr) (fun iv _ => m - (intOf iv).toNat)
      case atStart => exact ⟨0, rfl, Nat.zero_le _, by rw [mixE_zero]; exact HR.out, B4.out⟩
      case round =>
        obtain ⟨i, rfl, hi, hrow, hbr⟩ := hrel
        by_cases hlt : i < m
        · obtain ⟨y, hy⟩ : ∃ y, U[i]? = some y := ⟨_, List.getElem?_eq_getElem (by rw [← Hm.out]; exact hlt)⟩
          obtain ⟨g, rfl⟩ := Hog.out (by omega)
          obtain ⟨s1, s2, s3, s4⟩ := row_setPath hrow (mixE_get hy) (y.p.extract c y.p.size)
          have hlg := Hlong.out i y hy
          have hys := HsU.out i y hy
          have HS1 := Lib.hid (show (wr.setCell ⟨g, i * 5, none⟩ (.string (y.p.extract c y.p.size))).ownsRow w3.heap.size 38 5 (.slice (some ⟨g, 0, none⟩) m cu) m ((mixE c (i + 1) U).flatMap entC) by rw [← mixE_step hy]; exact s1)
          have HB5 := Lib.hid (hbr.setCell (p := ⟨g, i * 5, none⟩) (show w.heap.size ≤ g by have := B3.out.size; omega) (.string (y.p.extract c y.p.size)))
          rw [hcc] at HS1 HB5
          have Hcc := Lib.hid hcc
          clear s1 s4 hrow hbr hy hcc
          go_wp2
          go_roundw
          case rel => exact ⟨i + 1, by go_num, by omega, by rw [Hcc.out]; exact HS1.out, HB5.out⟩
          case measure => simp [intOf]; omega
        · obtain rfl : i = m := by omega
          have hfin : EntsAt wr (.slice ou i cu) (U.map (cutE c)) := by
            rw [Hm.out, mixE_all] at hrow
            have := ents_of_row (L := U.map (cutE c)) (by rw [List.length_map]; exact hrow)
            rw [← Hm.out] at this
            exact this
          rw [hcc] at hfin
          have HF := Lib.hid hfin
          have HB := Lib.hid hbr
          clear hfin hrow hbr hcc
          go_wp2
          go_ret3
          exact ⟨_, rfl, HF.out, HB.out⟩
    · have hN : subNo L p.data.toList = 13 := by unfold subNo; rw [if_neg hc, if_neg hpe, hlk]; simp [hk1]
      have hL : subL L p.data.toList = [] := by unfold subL; rw [if_pos (by rw [hN]; decide)]
      rw [hN, hL]
      have HD := Lib.hid (fun W => isDir07_any x W)
      rw [show (x.k == 1) = false by simpa using hk1] at HD
      clear hN hL hc hc0 hA hpe hlk hk1
      generalize L.length = n at *
      go_enter Tryz.func28, Tryz.ntmps28
      go_wp2_with (first
        | (go_at_call 11; refine Hck.out.mono ?_; rintro r w1 ⟨rfl, hb1⟩; have B1 := Lib.hid hb1; have HU1 := Lib.hid (Hup.out w1 hb1); clear hb1)
        | (go_at_call 72; refine (Hfind.out w1 B1.out).mono ?_; rintro r w2 ⟨rfl, rfl⟩)
        | (refine wpList_load_at rfl _ _ rfl (a.add (k * 5)) rfl [.string x.p, .int .i64 x.k, .int .i64 x.m, .string x.d, .string x.l] _ HU1.out Tryz.underlying38 rfl (by kernel_rfl) ?_)
        | (go_at_call 73; refine (HD.out w2).mono ?_; rintro r w3 ⟨rfl, hb1⟩; have B3 := Lib.hid (B1.out.trans (hb1.mono B1.out.size)); clear hb1))
      go_ret3
      exact ⟨_, rfl, nil_ents _, B3.out⟩
end
section
open Go.RowKit Go.Maps Go.Shelf
open Go.Lib hiding intOf size_eq
attribute [local go_sem] Oper.semAt_some
theorem below_of_same1 {W W' : World} (hs : Same W W') : Below W.heap.size W W' := by
  obtain ⟨q, rfl⟩ := hs
  exact below_drewN (Below.refl _ _) q
/-- what is gone through below a place -/
theorem dfs_below {nd : List Nd} (hg : Good (ents nd)) (p : List UInt8) : (dfs nd 32 p).map (·.e) = underL (ents nd) p := by
  classical
  have hd : ∀ y ∈ nd, (pcs y.e.path).length ≤ 32 + (PP p).length := fun y hy => by have := hg.deep y hy; omega
  rw [dfs_eq hg.wf (InOrder.of hg) hd]
  unfold underL ents
  rw [List.filter_map]
  congr 1
  refine List.filter_congr fun y hy => ?_
  have hne : y.e.path ≠ [] := (hg.wf.ok y hy).ne
  show decide (Under p y.e.path) = belowP p y.e.path
  by_cases hu : Under p y.e.path
  · rw [decide_eq_true hu]; exact ((below_under' hne).2 hu).symm
  · rw [decide_eq_false hu]
    cases hb : belowP p y.e.path with
    | false => rfl
    | true => exact absurd ((below_under' hne).1 hb) hu
theorem under_nil {nd : List Nd} (hg : Good (ents nd)) : underL (ents nd) [] = ents nd := by
  unfold underL
  refine List.filter_eq_self.2 fun x hx => ?_
  have hne := (checkNo_neat (itselfNo_check (hg.it x hx))).ne
  show belowP [] x.path = true
  unfold belowP
  rw [if_pos rfl]
  cases hp : x.path with
  | nil => exact absurd hp hne
  | cons a r => rfl
theorem sub_none {nd : List Nd} (hg : Good (ents nd)) {p : List UInt8} (h : findO nd p = none) : subNo (ents nd) p = 10 := by
  unfold findO at h
  by_cases hp : p = []
  · rw [if_pos hp] at h; cases h
  rw [if_neg hp] at h
  unfold subNo
  rw [hg.check, if_neg (fun x => x rfl), if_neg hp, lookE_N]
  cases hl : lookN nd p with
  | none => rfl
  | some y => rw [hl] at h; cases h
theorem sub_some {nd : List Nd} (hg : Good (ents nd)) {p : List UInt8} {o : Option Nd} (h : findO nd p = some o) : subNo (ents nd) p = if (spotE o).k = 1 then 0 else 13 := by
  unfold findO at h
  unfold subNo
  rw [hg.check, if_neg (fun x => x rfl)]
  by_cases hp : p = []
  · rw [if_pos hp] at h
    injection h with h
    subst h
    rw [if_pos hp]
    rfl
  rw [if_neg hp] at h
  rw [if_neg hp, lookE_N]
  cases hl : lookN nd p with
  | none => rw [hl] at h; cases h
  | some y =>
    rw [hl] at h
    injection h with h
    subst h
    rfl
/-- what Sub answers beside the list -/
def errS (L : List Ent) (p : List UInt8) : Value := if (checkL L).1 ≠ 0 then fltV ((checkL L).1 : Int) 0 ((checkL L).2 : Int) else errV (subNo L p)
/-- how an entry is handed on -/
def cutF (p : ByteArray) (x : Ent) : Ent := if p.data.toList = [] then x else cutE (p.size + 1) x
theorem subL_good {nd : List Nd} (hg : Good (ents nd)) {p : ByteArray} (h : subNo (ents nd) p.data.toList = 0) : subL (ents nd) p.data.toList = (underL (ents nd) p.data.toList).map (cutF p) := by
  unfold subL
  rw [if_neg (by rw [h]; exact fun x => x rfl)]
  by_cases hp : p.data.toList = []
  · rw [if_pos hp, hp, under_nil hg]
    refine ((List.map_congr_left fun a _ => ?_).trans (List.map_id _)).symm
    unfold cutF
    rw [if_pos hp]
    rfl
  · rw [if_neg hp]
    refine List.map_congr_left fun a _ => ?_
    unfold cutF
    rw [if_neg hp]
    rfl
theorem KpC.setNew {B : Nat} {X Z : World} (h : KpC B X Z) {b : Nat} (hb : X.heap.size ≤ b) (hB : b ≠ B) (hc : IsC Z b) (u : Value) : KpC B X (Z.setCell ⟨b, 0, none⟩ u) := by
  have hoth : ∀ k, k ≠ b → (Z.setCell ⟨b, 0, none⟩ u).heap[k]? = Z.heap[k]? := fun k hk => heap_setCell_other Z ⟨b, 0, none⟩ k u hk
  refine ⟨by have := h.1; simpa using this, fun hx => ?_⟩
  obtain ⟨h1, h2, h3⟩ := h.2 hx
  refine ⟨h1.same (hoth B (fun e => hB e.symm)), fun k hk hkB hr => ?_, ?_⟩
  · rw [hoth k (by have := hk.lt; omega)]
    exact h2 k hk hkB hr
  · rw [rowOf_same (hoth B (fun e => hB e.symm))]
    exact h3
theorem KpC.grown {B : Nat} {X Z : World} {row : Option Nat} (hg : X.grownBy Z row) (hr : ∀ r, row = some r → ∃ o : Obj, X.heap[r]? = some o ∧ o.isCells = false) : KpC B X Z := by
  have sm : ∀ k, IsC X k → Z.heap[k]? = X.heap[k]? := fun k hk => hg.block k hk.lt (fun e => by
    obtain ⟨o, h1, h2⟩ := hr k e.symm
    obtain ⟨cs, t, fz, h3⟩ := hk
    rw [h1] at h3
    injection h3 with h3
    subst h3
    cases h2)
  exact ⟨hg.size, fun hB => ⟨hB.same (sm B hB), fun k hk _ _ => sm k hk, .inl (rowOf_same (sm B hB))⟩⟩
/-- between two rounds -/
def SbI (W : World) (f : Ent → Ent) (pre : List Ent) (Wx : World) : Prop :=
  (∃ v, Boxed Wx W.heap.size 22 v ∧ Wx.ownsRow W.heap.size 38 5 v pre.length ((pre.map f).flatMap entC) ∧ (pre = [] → v = .slice none 0 0)) ∧ Below W.heap.size W Wx
/-- an entry in a block of its own -/
def Boxed5 (W : World) (b : Nat) (x : Ent) : Prop := W.heap[b]? = some (.cells #[.string x.p, .int .i64 x.k, .int .i64 x.m, .string x.d, .string x.l] 38 (0, 0))
set_option maxRecDepth 100000 in
set_option maxHeartbeats 4000000 in
theorem tsub_any (v : Value) (L : List Ent) (p : ByteArray) (w : World) (h : EntsAt w v L) (hS : ∀ x ∈ L, x.p.size ≤ 1099511627776 ∧ x.l.size ≤ 1099511627776 ∧ x.d.size ≤ 1099511627776) (hl : L.length ≤ 1048576) (hp : p.size ≤ 1048576) :
    Calls Tryz.prog 29 #[v, .string p] w fun r w' => ∃ v', r = .returned (.tuple #[v', errS L p.data.toList]) ∧ RowE w' w.heap.size v' (subL L p.data.toList).length (subL L p.data.toList) ∧ Below w.heap.size w w' := by
  have hb : Small L := fun e he => by have := hS e he; exact ⟨by omega, by omega, by omega⟩
  obtain ⟨w0, hw0⟩ : ∃ x, x = w.alloc (.cells #[.string p] 9) := ⟨_, rfl⟩
  have hb0 : Below w.heap.size w w0 := by rw [hw0]; exact (Below.refl _ _).alloc (Nat.le_refl _) _
  have hs0 : w0.heap.size = w.heap.size + 1 := by rw [hw0]; simp
  have hbx : Boxed w0 w.heap.size 9 (.string p) := by rw [hw0]; exact Boxed.new w _ _
  have hbuild := build_any v L w0 (h.below hb0 (Nat.le_refl _)) hb
  have Hw0 := Lib.hid hw0
  have Hbuild := Lib.hid hbuild
  have Hb0 := Lib.hid hb0
  have Hs0 := Lib.hid hs0
  have Hbx := Lib.hid hbx
  obtain ⟨o, cap, rfl, hlc, hcm, hcells⟩ := h
  clear hw0 hb0 hs0 hbx hbuild hcells hb hS
  by_cases hc : (checkL L).1 ≠ 0
  · have hE : errS L p.data.toList = .iface 126 (.agg #[.int .i64 ((checkL L).1 : Int), .int .i64 0, .int .i64 ((checkL L).2 : Int)]) := by unfold errS; rw [if_pos hc]; rfl
    have hL : subL L p.data.toList = [] := by unfold subL; rw [if_pos]; unfold subNo; rw [if_pos hc]; exact hc
    have hbl : Calls Tryz.prog 55 #[.slice o L.length cap] w0 fun r w' => r = .returned (.tuple #[.pointer none, .iface 126 (.agg #[.int .i64 ((checkL L).1 : Int), .int .i64 0, .int .i64 ((checkL L).2 : Int)])]) ∧ Below w0.heap.size w0 w' :=
      Hbuild.out.mono fun r w' ⟨_, h2, h3⟩ => ⟨h2 hc, h3⟩
    rw [hE, hL]
    have Hbl := Lib.hid hbl
    generalize (checkL L).1 = N at *
    generalize (checkL L).2 = A at *
    clear hE hL hc hbl Hbuild
    generalize L.length = n at *
    go_enter Tryz.func29, Tryz.ntmps29
    go_wp2_with (first
      | (rw [← Hw0.out]; go_at_call 55; refine Hbl.out.mono ?_; rintro r w1 ⟨rfl, hb1⟩; have B1 := Lib.hid (Hb0.out.trans (hb1.mono Hb0.out.size)); clear hb1))
    go_ret2
    exact ⟨_, rfl, ⟨World.ownsRow_nil _ _ _ _, fun _ => rfl⟩, B1.out⟩
  have hc0 : (checkL L).1 = 0 := by omega
  have hE : errS L p.data.toList = errV (subNo L p.data.toList) := by unfold errS; rw [if_neg hc]
  rw [hE]
  have hbl : Calls Tryz.prog 55 #[.slice o L.length cap] w0 fun r w' => ∃ T rt rm nd, r = .returned (.tuple #[.pointer (some ⟨T, 0, none⟩), .nilIface]) ∧ TreeAt w' T rt rm w0.heap.size nd ∧ ents nd = L ∧ Below w0.heap.size w0 w' :=
    Hbuild.out.mono fun r w' ⟨h1, _, h3⟩ => by
      obtain ⟨T, rt, rm, nd, q1, q2, q3⟩ := h1 hc0
      exact ⟨T, rt, rm, nd, q1, q2, q3, h3⟩
  have Hbl := Lib.hid hbl
  clear hbl Hbuild hE
  by_cases h0 : subNo L p.data.toList ≠ 0
  · have hL : subL L p.data.toList = [] := by unfold subL; rw [if_pos h0]
    rw [hL]
    obtain ⟨E, hE⟩ : ∃ x, x = errV (subNo L p.data.toList) := ⟨_, rfl⟩
    rw [← hE]
    have HE := Lib.hid hE
    have H0 := Lib.hid h0
    clear hL hc hc0 hE h0
    generalize hn : L.length = n at *
    clear hn
    go_enter Tryz.func29, Tryz.ntmps29
    go_upto_region 4 with (first
      | (rw [← Hw0.out]; go_at_call 55; refine Hbl.out.mono ?_; rintro r w1 ⟨T, rt, rm, nd, rfl, ht, he, hb1⟩
         have B1 := Lib.hid (Hb0.out.trans (hb1.mono Hb0.out.size))
         have HT := Lib.hid ht
         have He := Lib.hid he
         have hpx := (boxed_below Hbx.out hb1).cell
         clear hb1 ht he))
    have hg := HT.out.good
    have hf := find_any p w1 HT.out (by omega)
    cases ho : findO nd p.data.toList with
    | none =>
      have h10 := sub_none hg ho
      rw [He.out] at h10
      obtain rfl : E = .iface 105 (.int .i64 10) := by rw [HE.out, h10]; rfl
      rw [ho] at hf
      have Hf := Lib.hid hf
      clear hf ho hg h10
      go_wp2_with (first
        | (go_at_call 64; refine Hf.out.mono ?_; rintro r w2 ⟨rfl, hs⟩
           have B2 := Lib.hid (B1.out.trans ((below_of_same1 hs).mono B1.out.size))
           clear hs
           rw [show spotP rt none = .pointer none from rfl]))
      go_ret2
      exact ⟨_, rfl, ⟨World.ownsRow_nil _ _ _ _, fun _ => rfl⟩, B2.out⟩
    | some o2 =>
      have h13 := sub_some hg ho
      rw [He.out] at h13
      by_cases hk : (spotE o2).k = 1
      · rw [if_pos hk] at h13
        exact absurd h13 H0.out
      · rw [if_neg hk] at h13
        obtain rfl : E = .iface 105 (.int .i64 13) := by rw [HE.out, h13]; rfl
        rw [ho, spotP_some] at hf
        have hin := (findO_in ho).1
        have hkc : ∀ W, Same w1 W → W.cell? ⟨spotB rt o2, 1, none⟩ = some (.int .i64 (spotE o2).k) := fun W hW => (node_cells ((HT.out.same' hW).spot hin).1).2.1
        generalize spotB rt o2 = B at *
        generalize (spotE o2).k = kk at *
        have b0 : (kk == 1) = false := by simpa using hk
        have Hf := Lib.hid hf
        have Hkc := Lib.hid hkc
        clear hf ho hg h13 hin hkc hk
        go_wp2_with (first
          | (go_at_call 64; refine Hf.out.mono ?_; rintro r w2 ⟨rfl, hs⟩
             have B2 := Lib.hid (B1.out.trans ((below_of_same1 hs).mono B1.out.size))
             have hk2 := Hkc.out w2 hs
             clear hs))
        go_ret2
        exact ⟨_, rfl, ⟨World.ownsRow_nil _ _ _ _, fun _ => rfl⟩, B2.out⟩
  have h00 : subNo L p.data.toList = 0 := by omega
  rw [h00]
  clear h0
  obtain ⟨i0, hi, hz0, hz1, hz2⟩ := info_parts Tryz.infoEntry
  have Hi := Lib.hid hi
  have Hz0 := Lib.hid hz0
  have Hz1 := Lib.hid hz1
  have Hz2 := Lib.hid hz2
  have Hc := Lib.hid h00
  clear hi hz0 hz1 hz2 hc hc0 h00
  obtain ⟨n, hn⟩ : ∃ n, n = L.length := ⟨_, rfl⟩
  rw [← hn] at Hbl ⊢
  have Hn := Lib.hid hn
  clear hn
  refine (callsIn_wide (n := 0)).1 ?_
  refine callsIn_of_wp_marks Tryz.func29 rfl trivial ?_ rfl
  simp only [Tryz.ntmps29, List.size_toArray, List.length_cons, List.length_nil, Nat.reduceAdd, Nat.reduceSub, Array.replicate_succ, Array.replicate_zero, List.push_toArray, List.append_toArray, List.nil_append, List.cons_append]
  gi_wp2_with (first
    | (refine ⟨trivial, rfl, ?_⟩; rw [← Hw0.out]; gi_at_call 55; refine CallsIn.mono (callsIn_wide.2 Hbl.out) ?_; rintro r w1 ⟨T, rt, rm, nd, rfl, ht, he, hb1⟩
       have B1 := Lib.hid (Hb0.out.trans (hb1.mono Hb0.out.size))
       have HT := Lib.hid ht
       have He := Lib.hid he
       have HX1 := Lib.hid (boxed_below Hbx.out hb1)
       have hpx := (boxed_below Hbx.out hb1).cell
       have hg := ht.good
       have hf := find_any p w1 ht (by omega)
       obtain ⟨o2, ho⟩ : ∃ o, findO nd p.data.toList = some o := (by
         cases ho : findO nd p.data.toList with
         | none => have h10 := sub_none hg ho; rw [he, Hc.out] at h10; cases h10
         | some o => exact ⟨o, rfl⟩)
       have h13 := sub_some hg ho
       rw [he, Hc.out] at h13
       have hk : (spotE o2).k = 1 := (by
         by_cases hk : (spotE o2).k = 1
         · exact hk
         · rw [if_neg hk] at h13; cases h13)
       rw [ho, spotP_some] at hf
       have Ho := Lib.hid ho
       have hin := (findO_in ho).1
       have hkc : ∀ W, Same w1 W → W.cell? ⟨spotB rt o2, 1, none⟩ = some (.int .i64 1) := fun W hW => (by rw [← hk]; exact (node_cells ((HT.out.same' hW).spot hin).1).2.1)
       generalize spotB rt o2 = B at *
       have Hf := Lib.hid hf
       have Hkc := Lib.hid hkc
       clear hb1 ht he hg hf ho h13 hk hin hkc)
    | (refine ⟨trivial, rfl, ?_⟩; gi_at_call 64; refine CallsIn.mono (callsIn_wide.2 Hf.out) ?_; rintro r w2 ⟨rfl, hs⟩
       have B2 := Lib.hid (B1.out.trans ((below_of_same1 hs).mono B1.out.size))
       have hk2 := Hkc.out w2 hs
       have hb2 := below_of_same1 hs
       have HX2 := Lib.hid (boxed_below HX1.out hb2)
       have HT2 := Lib.hid (HT.out.same' hs)
       have hpx2 := (boxed_below HX1.out hb2).cell
       have hlt2 : w.heap.size < w2.heap.size := HX2.out.lt
       have hpx3 : (w2.alloc (.cells #[.slice none 0 0] 22)).cell? ⟨w.heap.size, 0, none⟩ = some (.string p) := (HX2.out.alloc _).cell
       clear hs hb2)
    | (refine ⟨trivial, rfl, ?_⟩; gi_at_call 69; refine CallsIn.mono (callsIn_wide.2 (belowFn_any T p _)) ?_; rintro r w3 ⟨rfl, hw3⟩))
  obtain ⟨W1, hW1⟩ : ∃ x, x = w2.alloc (.cells #[.slice none 0 0] 22) := ⟨_, rfl⟩
  obtain ⟨W3, hW3⟩ : ∃ x, x = (W1.alloc (.cells #[.pointer (some ⟨T, 0, none⟩)] 34)).alloc (.cells #[.string p] 9) := ⟨_, rfl⟩
  rw [← hW1, ← hW3]
  have hs1 : W1.heap.size = w2.heap.size + 1 := by rw [hW1]; simp
  have hs3 : W3.heap.size = w2.heap.size + 3 := by rw [hW3]; simp; omega
  have hbo1 : Boxed W1 w2.heap.size 22 (.slice none 0 0) := by rw [hW1]; exact Boxed.new w2 _ _
  have hb13 : Below W1.heap.size W1 W3 := by rw [hW3]; exact ((Below.refl _ _).alloc (Nat.le_refl _) _).alloc (by simp) _
  have hb21 : Below w2.heap.size w2 W1 := by rw [hW1]; exact (Below.refl _ _).alloc (Nat.le_refl _) _
  have hb23 : Below w2.heap.size w2 W3 := hb21.trans (hb13.mono (by omega))
  have hbo3 : Boxed W3 w2.heap.size 22 (.slice none 0 0) := boxed_below hbo1 hb13
  have hbt3 : W3.cell? ⟨w2.heap.size + 1, 0, none⟩ = some (.pointer (some ⟨T, 0, none⟩)) := by
    rw [hW3, World.cell?_alloc_lt _ _ _ (by simp; omega)]
    have h := (Boxed.new W1 34 (.pointer (some ⟨T, 0, none⟩))).cell
    rw [hs1] at h
    exact h
  have hbp3 : W3.cell? ⟨w2.heap.size + 1 + 1, 0, none⟩ = some (.string p) := by
    have h := (Boxed.new (W1.alloc (.cells #[.pointer (some ⟨T, 0, none⟩)] 34)) 9 (.string p)).cell
    rw [World.size_alloc, hs1] at h
    rw [hW3]
    exact h
  have ht3 : TreeAt W3 T rt rm w0.heap.size nd := HT2.out.below hb23 (Nat.le_refl _)
  have hg := ht3.good
  have hbox3 : Boxed W3 w.heap.size 9 (.string p) := boxed_below HX2.out hb23
  have hQ : spotQ o2 = p.data.toList := (findO_in Ho.out).2
  have hseq := below1_seq (m := 32) (o := o2) w2.heap.size (w2.heap.size + 1) (w2.heap.size + 1 + 1) p W3 ht3 (by omega) Ho.out
    (fun y hy => by have := hg.deep y hy; omega) (by
      have h1 := congrArg List.length (dfs_below hg (spotQ o2))
      rw [List.length_map] at h1
      rw [h1]
      exact Nat.le_trans (under_le _ _) hg.len) hbt3 hbp3 (by omega) (by omega) (box_isC hbo3) (fun r hr => by rw [rowOf_box hbo3] at hr; cases hr)
  rw [hQ, dfs_below hg] at hseq
  obtain ⟨U, hU⟩ : ∃ U, U = underL (ents nd) p.data.toList := ⟨_, rfl⟩
  rw [← hU] at hseq
  have hUl : U.length ≤ 4096 := by rw [hU]; exact Nat.le_trans (under_le _ _) hg.len
  have hUlong : p.data.toList ≠ [] → ∀ (i : Nat) (y : Ent), U[i]? = some y → p.size + 1 ≤ y.p.size := fun hne i y hy => by rw [hU] at hy; exact under_long hne hy
  have hUsz : ∀ (i : Nat) (y : Ent), U[i]? = some y → y.p.size ≤ 255 := fun i y hy => by
    rw [hU] at hy
    exact checkNo_small (itselfNo_check (hg.it y (List.mem_filter.1 (List.mem_of_getElem? hy)).1))
  have hfin : subL L p.data.toList = U.map (cutF p) := by
    have h0 : subNo (ents nd) p.data.toList = 0 := by rw [He.out]; exact Hc.out
    rw [← He.out, subL_good hg h0, hU]
  have hb2w : Below w.heap.size w w2 := B2.out
  have hsw : w.heap.size < w2.heap.size := HX2.out.lt
  have Hseq := Lib.hid hseq
  have HUlong := Lib.hid hUlong
  have HUsz := Lib.hid hUsz
  have Hfin := Lib.hid hfin
  have HB2w := Lib.hid hb2w
  have HBox3 := Lib.hid hbox3
  have hinit : SbI w2 (cutF p) [] W3 := ⟨⟨_, hbo3, World.ownsRow_nil _ _ _ _, fun _ => rfl⟩, hb23⟩
  have HXp := Lib.hid HX2.out
  clear hseq hUlong hUsz hfin hb2w hbox3 hbo1 hb13 hb21 hbt3 hbp3 ht3 hg hQ hW1 hW3 hU HT HT2 HX1 HX2 B1 B2 Hf Hkc Hbx Hb0 Hs0 Hw0 Hbl hpx hpx2 hpx3 hk2 hlt2 Ho He
  obtain ⟨U0, hU0⟩ : ∃ x, x = U.length := ⟨_, rfl⟩
  rw [← hU0] at hUl
  have HU0 := Lib.hid hU0
  clear hU0
  refine wpIn_rangeW (gf := 104) (lb := #[.pointer (some ⟨w2.heap.size + 1, 0, none⟩), .pointer (some ⟨w2.heap.size + 1 + 1, 0, none⟩)]) rfl Tryz.below1Enters Hseq.out (fun h k => h.trans k) (fun W' l' o o' _ ho hc _ => KpC.putObj W' l' o o' ho hc) (Below.refl _ _) (fun _ => rfl)
    (SbI w2 (cutF p)) (fun _ _ _ => False)
    (OwnFrom.and (Own.from (holdsRow_own _ _ _ _ _ (fun pre : List Ent => pre.length) (fun pre => (pre.map (cutF p)).flatMap entC) (fun pre v => pre = [] → v = .slice none 0 0)) _) (ownFrom_below (Nat.le_refl _) (by omega)))
    (fun _ _ _ _ _ hs _ _ => hs)
    hinit
    (fun W0 x a Wx => ∃ b, a = { tmps := #[.slice o n cap, .string p, undef, .pointer (some ⟨w.heap.size, 0, none⟩), .slice none 0 0, .nilIface, .pointer (some ⟨T, 0, none⟩), .nilIface, .pointer (some ⟨B, 0, none⟩), .pointer (some ⟨w2.heap.size, 0, none⟩), .pointer (some ⟨b, 0, none⟩), .tuple #[.pointer (some ⟨T, 0, none⟩), .nilIface], .slice o n cap, .tuple #[.pointer (some ⟨T, 0, none⟩), .nilIface], .pointer (some ⟨T, 0, none⟩), .nilIface, .nilIface, .bool false, undef, .pointer (some ⟨T, 0, none⟩), .string p, .pointer (some ⟨B, 0, none⟩), .pointer (some ⟨B, 0, none⟩), .bool false, undef, .pointer (some ⟨B, 0, none⟩), .pointer (some ⟨B, 0, none⟩), .pointer (some ⟨B, 0, none⟩), .pointer (some ⟨B, 1, none⟩), .int .i64 1, .bool false, undef, .pointer (some ⟨T, 0, none⟩), .string p, .func (.func 104) #[] #[.pointer (some ⟨w2.heap.size + 1, 0, none⟩), .pointer (some ⟨w2.heap.size + 1 + 1, 0, none⟩)], .agg #[.string x.p, .int .i64 x.k, .int .i64 x.m, .string x.d, .string x.l], undef, undef, undef, undef, undef, undef, undef, undef, undef, undef, undef, undef, undef, undef], defers := [] } ∧ Boxed5 Wx b x ∧ W0.heap.size ≤ b ∧ w2.heap.size < b ∧ KpC w2.heap.size W0 Wx ∧ IsC Wx w2.heap.size ∧ rowOf w2.heap.size Wx ≠ some b)
    (fun W0 x a' s A Bw row h hg hr => by
      obtain ⟨b, e1, e2, e3, e4, e5, e6, e7⟩ := h
      have hne : ∀ k, IsC A k → row ≠ some k := fun k hk e => by
        obtain ⟨_, o, h3, h4⟩ := hr k e
        obtain ⟨cs, ty, fz, h5⟩ := hk
        rw [h5] at h3
        injection h3 with h3
        subst h3
        cases h4
      have hB : Bw.heap[w2.heap.size]? = A.heap[w2.heap.size]? := hg.block _ e6.lt (fun e => hne _ e6 e.symm)
      exact ⟨b, e1, (hg.block b (heap_lt e2) (fun e => hne b ⟨_, _, _, e2⟩ e.symm)).trans e2, e3, e4, e5.trans (KpC.grown hg fun r hrr => (hr r hrr).2), e6.same hB, by rw [rowOf_same hB]; exact e7⟩) ?assign ?body ?done ?stop
  case assign =>
    intro l' pre x Wx K hI hK
    obtain ⟨⟨v, hv, hrow, hnil⟩, hb⟩ := hI
    have hlt : w2.heap.size < Wx.heap.size := hv.lt
    obtain ⟨W', hW'⟩ : ∃ y, y = Wx.alloc (.cells #[.string x.p, .int .i64 x.k, .int .i64 x.m, .string x.d, .string x.l] 38) := ⟨_, rfl⟩
    have hbel : Below Wx.heap.size Wx W' := by rw [hW']; exact (Below.refl Wx.heap.size Wx).alloc (Nat.le_refl _) _
    have hbx5 : Boxed5 W' Wx.heap.size x := by rw [hW']; exact World.alloc_heap_new Wx _
    have hv' := boxed_below hv hbel
    have hro : rowOf w2.heap.size W' ≠ some Wx.heap.size := fun e => by
      rw [rowOf_box hv'] at e
      obtain ⟨_, cur, h3⟩ := row_type hrow e
      have := heap_lt h3
      omega
    have hfin := hK { tmps := #[.slice o n cap, .string p, undef, .pointer (some ⟨w.heap.size, 0, none⟩), .slice none 0 0, .nilIface, .pointer (some ⟨T, 0, none⟩), .nilIface, .pointer (some ⟨B, 0, none⟩), .pointer (some ⟨w2.heap.size, 0, none⟩), .pointer (some ⟨Wx.heap.size, 0, none⟩), .tuple #[.pointer (some ⟨T, 0, none⟩), .nilIface], .slice o n cap, .tuple #[.pointer (some ⟨T, 0, none⟩), .nilIface], .pointer (some ⟨T, 0, none⟩), .nilIface, .nilIface, .bool false, undef, .pointer (some ⟨T, 0, none⟩), .string p, .pointer (some ⟨B, 0, none⟩), .pointer (some ⟨B, 0, none⟩), .bool false, undef, .pointer (some ⟨B, 0, none⟩), .pointer (some ⟨B, 0, none⟩), .pointer (some ⟨B, 0, none⟩), .pointer (some ⟨B, 1, none⟩), .int .i64 1, .bool false, undef, .pointer (some ⟨T, 0, none⟩), .string p, .func (.func 104) #[] #[.pointer (some ⟨w2.heap.size + 1, 0, none⟩), .pointer (some ⟨w2.heap.size + 1 + 1, 0, none⟩)], .agg #[.string x.p, .int .i64 x.k, .int .i64 x.m, .string x.d, .string x.l], undef, undef, undef, undef, undef, undef, undef, undef, undef, undef, undef, undef, undef, undef], defers := [] } W' (keepsFrom_below hbel) ⟨⟨v, hv', row_belowE hrow hbel, hnil⟩, hb.trans (hbel.mono hb.size)⟩ ⟨Wx.heap.size, rfl, hbx5, Nat.le_refl _, hlt, KpC.below hbel, box_isC hv', hro⟩
    rw [hW'] at hfin
    clear hK hv hrow hb hbel hbx5 hv' hro hnil hW'
    gi_wp2
    exact hfin
  case body =>
    rintro l' pre x rest a' W0 Wx hl hr hLs ⟨⟨v, hv, hrow, hnil⟩, hb⟩ ⟨b, rfl, hbb, hW0, hwb, hkp, hic, hro⟩
    have hpx := boxed_below HXp.out hb
    have hpc := hpx.cell
    have hxi : U[pre.length]? = some x := by rw [hLs]; simp
    have hplen : pre.length < 4096 + 1 := by
      have h := congrArg List.length hLs
      rw [List.length_append, List.length_cons, ← HU0.out] at h
      omega
    have hxs := HUsz.out _ x hxi
    rw [rowOf_box hv] at hro
    have hmap0 : ((pre ++ [x]).map (cutF p)).flatMap entC = (pre.map (cutF p)).flatMap entC ++ entC (cutF p x) := by rw [List.map_append, List.flatMap_append]; simp
    clear hLs hr hnil
    by_cases hpe : p.data.toList = []
    · have b1 := emptyB_t hpe
      have hmap : ((pre ++ [x]).map (cutF p)).flatMap entC = (pre.map (cutF p)).flatMap entC ++ [.string x.p, .int .i64 x.k, .int .i64 x.m, .string x.d, .string x.l] := by
        rw [hmap0]
        unfold cutF
        rw [if_pos hpe]
        rfl
      generalize hm : pre.length = m at *
      have Hm := Lib.hid hm
      have hv2 := hv
      have hrow2 := hrow
      have hbb2 : Wx.heap[b]? = some (.cells #[.string x.p, .int .i64 x.k, .int .i64 x.m, .string x.d, .string x.l] 38 (0, 0)) := hbb
      have hkz : KpC w2.heap.size W0 Wx := hkp
      have hkf : KeepsFrom W3.heap.size Wx Wx := KeepsFrom.refl _ _
      have hbz : Below w2.heap.size w2 Wx := hb
      clear hv hrow hkp hb hpx hmap0 hpe hic hro hm hxi
      have hcells : ∀ j u, ([.string x.p, .int .i64 x.k, .int .i64 x.m, .string x.d, .string x.l] : List Value)[j]? = some u → Wx.cell? ((⟨b, 0, none⟩ : Addr).add j) = some u := ent_cells (e := ⟨x.p, x.k, x.m, x.d, x.l⟩) hbb2
      have hnew : ∀ j u, ([.string x.p, .int .i64 x.k, .int .i64 x.m, .string x.d, .string x.l] : List Value)[j]? = some u → (Wx.alloc (.cells #[.string x.p, .int .i64 x.k, .int .i64 x.m, .string x.d, .string x.l] 38)).cell? ((⟨Wx.heap.size, 0, none⟩ : Addr).add j) = some u := ent_cells (e := ⟨x.p, x.k, x.m, x.d, x.l⟩) (World.alloc_heap_new Wx _)
      have hvc := hv2.cell
      have hvf := hv2.frozen
      have hbs : w2.heap.size ≤ Wx.heap.size := Nat.le_of_lt hv2.lt
      have Hv := Lib.hid hv2
      have Hrow := Lib.hid hrow2
      have Hcells := Lib.hid hcells
      have Hnew := Lib.hid hnew
      have Hkz := Lib.hid hkz
      have Hkf := Lib.hid hkf
      have Hbz := Lib.hid hbz
      have Hmap := Lib.hid hmap
      clear hv2 hrow2 hcells hnew hkz hkf hbz hbb2 hbb hmap
      gi_wp2_with (first
        | (refine wpListIn_load_at rfl _ _ rfl ⟨b, 0, none⟩ rfl [.string x.p, .int .i64 x.k, .int .i64 x.m, .string x.d, .string x.l] _ Hcells.out Tryz.underlying38 rfl (by kernel_rfl) ?_)
        | (gi_at_builtin; refine wpListIn_append_own_at _ rfl _ _ 22 rfl w2.heap.size 38 i0 _ 5 64 Tryz.underlying22 Hi.out Hz0.out Hz1.out Hz2.out rfl (by decide) _ _ _ rfl (Hrow.out.alloc _) ⟨Wx.heap.size, 0, none⟩ 1 1 [.string x.p, .int .i64 x.k, .int .i64 x.m, .string x.d, .string x.l] rfl rfl Hnew.out (by simp [Value.oneCell']) (by unfold maxLen; omega) (by omega) (by simp; omega) ?_; intro v' w1 hown' hgrow hblk; obtain ⟨g', cap', rfl⟩ := ownsRow_succ hown'; obtain ⟨hv1, hv2, hr2, hk2, hb3⟩ := Hv.out.appended (by decide) Hrow.out hbs (Nat.le_refl _) hown' hgrow; have hc1 := hv1.cell; have hf1 := hv1.frozen
           have Hkpc := Lib.hid (kpc_append Hv.out hgrow hblk hv2)
           have Hv2 := Lib.hid hv2
           have Hr2 := Lib.hid hr2
           have Hk2 := Lib.hid hk2
           have Hb3 := Lib.hid hb3
           clear hown' hgrow hblk hv1 hv2 hr2 hk2 hb3))
      exact ⟨Hkf.out.trans (Hk2.out.from _), Hkz.out.trans Hkpc.out, ⟨_, Hv2.out, by rw [List.length_append, List.length_singleton, Hmap.out, Hm.out]; exact Hr2.out, fun h => absurd h (by simp)⟩, Hbz.out.trans Hb3.out⟩
    · have b1 := emptyB_f hpe
      have hlg := HUlong.out hpe _ x hxi
      obtain ⟨ex, hex⟩ : ∃ ex, ex = x.p.extract (p.size + 1) x.p.size := ⟨_, rfl⟩
      have hmap : ((pre ++ [x]).map (cutF p)).flatMap entC = (pre.map (cutF p)).flatMap entC ++ [.string ex, .int .i64 x.k, .int .i64 x.m, .string x.d, .string x.l] := by
        rw [hmap0, hex]
        unfold cutF
        rw [if_neg hpe]
        rfl
      generalize hm : pre.length = m at *
      have Hm := Lib.hid hm
      obtain ⟨Wz, hWz⟩ : ∃ y, y = Wx.setCell ⟨b, 0, none⟩ (.string ex) := ⟨_, rfl⟩
      have x0 : Wx.cell? ⟨b, 0, none⟩ = some (.string x.p) := by unfold World.cell?; rw [show Wx.heap[b]? = _ from hbb]; rfl
      have f0 : Wx.frozen? ⟨b, 0, none⟩ = false := frozen_of_row hbb
      have hoth : ∀ k, k ≠ b → Wz.heap[k]? = Wx.heap[k]? := fun k hk => by rw [hWz]; exact heap_setCell_other Wx ⟨b, 0, none⟩ k _ hk
      have hv2 : Boxed Wz w2.heap.size 22 v := (hoth _ (by omega)).trans hv
      have hrow2 : Wz.ownsRow w2.heap.size 38 5 v m ((pre.map (cutF p)).flatMap entC) := by
        rw [hWz]
        exact grown_row hrow (grown_set ⟨b, 0, none⟩ _) (fun k hk e => by injection e with e; exact hro (hk.trans (congrArg some (show b = k from e).symm)))
      have hbb2 : Wz.heap[b]? = some (.cells #[.string ex, .int .i64 x.k, .int .i64 x.m, .string x.d, .string x.l] 38 (0, 0)) := by
        rw [hWz]
        exact Go.heap_setCell_same Wx b 0 _ _ _ hbb
      have hkz : KpC w2.heap.size W0 Wz := by rw [hWz]; exact hkp.setNew hW0 (by omega) ⟨_, _, _, hbb⟩ _
      have hkf : KeepsFrom W3.heap.size Wx Wz := by rw [hWz]; exact (KeepsOthers.setCell _ _ _).from _
      have hbz : Below w2.heap.size w2 Wz := by rw [hWz]; exact hb.setCell (p := ⟨b, 0, none⟩) (Nat.le_of_lt hwb) _
      have hpc2 : Wz.cell? ⟨w.heap.size, 0, none⟩ = some (.string p) := (boxed_below HXp.out hbz).cell
      have HWz := Lib.hid hWz
      have Hex := Lib.hid hex
      clear hv hrow hkp hb hpx hmap0 hpe hic hro hm hxi hoth hWz hex
      have hcells : ∀ j u, ([.string ex, .int .i64 x.k, .int .i64 x.m, .string x.d, .string x.l] : List Value)[j]? = some u → Wz.cell? ((⟨b, 0, none⟩ : Addr).add j) = some u := ent_cells (e := ⟨ex, x.k, x.m, x.d, x.l⟩) hbb2
      have hnew : ∀ j u, ([.string ex, .int .i64 x.k, .int .i64 x.m, .string x.d, .string x.l] : List Value)[j]? = some u → (Wz.alloc (.cells #[.string ex, .int .i64 x.k, .int .i64 x.m, .string x.d, .string x.l] 38)).cell? ((⟨Wz.heap.size, 0, none⟩ : Addr).add j) = some u := ent_cells (e := ⟨ex, x.k, x.m, x.d, x.l⟩) (World.alloc_heap_new Wz _)
      have hvc := hv2.cell
      have hvf := hv2.frozen
      have hbs : w2.heap.size ≤ Wz.heap.size := Nat.le_of_lt hv2.lt
      have Hv := Lib.hid hv2
      have Hrow := Lib.hid hrow2
      have Hcells := Lib.hid hcells
      have Hnew := Lib.hid hnew
      have Hkz := Lib.hid hkz
      have Hkf := Lib.hid hkf
      have Hbz := Lib.hid hbz
      have Hmap := Lib.hid hmap
      clear hv2 hrow2 hcells hnew hkz hkf hbz hbb2 hbb hmap
      gi_upto_region 14 with fail
      rw [show Wx.setCell ⟨b, 0, none⟩ (.string (x.p.extract (p.size + 1) x.p.size)) = Wz from by rw [HWz.out, Hex.out]]
      gi_wp2_with (first
        | (refine wpListIn_load_at rfl _ _ rfl ⟨b, 0, none⟩ rfl [.string ex, .int .i64 x.k, .int .i64 x.m, .string x.d, .string x.l] _ Hcells.out Tryz.underlying38 rfl (by kernel_rfl) ?_)
        | (gi_at_builtin; refine wpListIn_append_own_at _ rfl _ _ 22 rfl w2.heap.size 38 i0 _ 5 64 Tryz.underlying22 Hi.out Hz0.out Hz1.out Hz2.out rfl (by decide) _ _ _ rfl (Hrow.out.alloc _) ⟨Wz.heap.size, 0, none⟩ 1 1 [.string ex, .int .i64 x.k, .int .i64 x.m, .string x.d, .string x.l] rfl rfl Hnew.out (by simp [Value.oneCell']) (by unfold maxLen; omega) (by omega) (by simp; omega) ?_; intro v' w1 hown' hgrow hblk; obtain ⟨g', cap', rfl⟩ := ownsRow_succ hown'; obtain ⟨hv1, hv2, hr2, hk2, hb3⟩ := Hv.out.appended (by decide) Hrow.out hbs (Nat.le_refl _) hown' hgrow; have hc1 := hv1.cell; have hf1 := hv1.frozen
           have Hkpc := Lib.hid (kpc_append Hv.out hgrow hblk hv2)
           have Hv2 := Lib.hid hv2
           have Hr2 := Lib.hid hr2
           have Hk2 := Lib.hid hk2
           have Hb3 := Lib.hid hb3
           clear hown' hgrow hblk hv1 hv2 hr2 hk2 hb3))
      exact ⟨Hkf.out.trans (Hk2.out.from _), Hkz.out.trans Hkpc.out, ⟨_, Hv2.out, by rw [List.length_append, List.length_singleton, Hmap.out, Hm.out]; exact Hr2.out, fun h => absurd h (by simp)⟩, Hbz.out.trans Hb3.out⟩
  case done =>
    rintro D Wd hD ⟨⟨v, hv, hrow, hnil⟩, hb⟩ hK
    have hvc := hv.cell
    have hvf := hv.frozen
    have Hb := Lib.hid hb
    have Hv := Lib.hid hv
    have Hrow := Lib.hid hrow
    have Hnil := Lib.hid hnil
    have HK := Lib.hid hK
    clear hb hv hrow hK hnil
    gi_wp2_with fail
    refine leave_mark HK.out (results_tmp2 rfl _ _ _) ⟨v, rfl, ?_, below_putObj (HB2w.out.trans (Hb.out.mono HB2w.out.size)) _ (by omega)⟩
    rw [Hfin.out, List.length_map]
    exact ⟨ownsRow_base_a (row_putObj Hrow.out _ HK.out rfl) HB2w.out.size, fun h => Hnil.out (List.eq_nil_of_length_eq_zero h)⟩
  case stop =>
    rintro D c pre x rest Wd hD hLs h hK
    exact h.elim
end
section
open Go.RowKit Go.Maps Go.Shelf
open Go.Lib hiding intOf size_eq
theorem subNo_le {L : List Ent} (q : List UInt8) (h : (checkL L).1 ≤ 32) : subNo L q ≤ 32 := by
  unfold subNo
  split
  · exact h
  · split
    · omega
    · split
      · omega
      · split <;> omega
set_option maxRecDepth 100000 in
theorem said_any (L : List Ent) (q : List UInt8) (w : World) (hle : (checkL L).1 ≤ 32) (hg : Handle w) :
    Calls Tryz.prog 30 #[errS L q, .int .i64 (subNo L q : Int), .int .i64 (subAt L)] w fun r w' => r = .returned (.bool true) ∧ Below w.heap.size w w' := by
  by_cases hc : (checkL L).1 ≠ 0
  · have hat := at_fault (checkL L).1 0 ((checkL L).2 : Int) w (by omega) hle hg
    have hE : errS L q = fltV ((checkL L).1 : Int) 0 ((checkL L).2 : Int) := by unfold errS; rw [if_pos hc]
    have hN : subNo L q = (checkL L).1 := by unfold subNo; rw [if_pos hc]
    have hA : subAt L = ((checkL L).2 : Int) := by unfold subAt; rw [if_pos hc]
    rw [hE, hN, hA]
    obtain ⟨E, hEE⟩ : ∃ x, x = fltV ((checkL L).1 : Int) 0 ((checkL L).2 : Int) := ⟨_, rfl⟩
    rw [← hEE] at hat ⊢
    have Hat := Lib.hid hat
    clear hat hE hN hA hc hEE
    generalize (checkL L).1 = N at *
    generalize (checkL L).2 = A at *
    have a0 : ¬ ((A : Int) < 0) := by omega
    go_enter Tryz.func30, Tryz.ntmps30
    go_wp2_with (first
      | (go_at_call 13; refine Hat.out.mono ?_; rintro r w1 ⟨rfl, hb1⟩; have B1 := Lib.hid hb1; clear hb1))
    go_ret
    exact ⟨rfl, B1.out⟩
  · have hpl := plain_any (subNo L q) (subNo L q : Int) w (subNo_le q hle) hg
    rw [decide_eq_true (rfl : ((subNo L q : Nat) : Int) = ((subNo L q : Nat) : Int))] at hpl
    have hE : errS L q = errV (subNo L q) := by unfold errS; rw [if_neg hc]
    have hA : subAt L = -1 := by unfold subAt; rw [if_neg hc]
    rw [hE, hA]
    obtain ⟨E, hEE⟩ : ∃ x, x = errV (subNo L q) := ⟨_, rfl⟩
    rw [← hEE] at hpl ⊢
    have Hpl := Lib.hid hpl
    clear hpl hE hA hc hEE
    generalize subNo L q = N at *
    go_enter Tryz.func30, Tryz.ntmps30
    go_wp2_with (first
      | (go_at_call 36; refine Hpl.out.mono ?_; rintro r w1 ⟨rfl, hb1⟩; have B1 := Lib.hid hb1; clear hb1))
    go_ret
    exact ⟨rfl, B1.out⟩
theorem RowE.lower {W : World} {base base' : Nat} {v : Value} {n : Nat} {xs : List Ent} (h : RowE W base v n xs) (hb : base' ≤ base) : RowE W base' v n xs := ⟨ownsRow_base_a h.1 hb, h.2⟩
theorem RowE.below {W W' : World} {base : Nat} {v : Value} {n : Nat} {xs : List Ent} (h : RowE W base v n xs) (hb : Below W.heap.size W W') : RowE W' base v n xs := h.keep fun b _ hlt => hb.block b hlt
theorem RowE.ents {W : World} {base : Nat} {v : Value} {xs : List Ent} (h : RowE W base v xs.length xs) : EntsAt W v xs := ents_of_row h.1
/-- where the law stands -/
structure SubS (w w4 W : World) (base0 : Nat) (v v13 vw vm : Value) (L P Q : List Ent) : Prop where
  lent : LentAt W base0 v13 L
  arg : EntsAt W v L
  want : EntsAt W vw P
  more : EntsAt W vm Q
  bel : Below w.heap.size w W
  bas : Below w4.heap.size w4 W
theorem SubS.below {w w4 W W' : World} {base0 : Nat} {v v13 vw vm : Value} {L P Q : List Ent} (h : SubS w w4 W base0 v v13 vw vm L P Q) (hb : Below W.heap.size W W') : SubS w w4 W' base0 v v13 vw vm L P Q :=
  ⟨h.lent.below hb (Nat.le_refl _), h.arg.below hb (Nat.le_refl _), h.want.below hb (Nat.le_refl _), h.more.below hb (Nat.le_refl _), h.bel.trans (hb.mono h.bel.size), h.bas.trans (hb.mono h.bas.size)⟩
set_option maxRecDepth 100000 in
set_option maxHeartbeats 4000000 in
theorem treeSubs_any (v : Value) (L : List Ent) (p q : ByteArray) (w : World) (h : EntsAt w v L) (hS : ∀ x ∈ L, x.p.size ≤ 1099511627776 ∧ x.l.size ≤ 1099511627776 ∧ x.d.size ≤ 1099511627776) (hl : L.length ≤ 1048576) (hp : p.size ≤ 1048576) (hq : q.size ≤ 1048576) (hg : Handle w) :
    Calls Tryz.prog 5 #[v, .string p, .string q] w fun r w' => r = .returned (.bool true) ∧ Below w.heap.size w w' := by
  have hle : (checkL L).1 ≤ 32 := checkGo_le L []
  have hlen : ∀ s : List UInt8, (subL L s).length ≤ L.length := fun s => by
    unfold subL
    split
    · exact Nat.zero_le _
    · split
      · exact Nat.le_refl _
      · rw [List.length_map]; exact under_le _ _
  have HE := Lib.hid h
  have Hg := Lib.hid hg
  have hr1 := rsub07_any v L p w h hS hl hp
  have hr2 := fun W (hW : Below w.heap.size w W) => rsub07_any v L q W (HE.out.below hW (Nat.le_refl _)) hS hl hq
  have hlent := fun W (hW : Below w.heap.size w W) => lent_any v L W (HE.out.below hW (Nat.le_refl _)) (by omega)
  have ht1 := fun (W : World) (x : Value) (hx : EntsAt W x L) => tsub_any x L p W hx hS hl hp
  have ht2 := fun (W : World) (x : Value) (hx : EntsAt W x L) => tsub_any x L q W hx hS hl hq
  have hs1 := fun (W : World) (hW : Below w.heap.size w W) => said_any L p.data.toList W hle (Hg.out.below hW (Nat.le_refl _))
  have hs2 := fun (W : World) (hW : Below w.heap.size w W) => said_any L q.data.toList W hle (Hg.out.below hW (Nat.le_refl _))
  have hP : (subL L p.data.toList).length ≤ 1048576 := Nat.le_trans (hlen _) hl
  have hQ : (subL L q.data.toList).length ≤ 1048576 := Nat.le_trans (hlen _) hl
  generalize subL L p.data.toList = P at *
  generalize subL L q.data.toList = Q at *
  generalize errS L p.data.toList = E1 at *
  generalize errS L q.data.toList = E2 at *
  generalize subNo L p.data.toList = N1 at *
  generalize subNo L q.data.toList = N2 at *
  generalize subAt L = A at *
  have Hr1 := Lib.hid hr1
  have Hr2 := Lib.hid hr2
  have Hlent := Lib.hid hlent
  have Ht1 := Lib.hid ht1
  have Ht1' := Lib.hid ht1
  have Ht2 := Lib.hid ht2
  have Hs1 := Lib.hid hs1
  have Hs1' := Lib.hid hs1
  have Hs2 := Lib.hid hs2
  have HW := Lib.hid (fun W (hW : Below w.heap.size w W) => works07_any W (Hg.out.below hW (Nat.le_refl _)))
  have HSP := Lib.hid (fun (va vb : Value) (W : World) (h1 : EntsAt W va P) (h2 : EntsAt W vb P) => same_any va vb P W h1 h2 (by omega))
  have HSP' := Lib.hid (fun (va vb : Value) (W : World) (h1 : EntsAt W va P) (h2 : EntsAt W vb P) => same_any va vb P W h1 h2 (by omega))
  have HSQ := Lib.hid (fun (va vb : Value) (W : World) (h1 : EntsAt W va Q) (h2 : EntsAt W vb Q) => same_any va vb Q W h1 h2 (by omega))
  have Hl := Lib.hid hl
  clear hr1 hr2 hlent ht1 ht2 hs1 hs2 hlen hle h hS hg hp hq hl
  go_enter Tryz.func5, Tryz.ntmps5
  go_upto_region 9 with (first
    | (go_at_call 28; first
       | (refine Hr1.out.mono ?_; rintro r w1 ⟨vw, rfl, hv, hb⟩
          have V1 := Lib.hid hv
          have B1 := Lib.hid hb
          clear hb hv Hr1)
       | (refine (Hr2.out w1 B1.out).mono ?_; rintro r w2 ⟨vm, rfl, hv, hb⟩
          have V2 := Lib.hid (V1.out.below hb (Nat.le_refl _))
          have V2m := Lib.hid hv
          have B2 := Lib.hid (B1.out.trans (hb.mono B1.out.size))
          clear hb hv Hr2 V1))
    | (go_at_call 12; refine (Hlent.out w2 B2.out).mono ?_; rintro r w4 ⟨v13, rfl, hv, hb⟩
       have S4 := Lib.hid (show SubS w w4 w4 w2.heap.size v v13 vw vm L P Q from ⟨hv, HE.out.below (B2.out.trans (hb.mono B2.out.size)) (Nat.le_refl _), V2.out.below hb (Nat.le_refl _), V2m.out.below hb (Nat.le_refl _), B2.out.trans (hb.mono B2.out.size), Below.refl _ _⟩)
       clear hb hv Hlent)
    | (go_at_call 29; first
       | (refine (Ht1.out w4 v13 S4.out.lent.ents).mono ?_; rintro r w5 ⟨va, rfl, hv, hb⟩
          have S5 := Lib.hid (S4.out.below hb)
          have A5 := Lib.hid hv
          clear hb hv Ht1)
       | (refine (Ht1'.out w5 v13 S5.out.lent.ents).mono ?_; rintro r w6 ⟨vb, rfl, hv, hb⟩
          have S6 := Lib.hid (S5.out.below hb)
          have A6 := Lib.hid (A5.out.below hb)
          have C6 := Lib.hid hv
          clear hb hv Ht1')
       | (refine (Ht2.out w6 v13 S6.out.lent.ents).mono ?_; rintro r w7 ⟨vc, rfl, hv, hb⟩
          have S7 := Lib.hid (S6.out.below hb)
          have A7 := Lib.hid (A6.out.below hb)
          have C7 := Lib.hid (C6.out.below hb)
          have D7 := Lib.hid hv
          clear hb hv Ht2))
    | (go_at_call 30; first
       | (refine (Hs1.out w7 S7.out.bel).mono ?_; rintro r w8 ⟨rfl, hb⟩
          have H8 := Lib.hid hb
          clear hb Hs1)
       | (refine (Hs1'.out w8 (S7.out.below H8.out).bel).mono ?_; rintro r w9 ⟨rfl, hb⟩
          have H9 := Lib.hid (H8.out.trans (hb.mono H8.out.size))
          clear hb Hs1')
       | (refine (Hs2.out w9 (S7.out.below H9.out).bel).mono ?_; rintro r wa ⟨rfl, hb⟩
          have Ha := Lib.hid (H9.out.trans (hb.mono H9.out.size))
          clear hb Hs2))
    | (go_at_call 23; first
       | (refine (HSP.out va vw wa (A7.out.below Ha.out).ents (S7.out.below Ha.out).want).mono ?_; rintro r wb ⟨hb, rfl⟩
          have Hb := Lib.hid (Ha.out.trans (hb.mono Ha.out.size))
          clear hb HSP)
       | (refine (HSP'.out vb vw wb (C7.out.below Hb.out).ents (S7.out.below Hb.out).want).mono ?_; rintro r wc ⟨hb, rfl⟩
          have Hc := Lib.hid (Hb.out.trans (hb.mono Hb.out.size))
          clear hb HSP')
       | (refine (HSQ.out vc vm wc (D7.out.below Hc.out).ents (S7.out.below Hc.out).more).mono ?_; rintro r wd ⟨hb, rfl⟩
          have Hd := Lib.hid (Hc.out.trans (hb.mono Hc.out.size))
          clear hb HSQ)))
  have hS := S7.out.below Hd.out
  have hA := A7.out.below Hd.out
  have hC := C7.out.below Hd.out
  have hD := D7.out.below Hd.out
  have hb45 : w4.heap.size ≤ w5.heap.size := S5.out.bas.size
  have hb46 : w4.heap.size ≤ w6.heap.size := S6.out.bas.size
  have dAB : ∀ b, va.ownBlock = some b → vb.ownBlock ≠ some b := fun b h1 h2 => by
    obtain ⟨_, cur, h3⟩ := A5.out.block h1
    have h4 := (C7.out.block h2).1
    have := heap_lt h3
    omega
  have dAC : ∀ b, va.ownBlock = some b → vc.ownBlock ≠ some b := fun b h1 h2 => by
    obtain ⟨_, cur, h3⟩ := A6.out.block h1
    have h4 := (D7.out.block h2).1
    have := heap_lt h3
    omega
  have dBC : ∀ b, vb.ownBlock = some b → vc.ownBlock ≠ some b := fun b h1 h2 => by
    obtain ⟨_, cur, h3⟩ := C6.out.block h1
    have h4 := (D7.out.block h2).1
    have := heap_lt h3
    omega
  obtain ⟨oa, ca, rfl, _, _, _⟩ := row_val hA.1
  obtain ⟨ob, cb, rfl, _, _, _⟩ := row_val hC.1
  obtain ⟨oc, cc, rfl, _, _, _⟩ := row_val hD.1
  obtain ⟨we, hwe⟩ : ∃ x, x = wd.alloc (.cells #[.slice oa P.length ca, .slice ob P.length cb, .slice oc Q.length cc] 22) := ⟨_, rfl⟩
  have hde : Below wd.heap.size wd we := by rw [hwe]; exact (Below.refl _ _).alloc (Nat.le_refl _) _
  have hse := hS.below hde
  have happ : Calls Tryz.prog 31 #[.slice (some ⟨wd.heap.size, 0, none⟩) 3 3] we fun r w' => r = .returned (.bool true) ∧ Below w4.heap.size we w' := apartEntries_any [(.slice oa P.length ca, P.length), (.slice ob P.length cb, P.length), (.slice oc Q.length cc, Q.length)] wd.heap.size w4.heap.size 3 we (show 3 ≤ 200 by decide) (Nat.le_refl _) (by unfold maxLen; omega) hse.bas.size
    (by rw [hwe]; exact World.alloc_heap_new wd _)
    (fun j x n hj => by
      match j, hj with
      | 0, hj => injection hj with hj; injection hj with e1 e2; subst e1; subst e2; exact ⟨P, hA.below hde⟩
      | 1, hj => injection hj with hj; injection hj with e1 e2; subst e1; subst e2; exact ⟨P, (hC.below hde).lower hb45⟩
      | 2, hj => injection hj with hj; injection hj with e1 e2; subst e1; subst e2; exact ⟨Q, (hD.below hde).lower hb46⟩)
    (fun j k x n x' n' hjk hj hk => by
      match j, k, hj, hk, hjk with
      | 0, 0, _, _, h => exact absurd rfl h
      | 1, 1, _, _, h => exact absurd rfl h
      | 2, 2, _, _, h => exact absurd rfl h
      | 0, 1, hj, hk, _ => injection hj with hj; injection hj with e1 _; injection hk with hk; injection hk with e2 _; subst e1; subst e2; exact dAB
      | 0, 2, hj, hk, _ => injection hj with hj; injection hj with e1 _; injection hk with hk; injection hk with e2 _; subst e1; subst e2; exact dAC
      | 1, 2, hj, hk, _ => injection hj with hj; injection hj with e1 _; injection hk with hk; injection hk with e2 _; subst e1; subst e2; exact dBC
      | 1, 0, hj, hk, _ => injection hj with hj; injection hj with e1 _; injection hk with hk; injection hk with e2 _; subst e1; subst e2; exact fun b h1 h2 => dAB b h2 h1
      | 2, 0, hj, hk, _ => injection hj with hj; injection hj with e1 _; injection hk with hk; injection hk with e2 _; subst e1; subst e2; exact fun b h1 h2 => dAC b h2 h1
      | 2, 1, hj, hk, _ => injection hj with hj; injection hj with e1 _; injection hk with hk; injection hk with e2 _; subst e1; subst e2; exact fun b h1 h2 => dBC b h2 h1)
    (fun j x n hj => by
      match j, hj with
      | 0, hj => injection hj with hj; injection hj with e1 e2; subst e2; omega
      | 1, hj => injection hj with hj; injection hj with e1 e2; subst e2; omega
      | 2, hj => injection hj with hj; injection hj with e1 e2; subst e2; omega)
  have hkept : ∀ W, Below w4.heap.size we W → Calls Tryz.prog 15 #[v13, v] W fun r w' => r = .returned (.bool true) ∧ Below W.heap.size W w' := fun W hW => by
    have h4 : Below w4.heap.size w4 W := hse.bas.trans hW
    exact kept_any v13 v L w2.heap.size W (S4.out.lent.below h4 (Nat.le_refl _)) (S4.out.arg.below h4 (Nat.le_refl _)) Hl.out
  have hbf : ∀ W, Below w4.heap.size we W → Below w.heap.size w W := fun W hW => hse.bel.trans (hW.mono S4.out.bel.size)
  have Happ := Lib.hid happ
  have Hkept := Lib.hid hkept
  have Hbf := Lib.hid hbf
  have Hwe := Lib.hid hwe
  have Hb4 := Lib.hid hse.bas.size
  clear hS hA hC hD dAB dAC dBC hwe hde hse happ hkept hbf S4 S5 S6 S7 A5 A6 A7 C6 C7 D7 H8 H9 Ha Hb Hc Hd hb45 hb46 V2 V2m B1 B2 HE
  go_wp2_with (first
    | (go_at_call 31; go_loud (rw [← Hwe.out]); go_loud (refine Happ.out.mono ?_); rintro r wf ⟨rfl, hb⟩
       have Hf := Lib.hid hb
       clear hb)
    | (go_at_call 15; refine (Hkept.out wf Hf.out).mono ?_; rintro r wg ⟨rfl, hb⟩
       have Hg2 := Lib.hid (Hf.out.trans (hb.mono (Nat.le_trans Hb4.out Hf.out.size)))
       clear hb)
    | (go_at_call 16; refine (HW.out wg (Hbf.out wg Hg2.out)).mono ?_; rintro r wh ⟨rfl, hb⟩
       have Hh := Lib.hid ((Hbf.out wg Hg2.out).trans (hb.mono (Hbf.out wg Hg2.out).size))
       clear hb))
  go_ret
  exact ⟨rfl, Hh.out⟩
end
end Go.Proofs.YtdkodedocklmdaaGreatDoor
