/- A walk in memory: its block, what is left of the way, what is told; frames that let some blocks go. -/
import Derived.Test.YtdkodedocklmdaaGreatDoorRPieces
import Derived.Test.YtdkodedocklmdaaGreatDoorTDir
import Derived.Test.YtdkodedocklmdaaGreatDoorRLaw
set_option linter.unusedVariables false
namespace Go.Proofs.YtdkodedocklmdaaGreatDoor
open Go.RowKit Go.Shelf
open Go.Lib hiding intOf
/-- all that lay in w lies in W as it lay, but for these blocks -/
structure But (ex : List Nat) (w W : World) : Prop where
  os : W.os = w.os
  tape : W.tape = w.tape
  output : W.output = w.output
  size : w.heap.size ≤ W.heap.size
  block : ∀ k, k < w.heap.size → k ∉ ex → W.heap[k]? = w.heap[k]?
theorem But.refl (ex : List Nat) (w : World) : But ex w w := ⟨rfl, rfl, rfl, Nat.le_refl _, fun _ _ _ => rfl⟩
theorem But.trans {ex ex2 : List Nat} {a b c : World} (h : But ex a b) (k : But ex2 b c) (he : ∀ i, i ∈ ex2 → i ∈ ex ∨ a.heap.size ≤ i) : But ex a c :=
  ⟨k.os.trans h.os, k.tape.trans h.tape, k.output.trans h.output, Nat.le_trans h.size k.size, fun i hi hn => (k.block i (Nat.lt_of_lt_of_le hi h.size) (fun e => (he i e).elim hn (fun e2 => by omega))).trans (h.block i hi hn)⟩
theorem But.mono {ex ex2 : List Nat} {a b : World} (h : But ex a b) (he : ∀ i, i ∈ ex → i ∈ ex2) : But ex2 a b := ⟨h.os, h.tape, h.output, h.size, fun i hi hn => h.block i hi (fun e => hn (he i e))⟩
theorem But.alloc {ex : List Nat} {w W : World} (h : But ex w W) (o : Obj) : But ex w (W.alloc o) :=
  ⟨h.os, h.tape, h.output, Nat.le_trans h.size (by simp), fun k hk hn => (heap_alloc_old W o (Nat.lt_of_lt_of_le hk h.size)).trans (h.block k hk hn)⟩
theorem But.setCell {ex : List Nat} {w W : World} (h : But ex w W) {p : Addr} (hp : p.block ∈ ex ∨ w.heap.size ≤ p.block) (v : Value) : But ex w (W.setCell p v) :=
  ⟨h.os, h.tape, h.output, Nat.le_trans h.size (by simp), fun k hk hn => (heap_setCell_other W p k v (fun e => hp.elim (fun x => hn (by rw [e]; exact x)) (fun x => by omega))).trans (h.block k hk hn)⟩
theorem But.below {ex : List Nat} {w W W' : World} (h : But ex w W) (hb : Below W.heap.size W W') : But ex w W' :=
  ⟨hb.os.trans h.os, hb.tape.trans h.tape, hb.output.trans h.output, Nat.le_trans h.size hb.size, fun k hk hn => (hb.block k (Nat.lt_of_lt_of_le hk h.size)).trans (h.block k hk hn)⟩
theorem But.grown {ex : List Nat} {w W W' : World} {row : Option Nat} (h : But ex w W) (hg : W.grownBy W' row) (hr : ∀ k, row = some k → k ∈ ex ∨ w.heap.size ≤ k) : But ex w W' :=
  ⟨hg.os.trans h.os, hg.tape.trans h.tape, hg.output.trans h.output, Nat.le_trans h.size hg.size, fun k hk hn => (hg.block k (Nat.lt_of_lt_of_le hk h.size) (fun e => (hr k e.symm).elim hn (fun x => by omega))).trans (h.block k hk hn)⟩
theorem But.drewN {ex : List Nat} {w W : World} (h : But ex w W) (n : Nat) : But ex w (W.drewN n) := ⟨h.os, h.tape, h.output, h.size, h.block⟩
theorem But.drew {ex : List Nat} {w W : World} (h : But ex w W) : But ex w W.drew := ⟨h.os, h.tape, h.output, h.size, h.block⟩
theorem But.to_below {ex : List Nat} {w W : World} {B : Nat} (h : But ex w W) (hB : B ≤ w.heap.size) (he : ∀ k ∈ ex, B ≤ k) : Below B w W :=
  ⟨h.os, h.tape, h.output, h.size, fun k hk => h.block k (by omega) (fun e => by have := he k e; omega)⟩
/-- a walk's block -/
def walkObj (T : Nat) (a : ByteArray) (lv : Value) (hops : Int) (keep : Bool) (sv : Value) : Obj :=
  .cells #[.pointer (some ⟨T, 0, none⟩), .string a, lv, .int .i64 hops, .bool keep, .bool false, .func (.func 77) #[] #[], sv] 123 (0, 0)
theorem walk_cells {w : World} {Wk T : Nat} {a : ByteArray} {lv : Value} {hops : Int} {keep : Bool} {sv : Value} (h : w.heap[Wk]? = some (walkObj T a lv hops keep sv)) :
    w.cell? ⟨Wk, 0, none⟩ = some (.pointer (some ⟨T, 0, none⟩)) ∧ w.cell? ⟨Wk, 1, none⟩ = some (.string a) ∧ w.cell? ⟨Wk, 2, none⟩ = some lv ∧ w.cell? ⟨Wk, 3, none⟩ = some (.int .i64 hops) ∧ w.cell? ⟨Wk, 4, none⟩ = some (.bool keep) ∧ w.cell? ⟨Wk, 5, none⟩ = some (.bool false) ∧ w.cell? ⟨Wk, 6, none⟩ = some (.func (.func 77) #[] #[]) ∧ w.cell? ⟨Wk, 7, none⟩ = some sv := by
  unfold World.cell? walkObj at *
  simp [h]
theorem walk_frozen {w : World} {Wk T : Nat} {a : ByteArray} {lv : Value} {hops : Int} {keep : Bool} {sv : Value} (h : w.heap[Wk]? = some (walkObj T a lv hops keep sv)) (i : Nat) : w.frozen? ⟨Wk, i, none⟩ = false := by
  unfold World.frozen? walkObj at *
  simp [h]
theorem walk_setAt {w : World} {Wk T : Nat} {a : ByteArray} {lv : Value} {hops : Int} {keep : Bool} {sv : Value} (h : w.heap[Wk]? = some (walkObj T a lv hops keep sv)) (b : ByteArray) : (w.setCell ⟨Wk, 1, none⟩ (.string b)).heap[Wk]? = some (walkObj T b lv hops keep sv) := by
  have := heap_setCell_same w Wk 1 _ _ (.string b) h
  rw [this]; rfl
theorem walk_setLeft {w : World} {Wk T : Nat} {a : ByteArray} {lv : Value} {hops : Int} {keep : Bool} {sv : Value} (h : w.heap[Wk]? = some (walkObj T a lv hops keep sv)) (v : Value) : (w.setCell ⟨Wk, 2, none⟩ v).heap[Wk]? = some (walkObj T a v hops keep sv) := by
  have := heap_setCell_same w Wk 2 _ _ v h
  rw [this]; rfl
theorem walk_setHops {w : World} {Wk T : Nat} {a : ByteArray} {lv : Value} {hops : Int} {keep : Bool} {sv : Value} (h : w.heap[Wk]? = some (walkObj T a lv hops keep sv)) (n : Int) : (w.setCell ⟨Wk, 3, none⟩ (.int .i64 n)).heap[Wk]? = some (walkObj T a lv n keep sv) := by
  have := heap_setCell_same w Wk 3 _ _ (.int .i64 n) h
  rw [this]; rfl
/-- a slice of texts, at whatever offset -/
structure LeftA (w : World) (o : Option Addr) (cap : Nat) (L : List (List UInt8)) : Prop where
  le : L.length ≤ cap
  max : cap ≤ maxLen
  lt : ∀ a, o = some a → a.block < w.heap.size
  cell : ∀ (i : Nat) x, L[i]? = some x → ∃ a, o = some a ∧ w.cell? (a.add i) = some (encS x)
def OutOf (ex : List Nat) (o : Option Addr) : Prop := ∀ a, o = some a → a.block ∉ ex
theorem LeftA.but {w W : World} {o : Option Addr} {cap : Nat} {L : List (List UInt8)} {ex : List Nat} (h : LeftA w o cap L) (hb : But ex w W) (ho : OutOf ex o) : LeftA W o cap L := by
  refine ⟨h.le, h.max, fun a ha => Nat.lt_of_lt_of_le (h.lt a ha) hb.size, fun i x hx => ?_⟩
  obtain ⟨a, ha, hc⟩ := h.cell i x hx
  refine ⟨a, ha, ?_⟩
  have hk := hb.block a.block (h.lt a ha) (ho a ha)
  unfold World.cell? at hc ⊢
  rw [add_block] at hc ⊢
  rw [hk]
  exact hc
theorem add_zero (a : Addr) : a.add 0 = a := by unfold Addr.add; simp
theorem add_add (a : Addr) (i j : Nat) : (a.add i).add j = a.add (i + j) := by
  unfold Addr.add
  by_cases hi : i = 0 <;> by_cases hj : j = 0 <;> simp [hi, hj, Nat.add_assoc]
theorem LeftA.tail {w : World} {a : Addr} {cap : Nat} {x : List UInt8} {L : List (List UInt8)} (h : LeftA w (some a) cap (x :: L)) : LeftA w (some (a.add 1)) (cap - 1) L := by
  have h1 := h.le
  have h2 := h.max
  simp at h1
  refine ⟨by omega, by omega, fun b hb => ?_, fun i y hy => ?_⟩
  · injection hb with hb
    subst hb
    rw [add_block]
    exact h.lt a rfl
  · obtain ⟨b, hb, hc⟩ := h.cell (i + 1) y (by simpa using hy)
    injection hb with hb
    subst hb
    exact ⟨_, rfl, by rw [add_add, Nat.add_comm 1 i]; exact hc⟩
theorem left_of_texts {w : World} {base : Nat} {v : Value} {L : List (List UInt8)} (h : Texts w base v L) : ∃ o cap, v = .slice o L.length cap ∧ LeftA w o cap L ∧ ∀ a, o = some a → base ≤ a.block := by
  have hx := h
  obtain ⟨h1, h2⟩ := hx
  rcases h2 with ⟨rfl, h0⟩ | ⟨g, cap, cur, rfl, hb, hg, hcap, hmx, h3⟩
  · obtain rfl : L = [] := List.eq_nil_of_length_eq_zero h0
    exact ⟨none, 0, rfl, ⟨Nat.le_refl _, by simp, fun a ha => (by cases ha), fun i x hx => (by simp at hx)⟩, fun a ha => (by cases ha)⟩
  · refine ⟨_, cap, rfl, ⟨hcap, hmx, fun a ha => ?_, fun i x hx => ⟨_, rfl, ?_⟩⟩, fun a ha => ?_⟩
    · injection ha with ha; subst ha
      exact (Array.getElem?_eq_some_iff.1 hg).1
    · have hlt : i < L.length := (List.getElem?_eq_some_iff.1 hx).1
      have := World.ownsRow.cellAt h i (by simpa using hlt)
      rw [List.getElem?_map, hx] at this
      have e : (⟨g, 0, none⟩ : Addr).add i = ⟨g, i, none⟩ := by unfold Addr.add; split <;> simp_all
      rw [e]
      exact this
    · injection ha with ha; subst ha; exact hb
/-- what is told behind each piece: nothing, or a trail is kept -/
def StepAt (w : World) (base : Nat) (sv : Value) (tr : List (List UInt8)) (F : List Nat) : Prop :=
  (sv = .nilFunc ∧ F = []) ∨ ∃ B v, sv = .func (.func 80) #[] #[.pointer (some ⟨B, 0, none⟩)] ∧ Boxed w B 70 v ∧ Texts w base v tr ∧ base ≤ B ∧ F = B :: v.ownBlock.toList
theorem StepAt.lo {w : World} {base : Nat} {sv : Value} {tr : List (List UInt8)} {F : List Nat} (h : StepAt w base sv tr F) : ∀ k ∈ F, base ≤ k := by
  rcases h with ⟨_, rfl⟩ | ⟨B, v, _, _, ht, hB, rfl⟩
  · intro k hk; cases hk
  · intro k hk
    rcases List.mem_cons.1 hk with rfl | hk
    · exact hB
    · rcases ht.2 with ⟨rfl, _⟩ | ⟨g, cap, cur, rfl, hb, _⟩
      · simp [Value.ownBlock] at hk
      · simp [Value.ownBlock] at hk
        subst hk
        exact hb
theorem StepAt.lt {w : World} {base : Nat} {sv : Value} {tr : List (List UInt8)} {F : List Nat} (h : StepAt w base sv tr F) : ∀ k ∈ F, k < w.heap.size := by
  rcases h with ⟨_, rfl⟩ | ⟨B, v, _, hv, ht, hB, rfl⟩
  · intro k hk; cases hk
  · intro k hk
    rcases List.mem_cons.1 hk with rfl | hk
    · exact hv.lt
    · rcases ht.2 with ⟨rfl, _⟩ | ⟨g, cap, cur, rfl, hb, hg, _⟩
      · simp [Value.ownBlock] at hk
      · simp [Value.ownBlock] at hk
        subst hk
        exact (Array.getElem?_eq_some_iff.1 hg).1
theorem StepAt.but {w W : World} {base : Nat} {sv : Value} {tr : List (List UInt8)} {F ex : List Nat} (h : StepAt w base sv tr F) (hb : But ex w W) (he : ∀ k ∈ F, k ∉ ex) : StepAt W base sv tr F := by
  have hlt := h.lt
  rcases h with h | ⟨B, v, e, hv, ht, hB, rfl⟩
  · exact .inl h
  · refine .inr ⟨B, v, e, (hb.block B (hlt B (List.mem_cons_self ..)) (he B (List.mem_cons_self ..))).trans hv, ⟨ht.1, ?_⟩, hB, rfl⟩
    rcases ht.2 with h2 | ⟨g, cap, cur, rfl, b, c, d⟩
    · exact .inl h2
    · have hg : g ∈ B :: (Value.slice (some ⟨g, 0, none⟩) tr.length cap).ownBlock.toList := by simp [Value.ownBlock]
      exact .inr ⟨g, cap, cur, rfl, b, (hb.block g (hlt g hg) (he g hg)).trans c, d⟩
end Go.Proofs.YtdkodedocklmdaaGreatDoor
