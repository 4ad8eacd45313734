/- What stays as it is: a frame by blocks and kinds of blocks. -/
import Derived.Test.YtfanfkogogijpaaGreatDoorKit
import Derived.RangeFuncBox
import Derived.RangeFuncNested
import Derived.Maps.AppendAt
namespace Go.Proofs.YtfanfkogogijpaaGreatDoor
open Go.RowKit
/-- every old block that 'ok' names is as it was -/
structure Keeps (ok : Nat → Obj → Prop) (w w' : World) : Prop where
  os : w'.os = w.os
  tape : w'.tape = w.tape
  output : w'.output = w.output
  size : w.heap.size ≤ w'.heap.size
  block : ∀ k o, w.heap[k]? = some o → ok k o → w'.heap[k]? = some o
theorem heap_lt {w : World} {k : Nat} {o : Obj} (h : w.heap[k]? = some o) : k < w.heap.size := (Array.getElem?_eq_some_iff.1 h).1
theorem Keeps.refl (ok : Nat → Obj → Prop) (w : World) : Keeps ok w w := ⟨rfl, rfl, rfl, Nat.le_refl _, fun _ _ h _ => h⟩
theorem Keeps.trans {ok : Nat → Obj → Prop} {a b c : World} (h : Keeps ok a b) (k : Keeps ok b c) : Keeps ok a c :=
  ⟨k.os.trans h.os, k.tape.trans h.tape, k.output.trans h.output, Nat.le_trans h.size k.size, fun i o hi hk => k.block i o (h.block i o hi hk) hk⟩
theorem Keeps.mono {ok ok' : Nat → Obj → Prop} {a b : World} (h : Keeps ok a b) (hm : ∀ k o, ok' k o → ok k o) : Keeps ok' a b :=
  ⟨h.os, h.tape, h.output, h.size, fun k o hk hok => h.block k o hk (hm k o hok)⟩
theorem Keeps.boxed {ok : Nat → Obj → Prop} {a b : World} (h : Keeps ok a b) {B : Nat} {t : TypeId} {v : Value} (hb : Boxed a B t v) (hok : ok B (.cells #[v] t (0, 0))) : Boxed b B t v := h.block B _ hb hok
theorem Keeps.alloc {ok : Nat → Obj → Prop} {a b : World} (h : Keeps ok a b) (o : Obj) : Keeps ok a (b.alloc o) :=
  ⟨h.os, h.tape, h.output, Nat.le_trans h.size (by simp), fun k o' hk hok => by
    have := h.block k o' hk hok
    exact (heap_alloc_old b o (heap_lt this)).trans this⟩
theorem Keeps.drewN {ok : Nat → Obj → Prop} {a b : World} (h : Keeps ok a b) (n : Nat) : Keeps ok a (b.drewN n) := ⟨h.os, h.tape, h.output, h.size, h.block⟩
theorem Keeps.drew {ok : Nat → Obj → Prop} {a b : World} (h : Keeps ok a b) : Keeps ok a b.drew := ⟨h.os, h.tape, h.output, h.size, h.block⟩
theorem Keeps.same {ok : Nat → Obj → Prop} {a b c : World} (h : Keeps ok a b) (hs : Same b c) : Keeps ok a c := by
  obtain ⟨n, rfl⟩ := hs
  exact h.drewN n
theorem Keeps.grown {ok : Nat → Obj → Prop} {a b c : World} {row : Option Nat} (h : Keeps ok a b) (hg : b.grownBy c row) (hn : ∀ k o, a.heap[k]? = some o → b.heap[k]? = some o → ok k o → some k ≠ row) : Keeps ok a c :=
  ⟨hg.os.trans h.os, hg.tape.trans h.tape, hg.output.trans h.output, Nat.le_trans h.size hg.size, fun k o hk hok => by
    have hb := h.block k o hk hok
    rw [hg.block k (heap_lt hb) (hn k o hk hb hok)]; exact hb⟩
theorem Keeps.set {ok : Nat → Obj → Prop} {a b : World} (h : Keeps ok a b) (B : Nat) (v : Value) (hn : ∀ o, ¬ ok B o) : Keeps ok a (b.setCell ⟨B, 0, none⟩ v) :=
  h.grown (grownBy_setCell' b B v) (fun k o _ _ hok e => by cases e; exact hn o hok)
theorem Keeps.below {ok : Nat → Obj → Prop} {a b : World} {B : Nat} (h : Keeps ok a b) (hB : B ≤ a.heap.size) (hok : ∀ k o, k < B → ok k o) : Below B a b :=
  ⟨h.os, h.tape, h.output, h.size, fun k hk => by
    have : k < a.heap.size := by omega
    rw [h.block k a.heap[k] (Array.getElem?_eq_getElem this) (hok k _ hk), Array.getElem?_eq_getElem this]⟩
theorem Keeps.of_below {B : Nat} {a b : World} (h : Below B a b) {ok : Nat → Obj → Prop} (hok : ∀ k o, a.heap[k]? = some o → ok k o → k < B) : Keeps ok a b :=
  ⟨h.os, h.tape, h.output, h.size, fun k o hk ho => by rw [h.block k (hok k o hk ho)]; exact hk⟩
/-- not a row of this kind -/
def notRow (e : TypeId) (o : Obj) : Prop := ∀ cs fz, o ≠ .cells cs e fz
theorem notRow_box {e t : TypeId} {v : Value} (h : t ≠ e) : notRow e (.cells #[v] t (0, 0)) := fun cs fz hh => h (by cases hh; rfl)
theorem notRow_row {w : World} {base : Nat} {e : TypeId} {size : Nat} {v : Value} {n : Nat} {xs : List Value} (h : w.ownsRow base e size v n xs) {k : Nat} {o : Obj} (hk : w.heap[k]? = some o) (ho : k < base ∨ notRow e o) : some k ≠ v.ownBlock := by
  intro e1
  rcases h.2 with ⟨rfl, _⟩ | ⟨g, cap, cur, rfl, hb, hg, _⟩
  · simp [Value.ownBlock] at e1
  · simp only [Value.ownBlock, Option.some.injEq] at e1
    subst e1
    rcases ho with ho | ho
    · omega
    · rw [hg] at hk
      cases hk
      exact ho _ _ rfl
theorem ownsRow_keeps {ok : Nat → Obj → Prop} {a b : World} {base : Nat} {e : TypeId} {size : Nat} {v : Value} {n : Nat} {xs : List Value} (h : a.ownsRow base e size v n xs) (hk : Keeps ok a b) (hok : ∀ k cs, v.ownBlock = some k → ok k (.cells cs e (0, 0))) : b.ownsRow base e size v n xs := by
  refine ⟨h.1, ?_⟩
  rcases h.2 with h2 | ⟨g, cap, cur, rfl, hb, hg, h3⟩
  · exact .inl h2
  · exact .inr ⟨g, cap, cur, rfl, hb, hk.block g _ hg (hok g cur rfl), h3⟩
end Go.Proofs.YtfanfkogogijpaaGreatDoor
