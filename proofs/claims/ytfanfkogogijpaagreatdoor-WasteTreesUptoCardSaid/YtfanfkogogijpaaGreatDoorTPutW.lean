/- The contract of the tree's Put. -/
import Derived.Test.YtfanfkogogijpaaGreatDoorTSets
import Derived.Test.YtfanfkogogijpaaGreatDoorTBuild
set_option linter.unusedSimpArgs false
set_option linter.unusedVariables false
namespace Go.Proofs.YtfanfkogogijpaaGreatDoor
open Go.RowKit Go.Maps
open Go.Lib hiding intOf
def putL (l : List Ent) (e : Ent) : List Ent := if putNo l e = 0 then laidL l e else l
theorem flopT {P : Program} {f : FuncId} {args : Array Value} {w : World} {x : Ending} (h : Calls P f args w fun e w' => e = x ∧ w = w') : Calls P f args w fun e w' => e = x ∧ w' = w :=
  h.mono fun _ _ ⟨a, b⟩ => ⟨a, b.symm⟩
/-- what Put has done -/
def PutR (T rt rm base : Nat) (nd : List Nd) (e : Ent) (w : World) (r : Ending) (w' : World) : Prop :=
  r = .returned (errV (putNo (ents nd) e)) ∧ ∃ nd', ents nd' = putL (ents nd) e ∧ TreeAt w' T rt rm base nd' ∧ Turned T rt rm nd nd' w w'
theorem PutR.err {T rt rm base : Nat} {nd : List Nd} {e : Ent} {w w' : World} {n : Nat} (h : TreeAt w T rt rm base nd) (hn : putNo (ents nd) e = n) (h0 : n ≠ 0) (hb : Below w.heap.size w w') : PutR T rt rm base nd e w (.returned (errV n)) w' := by
  refine ⟨by rw [hn], nd, ?_, h.below hb (Nat.le_refl _), .of_below hb⟩
  unfold putL
  rw [if_neg (by rw [hn]; exact h0)]
theorem PutR.ok {T rt rm base : Nat} {nd nd' : List Nd} {e : Ent} {w w' : World} (hn : putNo (ents nd) e = 0) (he : ents nd' = laidL (ents nd) e) (ht : TreeAt w' T rt rm base nd') (hu : Turned T rt rm nd nd' w w') : PutR T rt rm base nd e w (.returned (errV 0)) w' := by
  refine ⟨by rw [hn], nd', ?_, ht, hu⟩
  unfold putL
  rw [if_pos hn, he]
theorem Turned.new {T rt rm base : Nat} {nd : List Nd} {w w' : World} {y : Nd} (h : TreeAt w T rt rm base nd) (hno : ∀ x ∈ nd, x.e.path ≠ y.e.path) (hb : w.heap.size ≤ y.b) (hm : w.heap.size ≤ y.m)
    (h1 : w'.os = w.os) (h2 : w'.tape = w.tape) (h3 : w'.output = w.output) (h4 : w.heap.size ≤ w'.heap.size) (hk : ∀ k, k < w.heap.size → ¬ IsBlk T rt rm nd k → w'.heap[k]? = w.heap[k]?) : Turned T rt rm nd (laidN nd y) w w' := by
  refine ⟨h1, h2, h3, h4, hk, fun b hbb => ?_⟩
  rcases hbb with hx | hx | hx | ⟨x, hx, hx2⟩
  · exact .inl (.inl hx)
  · exact .inl (.inr (.inl hx))
  · exact .inl (.inr (.inr (.inl hx)))
  · rcases List.mem_append.1 ((laidN_new hno).mem_iff.2 hx) with hx | hx
    · exact .inl (.inr (.inr (.inr ⟨x, hx, hx2⟩)))
    · rw [List.mem_singleton.1 hx] at hx2
      refine .inr ?_
      rcases hx2 with rfl | rfl
      · exact hb
      · exact hm
theorem Turned.pre {T rt rm : Nat} {nd nd' : List Nd} {w w1 w2 : World} (hb : Below w.heap.size w w1) (h : Turned T rt rm nd nd' w1 w2) : Turned T rt rm nd nd' w w2 := (Turned.of_below hb).trans h
end Go.Proofs.YtfanfkogogijpaaGreatDoor
