/- How a path is found in a tree: where the search stands, and what a piece makes of it. -/
import Derived.Test.YtdkodedocklmdaaGreatDoorTWorld
set_option linter.unusedVariables false
namespace Go.Proofs.YtdkodedocklmdaaGreatDoor
/-- a spot: nothing, the root, a node -/
def spotP (rt : Nat) : Option (Option Nd) → Value
  | none => .pointer none
  | some none => .pointer (some ⟨rt, 0, none⟩)
  | some (some y) => .pointer (some ⟨y.b, 0, none⟩)
def spotB (rt : Nat) : Option Nd → Nat
  | none => rt
  | some y => y.b
def spotM (rm : Nat) : Option Nd → Nat
  | none => rm
  | some y => y.m
def spotE : Option Nd → Ent
  | none => rootE
  | some y => y.e
def spotQ : Option Nd → List UInt8
  | none => []
  | some y => y.e.path
theorem spotP_some (rt : Nat) (o : Option Nd) : spotP rt (some o) = .pointer (some ⟨spotB rt o, 0, none⟩) := by cases o <;> rfl
def findO (nd : List Nd) (P : List UInt8) : Option (Option Nd) := if P = [] then some none else (lookN nd P).map some
inductive SeekW (nd : List Nd) (P : List UInt8) : Option (Option Nd) → List UInt8 → Prop
  | lost (h : lookN nd P = none) (hP : P ≠ []) (p : List UInt8) : SeekW nd P none p
  | root : SeekW nd P (some none) P
  | way (q p : List UInt8) (y : Nd) (h : lookN nd q = some y) (hp : p ≠ []) (h2 : joinP q p = P) : SeekW nd P (some (some y)) p
  | done (y : Nd) (h : lookN nd P = some y) : SeekW nd P (some (some y)) []
/-- is this spot one of the tree's? -/
def SpotIn (nd : List Nd) : Option Nd → Prop
  | none => True
  | some y => y ∈ nd
theorem SeekW.there {nd : List Nd} {P p : List UInt8} {o : Option Nd} (h : SeekW nd P (some o) p) : SpotIn nd o := by
  cases h with
  | root => trivial
  | way q p y h hp h2 => exact (lookN_some h).1
  | done y h => exact (lookN_some h).1
theorem SeekW.none_is {nd : List Nd} {P p : List UInt8} (h : SeekW nd P none p) : findO nd P = none := by
  cases h with
  | lost h hP => unfold findO; rw [if_neg hP, h]; rfl
theorem SeekW.nil_is {nd : List Nd} {P : List UInt8} {o : Option (Option Nd)} (hw : Wf nd) (h : SeekW nd P o []) : findO nd P = o := by
  cases h with
  | lost h hP => unfold findO; rw [if_neg hP, h]; rfl
  | root => rfl
  | way q p y h hp h2 => exact absurd rfl hp
  | done y h =>
    have hP : P ≠ [] := fun e => by rw [e, lookN_neat hw.ok not_neat_nil] at h; cases h
    unfold findO; rw [if_neg hP, h]; rfl
theorem seek_lift {nd : List Nd} {P p : List UInt8} {o : Option Nd} (hw : Wf nd) (hP : P ≠ []) (h : Seek nd P o p) : SeekW nd P (o.map some) p := by
  cases h with
  | lost h => exact .lost h hP p
  | way q p y h hp h2 => exact .way q p y h hp h2
  | done y h => exact .done y h
theorem SeekW.step {nd : List Nd} {P p : List UInt8} {o : Option Nd} (hw : Wf nd) (h : SeekW nd P (some o) p) (hp : p ≠ []) :
    ((cutP p).2.2 = true ∧ (cutP p).2.1 = [] → findO nd P = none) ∧ (¬ ((cutP p).2.2 = true ∧ (cutP p).2.1 = []) → SeekW nd P ((kidN nd (spotQ o) (cutP p).1).map some) (cutP p).2.1) := by
  have key : ∀ q, (q = [] ∨ ∃ y, lookN nd q = some y) → joinP q p = P → P ≠ [] → q = spotQ o → ((cutP p).2.2 = true ∧ (cutP p).2.1 = [] → findO nd P = none) ∧ (¬ ((cutP p).2.2 = true ∧ (cutP p).2.1 = []) → SeekW nd P ((kidN nd (spotQ o) (cutP p).1).map some) (cutP p).2.1) := by
    intro q hq h2 hP he
    subst he
    obtain ⟨a, b⟩ := seek_step hw hq hp h2
    exact ⟨fun x => by unfold findO; rw [if_neg hP, a x]; rfl, fun x => seek_lift hw hP (b x)⟩
  cases h with
  | root => exact key [] (.inl rfl) rfl hp rfl
  | way q p y h hp h2 =>
    refine key q (.inr ⟨y, h⟩) h2 ?_ (lookN_some h).2.symm
    intro e
    rw [e] at h2
    unfold joinP at h2
    split at h2
    · exact hp h2
    · exact absurd h2 (by simp)
  | done y h => exact absurd rfl hp
theorem TreeAt.spot {w : World} {T rt rm base : Nat} {nd : List Nd} (h : TreeAt w T rt rm base nd) {o : Option Nd} (ho : SpotIn nd o) :
    w.heap[spotB rt o]? = some (nodeObj (spotE o) (spotM rm o)) ∧ KidsAt w (spotM rm o) nd (spotQ o) := by
  cases o with
  | none => exact ⟨h.root, h.rmap⟩
  | some y => exact ⟨h.node y ho, h.nmap y ho⟩
theorem nodP_spot (rt : Nat) (o : Option Nd) : nodP o = spotP rt (o.map some) := by cases o <;> rfl
/-- the cells of a node -/
theorem node_cells {w : World} {b m : Nat} {e : Ent} (h : w.heap[b]? = some (nodeObj e m)) :
    w.cell? ⟨b, 0, none⟩ = some (.string e.p) ∧ w.cell? ⟨b, 1, none⟩ = some (.int .i64 e.k) ∧ w.cell? ⟨b, 2, none⟩ = some (.int .i64 e.m) ∧ w.cell? ⟨b, 3, none⟩ = some (.string e.d) ∧ w.cell? ⟨b, 4, none⟩ = some (.string e.l) ∧ w.cell? ⟨b, 5, none⟩ = some (.map (some m)) := by
  unfold World.cell? nodeObj at *
  simp [h]
end Go.Proofs.YtdkodedocklmdaaGreatDoor
