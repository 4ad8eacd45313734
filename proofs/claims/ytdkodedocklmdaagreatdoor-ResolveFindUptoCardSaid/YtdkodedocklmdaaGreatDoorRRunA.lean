/- Where a walk stands, and what moves it. -/
import Derived.Test.YtdkodedocklmdaaGreatDoorRPiece
set_option linter.unusedSimpArgs false
set_option linter.unusedVariables false
namespace Go.Proofs.YtdkodedocklmdaaGreatDoor
open Go.RowKit Go.Shelf Go.Maps
open Go.Lib hiding intOf size_eq
structure WAt (w wr : World) (base Wk T rt rm tb : Nat) (nd : List Nd) (keep : Bool) (sv : Value) (a : List UInt8) (left : List (List UInt8)) (hops : Nat) (tr : List (List UInt8)) (F : List Nat) (o : Option Addr) (cap : Nat) : Prop where
  blk : wr.heap[Wk]? = some (walkObj T (bs a) (.slice o left.length cap) hops keep sv)
  la : LeftA wr o cap left
  out : OutOf (Wk :: F) o
  wkF : Wk ∉ F
  st : StepAt wr base sv tr F
  wb : base ≤ Wk
  bel : Below base w wr
  lo : base ≤ w.heap.size
  tree : TreeAt wr T rt rm tb nd
  tlo : ∀ b, IsBlk T rt rm nd b → b < base
theorem WAt.size {w wr : World} {base Wk T rt rm tb : Nat} {nd : List Nd} {keep : Bool} {sv : Value} {a : List UInt8} {left : List (List UInt8)} {hops : Nat} {tr : List (List UInt8)} {F : List Nat} {o : Option Addr} {cap : Nat}
    (h : WAt w wr base Wk T rt rm tb nd keep sv a left hops tr F o cap) : base ≤ wr.heap.size := Nat.le_trans h.lo h.bel.size
theorem WAt.told {w wr w4 : World} {base Wk T rt rm tb : Nat} {nd : List Nd} {keep : Bool} {sv : Value} {a : List UInt8} {left : List (List UInt8)} {hops : Nat} {tr tr' : List (List UInt8)} {F F' : List Nat} {o : Option Addr} {cap : Nat}
    (h : WAt w wr base Wk T rt rm tb nd keep sv a left hops tr F o cap) (hb : But F wr w4) (hs : StepAt w4 base sv tr' F') (hf : ∀ k ∈ F', k ∈ F ∨ wr.heap.size ≤ k) : WAt w w4 base Wk T rt rm tb nd keep sv a left hops tr' F' o cap := by
  have hlt := heap_lt h.blk
  refine ⟨(hb.block Wk hlt h.wkF).trans h.blk, h.la.but hb (fun b hb2 hx => h.out b hb2 (List.mem_cons_of_mem _ hx)), fun b hb2 hx => ?_, fun hx => ?_, hs, h.wb, h.bel.trans (hb.to_below h.size h.st.lo), h.lo, h.tree.same (fun b hx => hb.block b (h.tree.lt hx) (fun hF => ?_)), h.tlo⟩
  · rcases List.mem_cons.1 hx with hx | hx
    · exact h.out b hb2 (by rw [hx]; exact List.mem_cons_self ..)
    · rcases hf _ hx with hx | hx
      · exact h.out b hb2 (List.mem_cons_of_mem _ hx)
      · have := h.la.lt b hb2
        omega
  · rcases hf _ hx with hx | hx
    · exact h.wkF hx
    · omega
  · have h1 := h.tlo b hx
    have h2 := h.st.lo b hF
    omega
theorem WAt.but {w wr w4 : World} {base Wk T rt rm tb : Nat} {nd : List Nd} {keep : Bool} {sv : Value} {a a' : List UInt8} {left left' : List (List UInt8)} {hops hops' : Nat} {tr : List (List UInt8)} {F : List Nat} {o o' : Option Addr} {cap cap' : Nat}
    (h : WAt w wr base Wk T rt rm tb nd keep sv a left hops tr F o cap) (hb : But [Wk] wr w4) (hk : w4.heap[Wk]? = some (walkObj T (bs a') (.slice o' left'.length cap') hops' keep sv)) (hl : LeftA w4 o' cap' left') (ho : OutOf (Wk :: F) o') :
    WAt w w4 base Wk T rt rm tb nd keep sv a' left' hops' tr F o' cap' := by
  refine ⟨hk, hl, ho, h.wkF, h.st.but hb (fun k hk2 hx => ?_), h.wb, h.bel.trans (hb.to_below h.size (fun k hk2 => ?_)), h.lo, h.tree.same (fun b hx => hb.block b (h.tree.lt hx) (fun hF => ?_)), h.tlo⟩
  · rw [List.mem_singleton] at hx
    subst hx
    exact h.wkF hk2
  · rw [List.mem_singleton] at hk2
    subst hk2
    exact h.wb
  · rw [List.mem_singleton] at hF
    have h1 := h.tlo b hx
    have h2 := h.wb
    omega
/-- what piece moves -/
theorem WAt.piece {w wr w4 : World} {base Wk T rt rm tb : Nat} {nd : List Nd} {keep : Bool} {sv : Value} {a a' : List UInt8} {left left' : List (List UInt8)} {hops hops' : Nat} {tr : List (List UInt8)} {F : List Nat} {ad : Addr} {o' : Option Addr} {cap cap' : Nat}
    (h : WAt w wr base Wk T rt rm tb nd keep sv a left hops tr F (some ad) cap) (hb : But [Wk] wr w4) (hk : w4.heap[Wk]? = some (walkObj T (bs a') (.slice o' left'.length cap') hops' keep sv)) (hl : LeftA w4 o' cap' left') (ho : o' = some ad ∨ ∀ b, o' = some b → wr.heap.size ≤ b.block) :
    WAt w w4 base Wk T rt rm tb nd keep sv a' left' hops' tr F o' cap' := by
  refine h.but hb hk hl (fun b hb2 hx => ?_)
  rcases ho with ho | ho
  · rw [ho] at hb2
    exact h.out b hb2 hx
  · have h1 := ho b hb2
    rcases List.mem_cons.1 hx with hx | hx
    · have := heap_lt h.blk
      omega
    · have := h.st.lt _ hx
      omega
/-- where left begins behind its first piece -/
def tailO (ad : Addr) (cap : Nat) : Option Addr := if cap = 1 then some ad else some (ad.add 1)
theorem tailO_some (ad : Addr) (cap : Nat) : ∃ b, tailO ad cap = some b ∧ b.block = ad.block := by
  unfold tailO
  split
  · exact ⟨_, rfl, rfl⟩
  · exact ⟨_, rfl, add_block _ _⟩
theorem WAt.tail {w wr : World} {base Wk T rt rm tb : Nat} {nd : List Nd} {keep : Bool} {sv : Value} {a c : List UInt8} {left : List (List UInt8)} {hops : Nat} {tr : List (List UInt8)} {F : List Nat} {ad : Addr} {cap : Nat}
    (h : WAt w wr base Wk T rt rm tb nd keep sv a (c :: left) hops tr F (some ad) cap) :
    WAt w (wr.setCell ⟨Wk, 2, none⟩ (.slice (tailO ad cap) left.length (cap - 1))) base Wk T rt rm tb nd keep sv a left hops tr F (tailO ad cap) (cap - 1) := by
  have hb : But [Wk] wr (wr.setCell ⟨Wk, 2, none⟩ (.slice (tailO ad cap) left.length (cap - 1))) := (But.refl [Wk] wr).setCell (p := ⟨Wk, 2, none⟩) (.inl (List.mem_singleton.2 rfl)) _
  have ho : OutOf (Wk :: F) (tailO ad cap) := fun b hb2 => by
    obtain ⟨b2, e1, e2⟩ := tailO_some ad cap
    rw [e1] at hb2
    injection hb2 with hb2
    subst hb2
    rw [e2]
    exact h.out ad rfl
  have hl : LeftA wr (tailO ad cap) (cap - 1) left := by
    have hle := h.la.le
    simp at hle
    unfold tailO
    by_cases hc : cap = 1
    · rw [if_pos hc]
      obtain rfl : left = [] := List.eq_nil_of_length_eq_zero (by omega)
      exact ⟨by simp, by have := h.la.max; omega, h.la.lt, fun i x hx => by simp at hx⟩
    · rw [if_neg hc]
      exact h.la.tail
  exact h.but hb (walk_setLeft h.blk _) (hl.but hb (fun b hb2 hx => ho b hb2 (by rw [List.mem_singleton.1 hx]; exact List.mem_cons_self ..))) ho
theorem WAt.setAt {w wr : World} {base Wk T rt rm tb : Nat} {nd : List Nd} {keep : Bool} {sv : Value} {a : List UInt8} {left : List (List UInt8)} {hops : Nat} {tr : List (List UInt8)} {F : List Nat} {o : Option Addr} {cap : Nat}
    (h : WAt w wr base Wk T rt rm tb nd keep sv a left hops tr F o cap) (b : List UInt8) :
    WAt w (wr.setCell ⟨Wk, 1, none⟩ (.string (bs b))) base Wk T rt rm tb nd keep sv b left hops tr F o cap := by
  have hb : But [Wk] wr (wr.setCell ⟨Wk, 1, none⟩ (.string (bs b))) := (But.refl [Wk] wr).setCell (p := ⟨Wk, 1, none⟩) (.inl (List.mem_singleton.2 rfl)) _
  exact h.but hb (walk_setAt h.blk _) (h.la.but hb (fun b hb2 hx => h.out b hb2 (by rw [List.mem_singleton.1 hx]; exact List.mem_cons_self ..))) h.out
/-- what is left to go -/
def walkMeas (Wk : Nat) (w : World) : Nat := match w.cell? ⟨Wk, 2, none⟩, w.cell? ⟨Wk, 3, none⟩ with
  | some (.slice _ n _), some (.int _ h) => needF n h.toNat
  | _, _ => 0
theorem walkMeas_eq {w : World} {Wk T : Nat} {a : ByteArray} {o : Option Addr} {n cap : Nat} {hops : Nat} {keep : Bool} {sv : Value} (h : w.heap[Wk]? = some (walkObj T a (.slice o n cap) hops keep sv)) : walkMeas Wk w = needF n hops := by
  obtain ⟨_, _, c2, c3, _⟩ := walk_cells h
  unfold walkMeas
  rw [c2, c3]
  simp
theorem needF_ge (n hops : Nat) : n + 1 ≤ needF n hops := by unfold needF; omega
/-- the relation of run's loop -/
def RunI (w : World) (base Wk T rt rm tb : Nat) (nd : List Nd) (keep : Bool) (sv : Value) (R : Except Nat (List UInt8 × List (List UInt8))) (wr : World) : Prop :=
  ∃ a left hops tr F o cap, WAt w wr base Wk T rt rm tb nd keep sv a left hops tr F o cap ∧ a.length ≤ 255 ∧ (∀ c ∈ left, c.length ≤ 1099511627776) ∧ hops ≤ 40 ∧ tr.length + needF left.length hops ≤ 1099511627776 ∧ runF (ents nd) keep (needF left.length hops) a left hops tr = R
/-- what run answers -/
def RunR (w : World) (base : Nat) (sv : Value) (R : Except Nat (List UInt8 × List (List UInt8))) (r : Ending) (w' : World) : Prop :=
  Below base w w' ∧ match R with
    | .error n => r = .returned (.tuple #[.string ⟨#[]⟩, errV n])
    | .ok (p, t) => r = .returned (.tuple #[.string (bs p), .nilIface]) ∧ ∃ F, StepAt w' base sv t F
theorem parent_length (a : List UInt8) : (parent a).length ≤ a.length := by unfold parent; simp; omega
theorem joinP_length (a c : List UInt8) : (joinP a c).length ≤ a.length + 1 + c.length := by
  unfold joinP
  split <;> simp <;> omega
theorem pieceF_err {L : List Ent} {keep : Bool} {a q : List UInt8} {left : List (List UInt8)} {hops n : Nat} (h : pieceF L keep a q left hops = .error n) : n ≠ 0 := by
  unfold pieceF at h
  cases hq : lookE L q with
  | none => rw [hq] at h; injection h with h; omega
  | some e =>
    rw [hq] at h
    simp only [] at h
    split at h
    · cases h
    split at h
    · split at h
      · injection h with h; omega
      · cases h
    split at h
    · cases h
    split at h
    · injection h with h; omega
    · cases h
end Go.Proofs.YtdkodedocklmdaaGreatDoor
