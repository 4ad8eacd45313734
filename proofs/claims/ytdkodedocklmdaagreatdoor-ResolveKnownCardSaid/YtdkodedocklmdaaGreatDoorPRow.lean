/- An argument of calls (resolve's Act). -/
import Derived.Test.YtdkodedocklmdaaGreatDoorRRow
set_option linter.unusedVariables false
namespace Go.Proofs.YtdkodedocklmdaaGreatDoor
open Go.ChangeShapes Go.WideShapes Go.ChangeAt Go.RowKit
/-- a call: its sort, its way -/
structure Axn where
  k : Int
  s : ByteArray
def axC (a : Axn) : List Value := [.int .i64 a.k, .string a.s]
def ActsAt (w : World) (v : Value) (L : List Axn) : Prop := ∃ o cap, v = .slice o L.length cap ∧ L.length ≤ cap ∧ cap ≤ maxLen ∧ ∀ (i : Nat) e, L[i]? = some e → ∃ a, o = some a ∧ a.block < w.heap.size ∧ ∀ j x, (axC e)[j]? = some x → w.cell? ((a.add (i * 2)).add j) = some x
instance : Inhabited Axn := ⟨⟨0, ByteArray.empty⟩⟩
def axD {H : Type} (s : Axn) : DataW H := .agg [.lit (.int .i64 s.k), .lit (.string s.s.data.toList)]
theorem Tryz.cellsAct : Tryz.prog.cellsOf 83 = 2 := by kernel_rfl
section
variable {H : Type} {enc : TypeId × Value → H} {W : World} {base : Nat} {sp : Nat → Bool} {held : Bool} {fuel : Nat}
set_option maxRecDepth 100000 in
/-- a call that is read -/
theorem open_act {cs : List Value} {x : DataW H × List MemPlace} (h : DataW.trod enc Tryz.prog W base sp held fuel 83 cs = some x) : ∃ s : Axn, cs = axC s ∧ x = (axD s, []) := by
  obtain ⟨xs, n, rfl, rfl, hlen, hxl, hf⟩ := DataW.trod_struct Tryz.underlying83 h
  have h0 : DataW.trod enc Tryz.prog W base sp held n 3 ((cs.drop 0).take (Tryz.prog.cellsOf 3)) = xs[0]? := hf 0 _ rfl
  have h1 : DataW.trod enc Tryz.prog W base sp held n 9 ((cs.drop 1).take (Tryz.prog.cellsOf 9)) = xs[1]? := hf 1 _ rfl
  rw [Tryz.cellsAct] at hlen
  rw [Tryz.cellsStr] at h1
  rw [Tryz.cellsInt] at h0
  match cs, hlen, xs, hxl, h0, h1 with
  | [c0, c1], _, [x0, x1], _, h0, h1 =>
    obtain ⟨s0, e0, d0, _⟩ := DataW.trod_int (x := x0) Tryz.underlying3 h0
    obtain ⟨s1, e1, d1, _⟩ := DataW.trod_string (x := x1) Tryz.underlying9 h1
    refine ⟨⟨s0, s1⟩, ?_, ?_⟩
    · injection (show [c0] = [_] from e0) with e0
      injection (show [c1] = [_] from e1) with e1
      rw [e0, e1]
      rfl
    · rw [d0, d1]
      rfl
end
set_option maxRecDepth 100000 in
/-- an argument of acts: what it holds; its places -/
theorem open_acts {H : Type} {enc : TypeId × Value → H} {W : World} {base : Nat} {v : Value} {d : DataW H} {p : List MemPlace} (hok : Value.okWide Tryz.prog W .any base 78 v)
    (h : DataW.Trod enc Tryz.prog W 0 (fun _ => true) true 78 v d p) (hk : Rows.uptoBulk d ≤ 1048576) :
    ∃ L : List Axn, ActsAt W v L ∧ (∀ x ∈ L, x.s.size ≤ 1048576) ∧ L.length ≤ 1048576 ∧ ∀ x ∈ p, x.block < W.heap.size := by
  obtain ⟨a0, len, cap, rfl⟩ := okWide_slice Tryz.underlying78 hok
  obtain ⟨fuel, hf⟩ := h
  rcases Deep.open_slice Tryz.underlying78 hf with ⟨hc, hx⟩ | ⟨a, len', cap', m, n, D, Pl, hc, _, hl, hm, hmm, hx, hel⟩
  · injection hc with hc
    injection hc with h1 h2 h3
    subst h1; subst h2; subst h3
    injection hx with hx1 hx2
    subst hx2
    exact ⟨[], ⟨none, 0, rfl, Nat.le_refl _, by simp, fun i e he => by simp at he⟩, fun e he => by (cases he), Nat.zero_le _, fun x hx => by cases hx⟩
  · injection hc with hc
    injection hc with h1 h2 h3
    subst h1; subst h2; subst h3
    injection hx with hx1 hx2
    subst hx1
    rw [if_pos rfl] at hmm
    subst hmm
    rw [Tryz.cellsAct] at hel hx2
    obtain ⟨E, hE⟩ := Deep.choose_lt (α := Axn) (p := fun i e => W.cells? 0 (a.add (i * 2)) 2 = some (axC e) ∧ (D i, Pl i) = (axD e, [])) (fun i hi => by
      obtain ⟨cs', h1, h2⟩ := hel i hi
      obtain ⟨e, rfl, he⟩ := open_act h2
      exact ⟨e, h1, he⟩)
    have hD : ∀ i, i < m → D i = axD (E i) := fun i hi => congrArg Prod.fst (hE i hi).2
    have hPl : ∀ i, i < m → Pl i = [] := fun i hi => congrArg Prod.snd (hE i hi).2
    have hlt : ∀ i, i < m → a.block < W.heap.size := fun i hi => by
      have := row_lt (hE i hi).1 (by omega)
      rwa [add_block] at this
    simp only [Rows.uptoBulk] at hk
    have hbl := bulk_len ((List.range len).map D)
    simp at hbl
    refine ⟨(List.range len).map E, ⟨some a, m, by simp, by simpa using hl, hm, fun i e he => ?_⟩, fun e he => ?_, by simp; omega, fun x hx => ?_⟩
    · rw [List.getElem?_map] at he
      obtain ⟨j, hj, rfl⟩ := Option.map_eq_some_iff.1 he
      obtain ⟨hj1, hj2⟩ := List.getElem?_eq_some_iff.1 hj
      simp at hj1 hj2
      subst hj2
      refine ⟨a, rfl, hlt i (by omega), fun j x hx => ?_⟩
      obtain ⟨_, _, hcc⟩ := World.cells?_some (hE i (by omega)).1
      have hj9 : j < 2 := by simpa [axC] using (List.getElem?_eq_some_iff.1 hx).1
      rw [hcc j hj9]
      exact hx
    · obtain ⟨i, hi, rfl⟩ := List.mem_map.1 he
      have hi' : i < len := by simpa using hi
      have h1 := bulk_part (d := D i) (l := (List.range len).map D) (List.mem_map.2 ⟨i, hi, rfl⟩)
      rw [hD i (by omega)] at h1
      have h2 : (E i).s.size ≤ Rows.uptoBulk (axD (H := H) (E i)) := by
        simp [axD, Rows.uptoBulk, Rows.uptoBulkAll]
        omega
      omega
    · subst hx2
      rcases List.mem_append.1 hx with hx | hx
      · unfold MemPlace.row at hx
        obtain ⟨i, hi, rfl⟩ := List.mem_map.1 hx
        have hi' : i < m * 2 := by simpa using hi
        exact hlt 0 (by omega)
      · obtain ⟨i, hi, hx⟩ := List.mem_flatMap.1 hx
        rw [hPl i (by simpa using hi)] at hx
        cases hx
theorem recActs : Tryz.prog.readableRec 78 = true := by kernel_rfl
theorem rowActs : (78 : TypeId) < Tryz.prog.types.size := of_decide_eq_true (by kernel_rfl)
set_option maxRecDepth 100000 in
/-- acts are read again as they were -/
theorem acts_again {H : Type} {enc : TypeId × Value → H} {W W' : World} {v : Value} {d : DataW H} {p : List MemPlace} (h : DataW.Trod enc Tryz.prog W 0 (fun _ => true) true 78 v d p) (hb : Below W.heap.size W W') (hp : ∀ x ∈ p, x.block < W.heap.size) :
    DataW.Trod enc Tryz.prog W' 0 (fun b => decide (b < W.heap.size)) true 78 v d p :=
  WideElems.Trod_stays laidOut recActs rowActs h (fun x hx => sameAt_below hb (hp x hx)) (fun x hx => decide_eq_true (hp x hx))
end Go.Proofs.YtdkodedocklmdaaGreatDoor
