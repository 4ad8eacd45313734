/- An argument of steps on trees. -/
import Derived.Test.YtdkodedocklmdaaGreatDoorRRow
import Derived.Test.YtdkodedocklmdaaGreatDoorVList
set_option linter.unusedVariables false
namespace Go.Proofs.YtdkodedocklmdaaGreatDoor
open Go.ChangeShapes Go.WideShapes Go.ChangeAt Go.RowKit
instance : Inhabited Stp := ⟨⟨0, 0, default, ByteArray.empty, 0⟩⟩
def stpD {H : Type} (s : Stp) : DataW H := .agg [.lit (.int .i64 s.d), .lit (.int .i64 s.who), entD s.e, .lit (.string s.p.data.toList), .lit (.int .i64 s.n)]
theorem Tryz.cellsStep : Tryz.prog.cellsOf 40 = 9 := by kernel_rfl
section
variable {H : Type} {enc : TypeId × Value → H} {W : World} {base : Nat} {sp : Nat → Bool} {held : Bool} {fuel : Nat}
set_option maxRecDepth 100000 in
/-- a step that is read -/
theorem open_step {cs : List Value} {x : DataW H × List MemPlace} (h : DataW.trod enc Tryz.prog W base sp held fuel 40 cs = some x) : ∃ s : Stp, cs = stpC s ∧ x = (stpD s, []) := by
  obtain ⟨xs, n, rfl, rfl, hlen, hxl, hf⟩ := DataW.trod_struct Tryz.underlying40 h
  have h0 : DataW.trod enc Tryz.prog W base sp held n 3 ((cs.drop 0).take (Tryz.prog.cellsOf 3)) = xs[0]? := hf 0 _ rfl
  have h1 : DataW.trod enc Tryz.prog W base sp held n 3 ((cs.drop 1).take (Tryz.prog.cellsOf 3)) = xs[1]? := hf 1 _ rfl
  have h2 : DataW.trod enc Tryz.prog W base sp held n 38 ((cs.drop 2).take (Tryz.prog.cellsOf 38)) = xs[2]? := hf 2 _ rfl
  have h3 : DataW.trod enc Tryz.prog W base sp held n 9 ((cs.drop 7).take (Tryz.prog.cellsOf 9)) = xs[3]? := hf 3 _ rfl
  have h4 : DataW.trod enc Tryz.prog W base sp held n 3 ((cs.drop 8).take (Tryz.prog.cellsOf 3)) = xs[4]? := hf 4 _ rfl
  rw [Tryz.cellsStep] at hlen
  rw [Tryz.cellsStr] at h3
  rw [Tryz.cellsEntry] at h2
  rw [Tryz.cellsInt] at h0 h1 h4
  match cs, hlen, xs, hxl, h0, h1, h2, h3, h4 with
  | [c0, c1, c2, c3, c4, c5, c6, c7, c8], _, [x0, x1, x2, x3, x4], _, h0, h1, h2, h3, h4 =>
    obtain ⟨s0, e0, d0, _⟩ := DataW.trod_int (x := x0) Tryz.underlying3 h0
    obtain ⟨s1, e1, d1, _⟩ := DataW.trod_int (x := x1) Tryz.underlying3 h1
    obtain ⟨s2, e2, d2⟩ := open_entry (x := x2) h2
    obtain ⟨s3, e3, d3, _⟩ := DataW.trod_string (x := x3) Tryz.underlying9 h3
    obtain ⟨s4, e4, d4, _⟩ := DataW.trod_int (x := x4) Tryz.underlying3 h4
    refine ⟨⟨s0, s1, s2, s3, s4⟩, ?_, ?_⟩
    · injection (show [c0] = [_] from e0) with e0
      injection (show [c1] = [_] from e1) with e1
      injection (show [c7] = [_] from e3) with e3
      injection (show [c8] = [_] from e4) with e4
      injection (show [c2, c3, c4, c5, c6] = entC s2 from e2) with f0 f1
      injection f1 with f1 f2
      injection f2 with f2 f3
      injection f3 with f3 f4
      injection f4 with f4 f5
      rw [e0, e1, e3, e4, f0, f1, f2, f3, f4]
      rfl
    · rw [d0, d1, d2, d3, d4]
      rfl
end
set_option maxRecDepth 100000 in
/-- an argument of steps: what it holds; its places -/
theorem open_steps {H : Type} {enc : TypeId × Value → H} {W : World} {base : Nat} {v : Value} {d : DataW H} {p : List MemPlace} (hok : Value.okWide Tryz.prog W .any base 33 v)
    (h : DataW.Trod enc Tryz.prog W 0 (fun _ => true) true 33 v d p) (hk : Rows.uptoBulk d ≤ 1048576) :
    ∃ L : List Stp, StepsAt W v L ∧ (∀ x ∈ L, x.e.p.size ≤ 1048576 ∧ x.e.d.size ≤ 1048576 ∧ x.e.l.size ≤ 1048576 ∧ x.p.size ≤ 1048576) ∧ L.length ≤ 1048576 ∧ ∀ x ∈ p, x.block < W.heap.size := by
  obtain ⟨a0, len, cap, rfl⟩ := okWide_slice Tryz.underlying33 hok
  obtain ⟨fuel, hf⟩ := h
  rcases Deep.open_slice Tryz.underlying33 hf with ⟨hc, hx⟩ | ⟨a, len', cap', m, n, D, Pl, hc, _, hl, hm, hmm, hx, hel⟩
  · injection hc with hc
    injection hc with h1 h2 h3
    subst h1; subst h2; subst h3
    injection hx with hx1 hx2
    subst hx2
    exact ⟨[], ⟨none, 0, rfl, Nat.le_refl _, by simp, fun i e he => by simp at he⟩, fun e he => by (cases he), Nat.zero_le _, fun x hx => by cases hx⟩
  · injection hc with hc
    injection hc with h1 h2 h3
    subst h1; subst h2; subst h3
    injection hx with hx1 hx2
    subst hx1
    rw [if_pos rfl] at hmm
    subst hmm
    rw [Tryz.cellsStep] at hel hx2
    obtain ⟨E, hE⟩ := Deep.choose_lt (α := Stp) (p := fun i e => W.cells? 0 (a.add (i * 9)) 9 = some (stpC e) ∧ (D i, Pl i) = (stpD e, [])) (fun i hi => by
      obtain ⟨cs', h1, h2⟩ := hel i hi
      obtain ⟨e, rfl, he⟩ := open_step h2
      exact ⟨e, h1, he⟩)
    have hD : ∀ i, i < m → D i = stpD (E i) := fun i hi => congrArg Prod.fst (hE i hi).2
    have hPl : ∀ i, i < m → Pl i = [] := fun i hi => congrArg Prod.snd (hE i hi).2
    have hlt : ∀ i, i < m → a.block < W.heap.size := fun i hi => by
      have := row_lt (hE i hi).1 (by omega)
      rwa [add_block] at this
    simp only [Rows.uptoBulk] at hk
    have hbl := bulk_len ((List.range len).map D)
    simp at hbl
    refine ⟨(List.range len).map E, ⟨some a, m, by simp, by simpa using hl, hm, fun i e he => ?_⟩, fun e he => ?_, by simp; omega, fun x hx => ?_⟩
    · rw [List.getElem?_map] at he
      obtain ⟨j, hj, rfl⟩ := Option.map_eq_some_iff.1 he
      obtain ⟨hj1, hj2⟩ := List.getElem?_eq_some_iff.1 hj
      simp at hj1 hj2
      subst hj2
      refine ⟨a, rfl, hlt i (by omega), fun j x hx => ?_⟩
      obtain ⟨_, _, hcc⟩ := World.cells?_some (hE i (by omega)).1
      have hj9 : j < 9 := by simpa [stpC] using (List.getElem?_eq_some_iff.1 hx).1
      rw [hcc j hj9]
      exact hx
    · obtain ⟨i, hi, rfl⟩ := List.mem_map.1 he
      have hi' : i < len := by simpa using hi
      have h1 := bulk_part (d := D i) (l := (List.range len).map D) (List.mem_map.2 ⟨i, hi, rfl⟩)
      rw [hD i (by omega)] at h1
      have h2 : (E i).e.p.size + 1 + (1 + (1 + ((E i).e.d.size + 1 + ((E i).e.l.size + 1)))) + 1 + (E i).p.size ≤ Rows.uptoBulk (stpD (H := H) (E i)) := by
        simp [stpD, entD, Rows.uptoBulk, Rows.uptoBulkAll]
        omega
      omega
    · subst hx2
      rcases List.mem_append.1 hx with hx | hx
      · unfold MemPlace.row at hx
        obtain ⟨i, hi, rfl⟩ := List.mem_map.1 hx
        have hi' : i < m * 9 := by simpa using hi
        exact hlt 0 (by omega)
      · obtain ⟨i, hi, hx⟩ := List.mem_flatMap.1 hx
        rw [hPl i (by simpa using hi)] at hx
        cases hx
theorem recSteps : Tryz.prog.readableRec 33 = true := by kernel_rfl
theorem rowSteps : (33 : TypeId) < Tryz.prog.types.size := of_decide_eq_true (by kernel_rfl)
set_option maxRecDepth 100000 in
/-- steps are read again as they were -/
theorem steps_again {H : Type} {enc : TypeId × Value → H} {W W' : World} {v : Value} {d : DataW H} {p : List MemPlace} (h : DataW.Trod enc Tryz.prog W 0 (fun _ => true) true 33 v d p) (hb : Below W.heap.size W W') (hp : ∀ x ∈ p, x.block < W.heap.size) :
    DataW.Trod enc Tryz.prog W' 0 (fun b => decide (b < W.heap.size)) true 33 v d p :=
  WideElems.Trod_stays laidOut recSteps rowSteps h (fun x hx => sameAt_below hb (hp x hx)) (fun x hx => decide_eq_true (hp x hx))
end Go.Proofs.YtdkodedocklmdaaGreatDoor
