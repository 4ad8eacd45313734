/- An argument []api.Change: what it holds; it is read again as it was. -/
import Derived.Test.YtipfccfjniglbaaGreatDoorRRow
import Derived.Test.YtipfccfjniglbaaGreatDoorJDiff
set_option linter.unusedVariables false
namespace Go.Proofs.YtipfccfjniglbaaGreatDoor
open Go.ChangeShapes Go.WideShapes Go.ChangeAt Go.RowKit
instance : Inhabited Chg := ⟨⟨ByteArray.empty, false, default⟩⟩
def chgD {H : Type} (c : Chg) : DataW H := .agg [.lit (.string c.p.data.toList), .lit (.bool c.g), entD c.e]
theorem Tryz.cellsBool : Tryz.prog.cellsOf 4 = 1 := by kernel_rfl
theorem Tryz.cellsChange : Tryz.prog.cellsOf 54 = 7 := by kernel_rfl
section
variable {H : Type} {enc : TypeId × Value → H} {W : World} {base : Nat} {sp : Nat → Bool} {held : Bool} {fuel : Nat}
set_option maxRecDepth 100000 in
/-- a change that is read -/
theorem open_change {cs : List Value} {x : DataW H × List MemPlace} (h : DataW.trod enc Tryz.prog W base sp held fuel 54 cs = some x) : ∃ c : Chg, cs = chgC c ∧ x = (chgD c, []) := by
  obtain ⟨xs, n, rfl, rfl, hlen, hxl, hf⟩ := DataW.trod_struct Tryz.underlying54 h
  have h0 : DataW.trod enc Tryz.prog W base sp held n 9 ((cs.drop 0).take (Tryz.prog.cellsOf 9)) = xs[0]? := hf 0 _ rfl
  have h1 : DataW.trod enc Tryz.prog W base sp held n 4 ((cs.drop 1).take (Tryz.prog.cellsOf 4)) = xs[1]? := hf 1 _ rfl
  have h2 : DataW.trod enc Tryz.prog W base sp held n 52 ((cs.drop 2).take (Tryz.prog.cellsOf 52)) = xs[2]? := hf 2 _ rfl
  rw [Tryz.cellsChange] at hlen
  rw [Tryz.cellsStr] at h0
  rw [Tryz.cellsBool] at h1
  rw [Tryz.cellsEntry] at h2
  match cs, hlen, xs, hxl, h0, h1, h2 with
  | [c0, c1, c2, c3, c4, c5, c6], _, [x0, x1, x2], _, h0, h1, h2 =>
    obtain ⟨s0, e0, d0, _⟩ := DataW.trod_string (x := x0) Tryz.underlying9 h0
    obtain ⟨s1, e1, d1⟩ := DataW.trod_bool (x := x1) Tryz.underlying4 h1
    obtain ⟨e, e2, d2⟩ := open_entry (x := x2) h2
    refine ⟨⟨s0, s1, e⟩, ?_, ?_⟩
    · injection (show [c0] = [_] from e0) with e0
      injection (show [c1] = [_] from e1) with e1
      injection (show [c2, c3, c4, c5, c6] = [.string e.p, .int .i64 e.k, .int .i64 e.m, .string e.d, .string e.l] from e2) with f0 f1
      injection f1 with f1 f2
      injection f2 with f2 f3
      injection f3 with f3 f4
      injection f4 with f4 f5
      rw [e0, e1, f0, f1, f2, f3, f4]
      rfl
    · rw [d0, d1, d2]
      rfl
end
set_option maxRecDepth 100000 in
/-- an argument of changes: what it holds; its places -/
theorem open_chgs {H : Type} {enc : TypeId × Value → H} {W : World} {base : Nat} {v : Value} {d : DataW H} {p : List MemPlace} (hok : Value.okWide Tryz.prog W .any base 23 v)
    (h : DataW.Trod enc Tryz.prog W 0 (fun _ => true) true 23 v d p) (hk : Rows.uptoBulk d ≤ 1048576) :
    ∃ L : List Chg, ChgsAt W v L ∧ (∀ c ∈ L, c.p.size ≤ 1048576 ∧ c.e.p.size ≤ 1048576 ∧ c.e.d.size ≤ 1048576 ∧ c.e.l.size ≤ 1048576) ∧ L.length ≤ 1048576 ∧ ∀ x ∈ p, x.block < W.heap.size := by
  obtain ⟨a0, len, cap, rfl⟩ := okWide_slice Tryz.underlying23 hok
  obtain ⟨fuel, hf⟩ := h
  rcases Deep.open_slice Tryz.underlying23 hf with ⟨hc, hx⟩ | ⟨a, len', cap', m, n, D, Pl, hc, _, hl, hm, hmm, hx, hel⟩
  · injection hc with hc
    injection hc with h1 h2 h3
    subst h1; subst h2; subst h3
    injection hx with hx1 hx2
    subst hx2
    exact ⟨[], ItemsAt.nil W, fun e he => by (cases he), Nat.zero_le _, fun x hx => by cases hx⟩
  · injection hc with hc
    injection hc with h1 h2 h3
    subst h1; subst h2; subst h3
    injection hx with hx1 hx2
    subst hx1
    rw [if_pos rfl] at hmm
    subst hmm
    rw [Tryz.cellsChange] at hel hx2
    obtain ⟨E, hE⟩ := Deep.choose_lt (α := Chg) (p := fun i e => W.cells? 0 (a.add (i * 7)) 7 = some (chgC e) ∧ (D i, Pl i) = (chgD e, [])) (fun i hi => by
      obtain ⟨cs', h1, h2⟩ := hel i hi
      obtain ⟨e, rfl, he⟩ := open_change h2
      exact ⟨e, h1, he⟩)
    have hD : ∀ i, i < m → D i = chgD (E i) := fun i hi => congrArg Prod.fst (hE i hi).2
    have hPl : ∀ i, i < m → Pl i = [] := fun i hi => congrArg Prod.snd (hE i hi).2
    have hlt : ∀ i, i < m → a.block < W.heap.size := fun i hi => by
      have := row_lt (hE i hi).1 (by omega)
      rwa [gadd_block] at this
    simp only [Rows.uptoBulk] at hk
    have hbl := bulk_len ((List.range len).map D)
    simp at hbl
    refine ⟨(List.range len).map E, ⟨some a, m, by simp, by simpa using hl, hm, fun i e he => ?_⟩, fun e he => ?_, by simp; omega, fun x hx => ?_⟩
    · rw [List.getElem?_map] at he
      obtain ⟨j, hj, rfl⟩ := Option.map_eq_some_iff.1 he
      obtain ⟨hj1, hj2⟩ := List.getElem?_eq_some_iff.1 hj
      simp at hj1 hj2
      subst hj2
      refine ⟨a, rfl, hlt i (by omega), fun j x hx => ?_⟩
      obtain ⟨_, _, hcc⟩ := World.cells?_some (hE i (by omega)).1
      have hj7 : j < 7 := by simpa [chgC] using (List.getElem?_eq_some_iff.1 hx).1
      rw [hcc j hj7]
      exact hx
    · obtain ⟨i, hi, rfl⟩ := List.mem_map.1 he
      have hi' : i < len := by simpa using hi
      have h1 := bulk_part (d := D i) (l := (List.range len).map D) (List.mem_map.2 ⟨i, hi, rfl⟩)
      rw [hD i (by omega)] at h1
      have h2 : Rows.uptoBulk (chgD (H := H) (E i)) = (E i).p.size + 1 + (1 + ((E i).e.p.size + 1 + (1 + (1 + ((E i).e.d.size + 1 + ((E i).e.l.size + 1)))) + 1)) + 1 := by
        simp [chgD, entD, Rows.uptoBulk, Rows.uptoBulkAll]
      omega
    · subst hx2
      rcases List.mem_append.1 hx with hx | hx
      · unfold MemPlace.row at hx
        obtain ⟨i, hi, rfl⟩ := List.mem_map.1 hx
        have hi' : i < m * 7 := by simpa using hi
        exact hlt 0 (by omega)
      · obtain ⟨i, hi, hx⟩ := List.mem_flatMap.1 hx
        rw [hPl i (by simpa using hi)] at hx
        cases hx
theorem recChgs : Tryz.prog.readableRec 23 = true := by kernel_rfl
theorem rowChgs : (23 : TypeId) < Tryz.prog.types.size := of_decide_eq_true (by kernel_rfl)
set_option maxRecDepth 100000 in
/-- changes are read again as they were -/
theorem chgs_again {H : Type} {enc : TypeId × Value → H} {W W' : World} {v : Value} {d : DataW H} {p : List MemPlace} (h : DataW.Trod enc Tryz.prog W 0 (fun _ => true) true 23 v d p) (hb : Below W.heap.size W W') (hp : ∀ x ∈ p, x.block < W.heap.size) :
    DataW.Trod enc Tryz.prog W' 0 (fun b => decide (b < W.heap.size)) true 23 v d p :=
  WideElems.Trod_stays laidOut recChgs rowChgs h (fun x hx => sameAt_below hb (hp x hx)) (fun x hx => decide_eq_true (hp x hx))
end Go.Proofs.YtipfccfjniglbaaGreatDoor
