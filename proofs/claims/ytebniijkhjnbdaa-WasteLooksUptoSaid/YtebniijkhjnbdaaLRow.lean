/- What the rows of this seat have in common: a world, the bound of bulk, an argument of lists of changes. -/
import Derived.Test.YtebniijkhjnbdaaLWorks
import Derived.Test.YtebniijkhjnbdaaRows
import Derived.WalkKit
import Derived.ProofKit
import Derived.OpenShut
import Derived.ShutString
import Derived.ChangeSame
import Derived.ChangeMaps5
import Derived.Below
import Derived.LaidLaws
import Derived.LaidHandle
import Derived.Deep.DeepHandedRow
import Derived.Deep.Slices
import Derived.WideKeyArgs
set_option linter.unusedVariables false
namespace Go.Proofs.Ytebniijkhjnbdaa
open Go.ChangeShapes Go.WideShapes Go.ChangeAt Go.RowKit

theorem ownOf : ownKnob Try.prog.godebug = none := by kernel_rfl
theorem laidSize : Try.prog.types.size = 122 := by kernel_rfl

/-- a world that meets the (empty) list -/
noncomputable def laidWorld (os : Os) : World := World.holding Try.prog os ⟨#[], #[], []⟩
theorem lt_of_cell {W : World} {a : Addr} {v : Value} (h : W.cell? a = some v) : a.block < W.heap.size := by
  by_cases hlt : a.block < W.heap.size
  · exact hlt
  · exfalso
    have e : W.heap[a.block]? = none := Array.getElem?_eq_none (by omega)
    simp [World.cell?, e] at h

theorem bulk_part {H : Type} {d : DataW H} {l : List (DataW H)} (h : d ∈ l) : Rows.uptoBulk d ≤ Rows.uptoBulkAll l := by
  induction l with
  | nil => cases h
  | cons x r ih =>
    simp only [Rows.uptoBulkAll]
    cases List.mem_cons.1 h with
    | inl e => subst e; omega
    | inr e => have := ih e; omega
theorem bulk_string {H : Type} {s : ByteArray} {l : List (DataW H)} (h : DataW.lit (H := H) (.string s.data.toList) ∈ l) (hk : Rows.uptoSmall H l = true) : s.size ≤ 1048576 := by
  have h1 := bulk_part h
  have h2 : Rows.uptoBulkAll l ≤ 1048576 := by simpa [Rows.uptoSmall] using hk
  have h3 : Rows.uptoBulk (DataW.lit (H := H) (.string s.data.toList)) = s.size + 1 := by simp [Rows.uptoBulk]
  omega

theorem Try.cellsStr : Try.prog.cellsOf 9 = 1 := by kernel_rfl
theorem Try.cellsKind : Try.prog.cellsOf 39 = 1 := by kernel_rfl
theorem Try.cellsInt : Try.prog.cellsOf 3 = 1 := by kernel_rfl
theorem bulk_one {H : Type} (d : DataW H) : 1 ≤ Rows.uptoBulk d := by
  cases d with
  | lit l => cases l <;> simp [Rows.uptoBulk]
  | _ => simp [Rows.uptoBulk]
theorem bulk_len {H : Type} : ∀ (l : List (DataW H)), l.length ≤ Rows.uptoBulkAll l
  | [] => by simp [Rows.uptoBulkAll]
  | d :: r => by
    have h1 := bulk_one d
    have h2 := bulk_len r
    simp only [Rows.uptoBulkAll, List.length_cons]
    omega
theorem row_lt {W : World} {base : Nat} {a : Addr} {n : Nat} {cs : List Value} (h : W.cells? base a n = some cs) (hn : 0 < n) : a.block < W.heap.size := by
  obtain ⟨_, hl, hc⟩ := World.cells?_some h
  have h0 := hc 0 hn
  rw [List.getElem?_eq_getElem (by omega)] at h0
  have := lt_of_cell h0
  rwa [show (a.add 0).block = a.block from gadd_block a 0] at this
instance : Inhabited Chg := ⟨⟨ByteArray.empty, false, ByteArray.empty, 0, 0, ByteArray.empty, ByteArray.empty⟩⟩
def chgD {H : Type} (c : Chg) : DataW H := .agg [.lit (.string c.p.data.toList), .lit (.bool c.g), .agg [.lit (.string c.ep.data.toList), .lit (.int .i64 c.k), .lit (.int .i64 c.m), .lit (.string c.d.data.toList), .lit (.string c.l.data.toList)]]
theorem Try.cellsBool : Try.prog.cellsOf 4 = 1 := by kernel_rfl
theorem Try.cellsEntry : Try.prog.cellsOf 41 = 5 := by kernel_rfl
theorem Try.cellsChange : Try.prog.cellsOf 43 = 7 := by kernel_rfl
theorem Try.cellsChanges : Try.prog.cellsOf 38 = 1 := by kernel_rfl
section
variable {H : Type} {enc : TypeId × Value → H} {W : World} {base : Nat} {sp : Nat → Bool} {held : Bool} {fuel : Nat}
set_option maxRecDepth 100000 in
/-- an entry that is read -/
theorem open_entry7 {cs : List Value} {x : DataW H × List MemPlace} (h : DataW.trod enc Try.prog W base sp held fuel 41 cs = some x) : ∃ (s0 s3 s4 : ByteArray) (s1 s2 : Int), cs = [.string s0, .int .i64 s1, .int .i64 s2, .string s3, .string s4] ∧ x = (.agg [.lit (.string s0.data.toList), .lit (.int .i64 s1), .lit (.int .i64 s2), .lit (.string s3.data.toList), .lit (.string s4.data.toList)], []) := by
  obtain ⟨xs, n, rfl, rfl, hlen, hxl, hf⟩ := DataW.trod_struct Try.underlying41 h
  have h0 : DataW.trod enc Try.prog W base sp held n 9 ((cs.drop 0).take (Try.prog.cellsOf 9)) = xs[0]? := hf 0 _ rfl
  have h1 : DataW.trod enc Try.prog W base sp held n 39 ((cs.drop 1).take (Try.prog.cellsOf 39)) = xs[1]? := hf 1 _ rfl
  have h2 : DataW.trod enc Try.prog W base sp held n 3 ((cs.drop 2).take (Try.prog.cellsOf 3)) = xs[2]? := hf 2 _ rfl
  have h3 : DataW.trod enc Try.prog W base sp held n 9 ((cs.drop 3).take (Try.prog.cellsOf 9)) = xs[3]? := hf 3 _ rfl
  have h4 : DataW.trod enc Try.prog W base sp held n 9 ((cs.drop 4).take (Try.prog.cellsOf 9)) = xs[4]? := hf 4 _ rfl
  rw [Try.cellsEntry] at hlen
  rw [Try.cellsStr] at h0 h3 h4
  rw [Try.cellsKind] at h1
  rw [Try.cellsInt] at h2
  match cs, hlen, xs, hxl, h0, h1, h2, h3, h4 with
  | [c0, c1, c2, c3, c4], _, [x0, x1, x2, x3, x4], _, h0, h1, h2, h3, h4 =>
    obtain ⟨s0, e0, d0, _⟩ := DataW.trod_string (x := x0) Try.underlying9 h0
    obtain ⟨s1, e1, d1, _⟩ := DataW.trod_int (x := x1) Try.underlying39 h1
    obtain ⟨s2, e2, d2, _⟩ := DataW.trod_int (x := x2) Try.underlying3 h2
    obtain ⟨s3, e3, d3, _⟩ := DataW.trod_string (x := x3) Try.underlying9 h3
    obtain ⟨s4, e4, d4, _⟩ := DataW.trod_string (x := x4) Try.underlying9 h4
    refine ⟨s0, s3, s4, s1, s2, ?_, ?_⟩
    · injection (show [c0] = [_] from e0) with e0
      injection (show [c1] = [_] from e1) with e1
      injection (show [c2] = [_] from e2) with e2
      injection (show [c3] = [_] from e3) with e3
      injection (show [c4] = [_] from e4) with e4
      rw [e0, e1, e2, e3, e4]
    · rw [d0, d1, d2, d3, d4]
      rfl
set_option maxRecDepth 100000 in
/-- a change that is read -/
theorem open_change {cs : List Value} {x : DataW H × List MemPlace} (h : DataW.trod enc Try.prog W base sp held fuel 43 cs = some x) : ∃ c : Chg, cs = chgC c ∧ x = (chgD c, []) := by
  obtain ⟨xs, n, rfl, rfl, hlen, hxl, hf⟩ := DataW.trod_struct Try.underlying43 h
  have h0 : DataW.trod enc Try.prog W base sp held n 9 ((cs.drop 0).take (Try.prog.cellsOf 9)) = xs[0]? := hf 0 _ rfl
  have h1 : DataW.trod enc Try.prog W base sp held n 4 ((cs.drop 1).take (Try.prog.cellsOf 4)) = xs[1]? := hf 1 _ rfl
  have h2 : DataW.trod enc Try.prog W base sp held n 41 ((cs.drop 2).take (Try.prog.cellsOf 41)) = xs[2]? := hf 2 _ rfl
  rw [Try.cellsChange] at hlen
  rw [Try.cellsStr] at h0
  rw [Try.cellsBool] at h1
  rw [Try.cellsEntry] at h2
  match cs, hlen, xs, hxl, h0, h1, h2 with
  | [c0, c1, c2, c3, c4, c5, c6], _, [x0, x1, x2], _, h0, h1, h2 =>
    obtain ⟨s0, e0, d0, _⟩ := DataW.trod_string (x := x0) Try.underlying9 h0
    obtain ⟨s1, e1, d1⟩ := DataW.trod_bool (x := x1) Try.underlying4 h1
    obtain ⟨t0, t3, t4, t1, t2, e2, d2⟩ := open_entry7 (x := x2) h2
    refine ⟨⟨s0, s1, t0, t1, t2, t3, t4⟩, ?_, ?_⟩
    · injection (show [c0] = [_] from e0) with e0
      injection (show [c1] = [_] from e1) with e1
      injection (show [c2, c3, c4, c5, c6] = [.string t0, .int .i64 t1, .int .i64 t2, .string t3, .string t4] from e2) with f0 f1
      injection f1 with f1 f2
      injection f2 with f2 f3
      injection f3 with f3 f4
      injection f4 with f4 f5
      rw [e0, e1, f0, f1, f2, f3, f4]
      rfl
    · rw [d0, d1, d2]
      rfl
theorem bulk_append {H : Type} (a b : List (DataW H)) : Rows.uptoBulkAll (a ++ b) = Rows.uptoBulkAll a + Rows.uptoBulkAll b := by
  induction a with
  | nil => simp [Rows.uptoBulkAll]
  | cons x r ih => rw [List.cons_append]; simp only [Rows.uptoBulkAll]; omega
theorem bulk_chgs {H : Type} : ∀ L : List Chg, L.length + totalR (L.map cwOf) ≤ Rows.uptoBulkAll (L.map (chgD (H := H)))
  | [] => Nat.zero_le _
  | c :: L => by
    have ih := bulk_chgs (H := H) L
    have e : Rows.uptoBulk (chgD (H := H) c) = c.p.size + 1 + (1 + (c.ep.size + 1 + (1 + (1 + (c.d.size + 1 + (c.l.size + 1)))) + 1)) + 1 := by
      simp [chgD, Rows.uptoBulk, Rows.uptoBulkAll]
    have t : totalR ((c :: L).map cwOf) = bringsF (cwOf c) + totalR (L.map cwOf) := by unfold totalR; rw [List.map_cons, List.map_cons, List.sum_cons]
    have hb : bringsF (cwOf c) ≤ c.d.size := by
      unfold bringsF cwOf
      split <;> simp
    rw [t, List.map_cons, List.length_cons]
    simp only [Rows.uptoBulkAll]
    omega
set_option maxRecDepth 100000 in
/-- a list of changes that is read -/
theorem open_chgs {v : Value} {x : DataW H × List MemPlace} (h : DataW.trod enc Try.prog W 0 (fun _ => true) true fuel 38 [v] = some x) (hk : Rows.uptoBulk x.1 ≤ 1048576) :
    ∃ L : List Chg, ChgsAt W v L ∧ (∀ c ∈ L, c.p.size ≤ 1048576 ∧ c.ep.size ≤ 1048576 ∧ c.d.size ≤ 1048576 ∧ c.l.size ≤ 1048576) ∧ L.length + totalR (L.map cwOf) + 1 ≤ Rows.uptoBulk x.1 ∧ ∀ q ∈ x.2, q.block < W.heap.size := by
  rcases Deep.open_slice Try.underlying38 h with ⟨hc, hx⟩ | ⟨a, len, cap, m, n, D, Pl, hc, _, hl, hm, hmm, hx, hel⟩
  · injection hc with hc
    subst hc hx
    exact ⟨[], ItemsAt.nil W, fun e he => by (cases he), by simp [Rows.uptoBulk, totalR], fun q hq => by cases hq⟩
  · injection hc with hc
    subst hc hx
    rw [if_pos rfl] at hmm
    subst hmm
    rw [Try.cellsChange] at hel
    obtain ⟨E, hE⟩ := Deep.choose_lt (α := Chg) (p := fun i e => W.cells? 0 (a.add (i * 7)) 7 = some (chgC e) ∧ (D i, Pl i) = (chgD e, [])) (fun i hi => by
      obtain ⟨cs', h1, h2⟩ := hel i hi
      obtain ⟨e, rfl, he⟩ := open_change h2
      exact ⟨e, h1, he⟩)
    have hD : ∀ i, i < m → D i = chgD (E i) := fun i hi => congrArg Prod.fst (hE i hi).2
    have hPl : ∀ i, i < m → Pl i = [] := fun i hi => congrArg Prod.snd (hE i hi).2
    have hlt : ∀ i, i < m → a.block < W.heap.size := fun i hi => by
      have := row_lt (hE i hi).1 (by omega)
      rwa [gadd_block] at this
    have hmap : (List.range len).map D = ((List.range len).map E).map chgD := by
      rw [List.map_map]
      exact List.map_congr_left fun i hi => hD i (by have := List.mem_range.1 hi; omega)
    simp only [Rows.uptoBulk] at hk ⊢
    have hbl := bulk_chgs (H := H) ((List.range len).map E)
    rw [← hmap] at hbl
    refine ⟨(List.range len).map E, ⟨some a, m, by simp, by simpa using hl, hm, fun i e he => ?_⟩, fun e he => ?_, by omega, fun q hq => ?_⟩
    · rw [List.getElem?_map] at he
      obtain ⟨j, hj, rfl⟩ := Option.map_eq_some_iff.1 he
      obtain ⟨hj1, hj2⟩ := List.getElem?_eq_some_iff.1 hj
      simp at hj1 hj2
      subst hj2
      refine ⟨a, rfl, hlt i (by omega), fun j x hx => ?_⟩
      obtain ⟨_, _, hcc⟩ := World.cells?_some (hE i (by omega)).1
      have hj7 : j < 7 := by simpa [chgC] using (List.getElem?_eq_some_iff.1 hx).1
      rw [hcc j hj7]
      exact hx
    · obtain ⟨i, hi, rfl⟩ := List.mem_map.1 he
      have hi' : i < len := by simpa using hi
      have h1 := bulk_part (d := D i) (l := (List.range len).map D) (List.mem_map.2 ⟨i, hi, rfl⟩)
      rw [hD i (by omega)] at h1
      have h2 : Rows.uptoBulk (chgD (H := H) (E i)) = (E i).p.size + 1 + (1 + ((E i).ep.size + 1 + (1 + (1 + ((E i).d.size + 1 + ((E i).l.size + 1)))) + 1)) + 1 := by
        simp [chgD, Rows.uptoBulk, Rows.uptoBulkAll]
      omega
    · rw [Try.cellsChange] at hq
      rcases List.mem_append.1 hq with hq | hq
      · unfold MemPlace.row at hq
        obtain ⟨i, hi, rfl⟩ := List.mem_map.1 hq
        have hi' : i < m * 7 := by simpa using hi
        exact hlt 0 (by omega)
      · obtain ⟨i, hi, hq⟩ := List.mem_flatMap.1 hq
        rw [hPl i (by simpa using hi)] at hq
        cases hq
end
theorem flatC_sum {H : Type} {LL : List (List Chg)} {ds : List (DataW H)} (h : ds.length = LL.length) (hd : ∀ (i : Nat) L d, LL[i]? = some L → ds[i]? = some d → L.length + totalR (L.map cwOf) + 1 ≤ Rows.uptoBulk d) : (flatC LL).length + totalR (flatC LL) + LL.length ≤ Rows.uptoBulkAll ds := by
  induction LL generalizing ds with
  | nil => simp [flatC, totalR]
  | cons L LL ih =>
    cases ds with
    | nil => simp at h
    | cons d ds =>
      have h1 := hd 0 L d rfl rfl
      have h2 := ih (ds := ds) (by simpa using h) (fun i L' d' hL hd' => hd (i + 1) L' d' (by simpa using hL) (by simpa using hd'))
      have e : flatC (L :: LL) = L.map cwOf ++ flatC LL := by unfold flatC; rw [List.flatten_cons, List.map_append]
      rw [e, List.length_append, List.length_map, List.length_cons, totalR_append]
      simp only [Rows.uptoBulkAll]
      omega
set_option maxRecDepth 100000 in
/-- an argument of lists of changes: what it holds; its places -/
theorem open_deltas {H : Type} {enc : TypeId × Value → H} {W : World} {base : Nat} {v : Value} {d : DataW H} {p : List MemPlace} (hok : Value.okWide Try.prog W .any base 22 v)
    (h : DataW.Trod enc Try.prog W 0 (fun _ => true) true 22 v d p) (hk : Rows.uptoBulk d ≤ 1048576) :
    ∃ LL : List (List Chg), DeltasAt W v LL ∧ (∀ L ∈ LL, ∀ c ∈ L, c.p.size ≤ 1048576 ∧ c.ep.size ≤ 1048576 ∧ c.d.size ≤ 1048576 ∧ c.l.size ≤ 1048576) ∧ (flatC LL).length + totalR (flatC LL) + LL.length ≤ 1048576 ∧ ∀ x ∈ p, x.block < W.heap.size := by
  obtain ⟨a0, len, cap, rfl⟩ := okWide_slice Try.underlying22 hok
  obtain ⟨fuel, hf⟩ := h
  rcases Deep.open_slice1 Try.underlying22 Try.cellsChanges hf with ⟨hc, hx⟩ | ⟨a, len', cap', m, n, V, D, Pl, hc, _, hl, hm, hmm, hx, hel⟩
  · injection hc with hc
    injection hc with h1 h2 h3
    subst h1; subst h2; subst h3
    injection hx with hx1 hx2
    subst hx2
    exact ⟨[], ⟨none, 0, rfl, Nat.le_refl _, by simp, fun i e he => by simp at he⟩, fun e he => by (cases he), by simp [flatC, totalR], fun x hx => by cases hx⟩
  · injection hc with hc
    injection hc with h1 h2 h3
    subst h1; subst h2; subst h3
    injection hx with hx1 hx2
    subst hx1
    rw [if_pos rfl] at hmm
    subst hmm
    simp only [Rows.uptoBulk] at hk
    have hb0 : ∀ i, i < m → Rows.uptoBulk (D i) ≤ 1048576 := fun i hi => by
      by_cases hil : i < len
      · have h1 := bulk_part (d := D i) (l := (List.range len).map D) (List.mem_map.2 ⟨i, by simpa using hil, rfl⟩)
        omega
      · have h1 := bulk_part (d := D i) (l := (List.range (m - len)).map fun j => D (len + j)) (List.mem_map.2 ⟨i - len, by simp; omega, by rw [show len + (i - len) = i by omega]⟩)
        omega
    obtain ⟨E, hE⟩ := Deep.choose_lt (α := List Chg) (p := fun i L => ChgsAt W (V i) L ∧ (∀ c ∈ L, c.p.size ≤ 1048576 ∧ c.ep.size ≤ 1048576 ∧ c.d.size ≤ 1048576 ∧ c.l.size ≤ 1048576) ∧ L.length + totalR (L.map cwOf) + 1 ≤ Rows.uptoBulk (D i) ∧ ∀ q ∈ Pl i, q.block < W.heap.size) (fun i hi => open_chgs (hel i hi).2 (hb0 i hi))
    have hlt : ∀ i, i < m → a.block < W.heap.size := fun i hi => by
      have := lt_of_cell (hel i hi).1
      rwa [gadd_block] at this
    have hsum : (flatC ((List.range len).map E)).length + totalR (flatC ((List.range len).map E)) + ((List.range len).map E).length ≤ Rows.uptoBulkAll ((List.range len).map D) := flatC_sum (by simp) fun i L d' hL hd' => by
      rw [List.getElem?_map] at hL hd'
      obtain ⟨j, hj, rfl⟩ := Option.map_eq_some_iff.1 hL
      rw [hj] at hd'
      simp at hd'
      subst hd'
      obtain ⟨hj1, hj2⟩ := List.getElem?_eq_some_iff.1 hj
      simp at hj1 hj2
      subst hj2
      exact (hE i (by omega)).2.2.1
    refine ⟨(List.range len).map E, ⟨some a, m, by simp, by simpa using hl, hm, fun i L he => ?_⟩, fun L hL => ?_, by omega, fun x hx => ?_⟩
    · rw [List.getElem?_map] at he
      obtain ⟨j, hj, rfl⟩ := Option.map_eq_some_iff.1 he
      obtain ⟨hj1, hj2⟩ := List.getElem?_eq_some_iff.1 hj
      simp at hj1 hj2
      subst hj2
      exact ⟨a, V i, rfl, hlt i (by omega), (hel i (by omega)).1, (hE i (by omega)).1⟩
    · obtain ⟨i, hi, rfl⟩ := List.mem_map.1 hL
      have hi' : i < len := by simpa using hi
      exact (hE i (by omega)).2.1
    · subst hx2
      rcases List.mem_append.1 hx with hx | hx
      · unfold MemPlace.row at hx
        obtain ⟨i, hi, rfl⟩ := List.mem_map.1 hx
        have hi' : i < m := by simpa using hi
        exact hlt 0 (by omega)
      · obtain ⟨i, hi, hx⟩ := List.mem_flatMap.1 hx
        exact (hE i (by simpa using hi)).2.2.2 x hx
theorem sameAt_below {W W' : World} (hb : Below W.heap.size W W') {p : MemPlace} (hp : p.block < W.heap.size) : W.sameAt W' p := by
  cases p with
  | cell b o => exact World.cell?_of_block (w := W) (a := ⟨b, o, none⟩) (hb.block b hp)
  | map b => exact hb.block b hp
theorem laidOut : laidOutB Try.prog = true := by kernel_rfl
theorem recDeltas : Try.prog.readableRec 22 = true := by kernel_rfl
theorem rowDeltas : (22 : TypeId) < Try.prog.types.size := of_decide_eq_true (by kernel_rfl)
set_option maxRecDepth 100000 in
/-- lists of changes are read again as they were -/
theorem deltas_again {H : Type} {enc : TypeId × Value → H} {W W' : World} {v : Value} {d : DataW H} {p : List MemPlace} (h : DataW.Trod enc Try.prog W 0 (fun _ => true) true 22 v d p) (hb : Below W.heap.size W W') (hp : ∀ x ∈ p, x.block < W.heap.size) :
    DataW.Trod enc Try.prog W' 0 (fun b => decide (b < W.heap.size)) true 22 v d p :=
  WideElems.Trod_stays laidOut recDeltas rowDeltas h (fun x hx => sameAt_below hb (hp x hx)) (fun x hx => decide_eq_true (hp x hx))
/-- the post of a law that answers and changes nothing -/
theorem post_reads {H : Type} {enc : TypeId × Value → H} {P : Program} {f : Func} {s : ChangeSpec} {apart fresh handsOn : Bool} {W W' : World} {args : Array Value} {v : Value} {ds gs : List (DataW H)} {before pa : List MemPlace}
    (hW : DataW.Whole enc P f.params.toList s.vars apart W args.toList ds gs before)
    (hres : ∀ (b : Nat) (sp : Nat → Bool) (hd : Bool), DataW.TrodAll enc P W' b sp hd f.resultTypes.toList (v.resultList f.resultTypes.size) (s.fn H (ds ++ gs)).results [])
    (hargs : DataW.TrodAll enc P W' 0 (fun b => decide (b < W.heap.size)) true f.params.toList args.toList (s.fn H (ds ++ gs)).args pa)
    (hvars : ∀ sp : Nat → Bool, DataW.TrodVars enc P W' sp s.vars (s.fn H (ds ++ gs)).vars [])
    (hk : Below W.heap.size W W') :
    s.post enc P f apart fresh handsOn false W args v W' := ⟨ds, gs, before, [], pa, [], hW, hres _ _ _, hargs, hvars _, hk.frame _, fun h => by cases h⟩
end Go.Proofs.Ytebniijkhjnbdaa
