/- Joined: what these texts prove stands at the head of each part: RRow, TrRow. -/
import Derived.Test.YtfanfkogogijpaaGreatDoorROf
import Derived.Test.YtfanfkogogijpaaGreatDoorPlain
import Derived.Test.YtfanfkogogijpaaGreatDoorCards
import Derived.Test.YtfanfkogogijpaaGreatDoorTie
import Derived.Test.YtfanfkogogijpaaGreatDoorGRows
import Derived.WalkKit
import Derived.ProofKit
import Derived.OpenShut
import Derived.ShutString
import Derived.ChangeSame
import Derived.ChangeMaps5
import Derived.Below
import Derived.LaidLaws
import Derived.LaidHandle
import Derived.Deep.DeepHandedRow
import Derived.Deep.Slices
import Derived.WideKeyArgs
set_option linter.unusedSimpArgs false
set_option linter.unusedVariables false
namespace Go.Proofs.YtfanfkogogijpaaGreatDoor
section
open Go.ChangeShapes Go.WideShapes Go.ChangeAt Go.RowKit

theorem ownOf : ownKnob Tryz.prog.godebug = none := by kernel_rfl
theorem laidEt : Tryz.prog.globalNamed "errors.errorType" = some 1 := by kernel_rfl
theorem laidRt : (Tryz.prog.cutTypes.find? (·.1 == "internal/reflectlite.rtype")).map (·.2) = some 128 := by kernel_rfl
theorem laidSize : Tryz.prog.types.size = 194 := by kernel_rfl
theorem laidOne : ((List.range 194).filter fun t => Tryz.prog.rowNamed t [101, 114, 114, 111, 114]) = [26] := by kernel_rfl

theorem lt_of_cell {W : World} {a : Addr} {v : Value} (h : W.cell? a = some v) : a.block < W.heap.size := by
  by_cases hlt : a.block < W.heap.size
  · exact hlt
  · exfalso
    have e : W.heap[a.block]? = none := Array.getElem?_eq_none (by omega)
    simp [World.cell?, e] at h

/-- what the row's list gives the walks -/
theorem handle_of_laid {W : World} (h : laidMetH Tryz.prog [("errors.errorType", Rows.laid_errors_errorType)] W) : Handle W := by
  have h' : laidMet Tryz.prog [] W ∧ handlesMet Tryz.prog [("errors.errorType", Rows.laid_errors_errorType)] W := h
  obtain ⟨name, u, ty, e1, e2, e3, e4, e5⟩ := h'.2 _ (List.mem_singleton.2 rfl)
  have en : name = [101, 114, 114, 111, 114] := (Option.some.inj e1).symm
  subst en
  obtain rfl := Option.some.inj (laidRt.symm.trans e2)
  have hm : ty ∈ (List.range 194).filter fun t => Tryz.prog.rowNamed t [101, 114, 114, 111, 114] := List.mem_filter.2 ⟨List.mem_range.2 (by rw [← laidSize]; exact e3), e4⟩
  rw [laidOne] at hm
  obtain rfl := List.mem_singleton.1 hm
  have hh : typeHandle Tryz.prog 26 = .pointer (some ⟨3, 26, none⟩) := by kernel_rfl
  rw [hh] at e5
  have hc : W.cell? ⟨1, 0, none⟩ = some (.iface 128 (.agg #[.pointer (some ⟨3, 26, none⟩)])) := by simpa using World.var?_cell laidEt e5 0
  exact ⟨hc, lt_of_cell hc⟩

/-- a world that meets the list -/
noncomputable def laidWorld (os : Os) : World :=
  let w0 := World.holding Tryz.prog os ⟨#[], #[], []⟩
  { w0 with heap := w0.heap.modify 1 fun
      | .cells _ t frozen => .cells #[.iface 128 (.agg #[.pointer (some ⟨3, 26, none⟩)])] t frozen
      | o => o }
theorem laidWorld_met (os : Os) (args : Array Value) : laidMetH Tryz.prog [("errors.errorType", Rows.laid_errors_errorType)] ((laidWorld os).forCall (fun _ _ => 0) ⟨#[], args, []⟩).memory :=
  laidMetH_of_parts (laidMet_nil _ _) (by kernel_rfl)

theorem bulk_part {H : Type} {d : DataW H} {l : List (DataW H)} (h : d ∈ l) : Rows.uptoBulk d ≤ Rows.uptoBulkAll l := by
  induction l with
  | nil => cases h
  | cons x r ih =>
    simp only [Rows.uptoBulkAll]
    cases List.mem_cons.1 h with
    | inl e => subst e; omega
    | inr e => have := ih e; omega
theorem bulk_string {H : Type} {s : ByteArray} {l : List (DataW H)} (h : DataW.lit (H := H) (.string s.data.toList) ∈ l) (hk : Rows.uptoSmall H l = true) : s.size ≤ 1048576 := by
  have h1 := bulk_part h
  have h2 : Rows.uptoBulkAll l ≤ 1048576 := by simpa [Rows.uptoSmall] using hk
  have h3 : Rows.uptoBulk (DataW.lit (H := H) (.string s.data.toList)) = s.size + 1 := by simp [Rows.uptoBulk]
  omega

instance : Inhabited Ent := ⟨⟨ByteArray.empty, 0, 0, ByteArray.empty, ByteArray.empty⟩⟩
def entD {H : Type} (e : Ent) : DataW H := .agg [.lit (.string e.p.data.toList), .lit (.int .i64 e.k), .lit (.int .i64 e.m), .lit (.string e.d.data.toList), .lit (.string e.l.data.toList)]
theorem Tryz.cellsStr : Tryz.prog.cellsOf 9 = 1 := by kernel_rfl
theorem Tryz.cellsKind : Tryz.prog.cellsOf 31 = 1 := by kernel_rfl
theorem Tryz.cellsInt : Tryz.prog.cellsOf 3 = 1 := by kernel_rfl
theorem Tryz.cellsEntry : Tryz.prog.cellsOf 33 = 5 := by kernel_rfl
section
variable {H : Type} {enc : TypeId × Value → H} {W : World} {base : Nat} {sp : Nat → Bool} {held : Bool} {fuel : Nat}
set_option maxRecDepth 100000 in
/-- an entry that is read -/
theorem open_entry {cs : List Value} {x : DataW H × List MemPlace} (h : DataW.trod enc Tryz.prog W base sp held fuel 33 cs = some x) : ∃ e : Ent, cs = entC e ∧ x = (entD e, []) := by
  obtain ⟨xs, n, rfl, rfl, hlen, hxl, hf⟩ := DataW.trod_struct Tryz.underlying33 h
  have h0 : DataW.trod enc Tryz.prog W base sp held n 9 ((cs.drop 0).take (Tryz.prog.cellsOf 9)) = xs[0]? := hf 0 _ rfl
  have h1 : DataW.trod enc Tryz.prog W base sp held n 31 ((cs.drop 1).take (Tryz.prog.cellsOf 31)) = xs[1]? := hf 1 _ rfl
  have h2 : DataW.trod enc Tryz.prog W base sp held n 3 ((cs.drop 2).take (Tryz.prog.cellsOf 3)) = xs[2]? := hf 2 _ rfl
  have h3 : DataW.trod enc Tryz.prog W base sp held n 9 ((cs.drop 3).take (Tryz.prog.cellsOf 9)) = xs[3]? := hf 3 _ rfl
  have h4 : DataW.trod enc Tryz.prog W base sp held n 9 ((cs.drop 4).take (Tryz.prog.cellsOf 9)) = xs[4]? := hf 4 _ rfl
  rw [Tryz.cellsEntry] at hlen
  rw [Tryz.cellsStr] at h0 h3 h4
  rw [Tryz.cellsKind] at h1
  rw [Tryz.cellsInt] at h2
  match cs, hlen, xs, hxl, h0, h1, h2, h3, h4 with
  | [c0, c1, c2, c3, c4], _, [x0, x1, x2, x3, x4], _, h0, h1, h2, h3, h4 =>
    obtain ⟨s0, e0, d0, _⟩ := DataW.trod_string (x := x0) Tryz.underlying9 h0
    obtain ⟨s1, e1, d1, _⟩ := DataW.trod_int (x := x1) Tryz.underlying31 h1
    obtain ⟨s2, e2, d2, _⟩ := DataW.trod_int (x := x2) Tryz.underlying3 h2
    obtain ⟨s3, e3, d3, _⟩ := DataW.trod_string (x := x3) Tryz.underlying9 h3
    obtain ⟨s4, e4, d4, _⟩ := DataW.trod_string (x := x4) Tryz.underlying9 h4
    refine ⟨⟨s0, s1, s2, s3, s4⟩, ?_, ?_⟩
    · injection (show [c0] = [_] from e0) with e0
      injection (show [c1] = [_] from e1) with e1
      injection (show [c2] = [_] from e2) with e2
      injection (show [c3] = [_] from e3) with e3
      injection (show [c4] = [_] from e4) with e4
      rw [e0, e1, e2, e3, e4]
      rfl
    · rw [d0, d1, d2, d3, d4]
      rfl
end
theorem bulk_one {H : Type} (d : DataW H) : 1 ≤ Rows.uptoBulk d := by
  cases d with
  | lit l => cases l <;> simp [Rows.uptoBulk]
  | _ => simp [Rows.uptoBulk]
theorem bulk_len {H : Type} : ∀ (l : List (DataW H)), l.length ≤ Rows.uptoBulkAll l
  | [] => by simp [Rows.uptoBulkAll]
  | d :: r => by
    have h1 := bulk_one d
    have h2 := bulk_len r
    simp only [Rows.uptoBulkAll, List.length_cons]
    omega
theorem row_lt {W : World} {base : Nat} {a : Addr} {n : Nat} {cs : List Value} (h : W.cells? base a n = some cs) (hn : 0 < n) : a.block < W.heap.size := by
  obtain ⟨_, hl, hc⟩ := World.cells?_some h
  have h0 := hc 0 hn
  rw [List.getElem?_eq_getElem (by omega)] at h0
  have := lt_of_cell h0
  rwa [show (a.add 0).block = a.block from add_block a 0] at this
set_option maxRecDepth 100000 in
/-- an argument of entries: what it holds; its places -/
theorem open_entsB {H : Type} {enc : TypeId × Value → H} {W : World} {base : Nat} {v : Value} {d : DataW H} {p : List MemPlace} (hok : Value.okWide Tryz.prog W .any base 24 v)
    (h : DataW.Trod enc Tryz.prog W 0 (fun _ => true) true 24 v d p) (hk : Rows.uptoBulk d ≤ 1048576) :
    ∃ L : List Ent, EntsAt W v L ∧ (∀ x ∈ L, x.p.size ≤ 1048576 ∧ x.d.size ≤ 1048576 ∧ x.l.size ≤ 1048576) ∧ L.length ≤ 1048576 ∧ ∀ x ∈ p, x.block < W.heap.size := by
  obtain ⟨a0, len, cap, rfl⟩ := okWide_slice Tryz.underlying24 hok
  obtain ⟨fuel, hf⟩ := h
  rcases Deep.open_slice Tryz.underlying24 hf with ⟨hc, hx⟩ | ⟨a, len', cap', m, n, D, Pl, hc, _, hl, hm, hmm, hx, hel⟩
  · injection hc with hc
    injection hc with h1 h2 h3
    subst h1; subst h2; subst h3
    injection hx with hx1 hx2
    subst hx2
    exact ⟨[], ⟨none, 0, rfl, Nat.le_refl _, by simp, fun i e he => by simp at he⟩, fun e he => by (cases he), Nat.zero_le _, fun x hx => by cases hx⟩
  · injection hc with hc
    injection hc with h1 h2 h3
    subst h1; subst h2; subst h3
    injection hx with hx1 hx2
    subst hx1
    rw [if_pos rfl] at hmm
    subst hmm
    rw [Tryz.cellsEntry] at hel hx2
    obtain ⟨E, hE⟩ := Deep.choose_lt (α := Ent) (p := fun i e => W.cells? 0 (a.add (i * 5)) 5 = some (entC e) ∧ (D i, Pl i) = (entD e, [])) (fun i hi => by
      obtain ⟨cs', h1, h2⟩ := hel i hi
      obtain ⟨e, rfl, he⟩ := open_entry h2
      exact ⟨e, h1, he⟩)
    have hD : ∀ i, i < m → D i = entD (E i) := fun i hi => congrArg Prod.fst (hE i hi).2
    have hPl : ∀ i, i < m → Pl i = [] := fun i hi => congrArg Prod.snd (hE i hi).2
    have hlt : ∀ i, i < m → a.block < W.heap.size := fun i hi => by
      have := row_lt (hE i hi).1 (by omega)
      rwa [add_block] at this
    simp only [Rows.uptoBulk] at hk
    have hbl := bulk_len ((List.range len).map D)
    simp at hbl
    refine ⟨(List.range len).map E, ⟨some a, m, by simp, by simpa using hl, hm, fun i e he => ?_⟩, fun e he => ?_, by simp; omega, fun x hx => ?_⟩
    · rw [List.getElem?_map] at he
      obtain ⟨j, hj, rfl⟩ := Option.map_eq_some_iff.1 he
      obtain ⟨hj1, hj2⟩ := List.getElem?_eq_some_iff.1 hj
      simp at hj1 hj2
      subst hj2
      refine ⟨a, rfl, hlt i (by omega), fun j x hx => ?_⟩
      obtain ⟨_, _, hcc⟩ := World.cells?_some (hE i (by omega)).1
      have hj5 : j < 5 := by simpa [entC] using (List.getElem?_eq_some_iff.1 hx).1
      rw [hcc j hj5]
      exact hx
    · obtain ⟨i, hi, rfl⟩ := List.mem_map.1 he
      have hi' : i < len := by simpa using hi
      have h1 := bulk_part (d := D i) (l := (List.range len).map D) (List.mem_map.2 ⟨i, hi, rfl⟩)
      rw [hD i (by omega)] at h1
      have h2 : Rows.uptoBulk (entD (H := H) (E i)) = (E i).p.size + 1 + (1 + (1 + ((E i).d.size + 1 + ((E i).l.size + 1)))) + 1 := by
        simp [entD, Rows.uptoBulk, Rows.uptoBulkAll]
      omega
    · subst hx2
      rcases List.mem_append.1 hx with hx | hx
      · unfold MemPlace.row at hx
        obtain ⟨i, hi, rfl⟩ := List.mem_map.1 hx
        have hi' : i < m * 5 := by simpa using hi
        exact hlt 0 (by omega)
      · obtain ⟨i, hi, hx⟩ := List.mem_flatMap.1 hx
        rw [hPl i (by simpa using hi)] at hx
        cases hx
set_option maxRecDepth 100000 in
theorem open_ents {H : Type} {enc : TypeId × Value → H} {W : World} {base : Nat} {v : Value} {d : DataW H} {p : List MemPlace} (hok : Value.okWide Tryz.prog W .any base 24 v)
    (h : DataW.Trod enc Tryz.prog W 0 (fun _ => true) true 24 v d p) (hk : Rows.uptoBulk d ≤ 1048576) :
    ∃ L : List Ent, EntsAt W v L ∧ Small L ∧ L.length ≤ 1048576 ∧ ∀ x ∈ p, x.block < W.heap.size := by
  obtain ⟨L, h1, h2, h3, h4⟩ := open_entsB hok h hk
  exact ⟨L, h1, fun e he => ⟨Nat.lt_of_le_of_lt (h2 e he).1 (by omega), Nat.lt_of_le_of_lt (h2 e he).2.1 (by omega), Nat.lt_of_le_of_lt (h2 e he).2.2 (by omega)⟩, h3, h4⟩
theorem sameAt_below {W W' : World} (hb : Below W.heap.size W W') {p : MemPlace} (hp : p.block < W.heap.size) : W.sameAt W' p := by
  cases p with
  | cell b o => exact World.cell?_of_block (w := W) (a := ⟨b, o, none⟩) (hb.block b hp)
  | map b => exact hb.block b hp
theorem laidOut : laidOutB Tryz.prog = true := by kernel_rfl
theorem recEnts : Tryz.prog.readableRec 24 = true := by kernel_rfl
theorem rowEnts : (24 : TypeId) < Tryz.prog.types.size := of_decide_eq_true (by kernel_rfl)
set_option maxRecDepth 100000 in
/-- entries are read again as they were -/
theorem ents_again {H : Type} {enc : TypeId × Value → H} {W W' : World} {v : Value} {d : DataW H} {p : List MemPlace} (h : DataW.Trod enc Tryz.prog W 0 (fun _ => true) true 24 v d p) (hb : Below W.heap.size W W') (hp : ∀ x ∈ p, x.block < W.heap.size) :
    DataW.Trod enc Tryz.prog W' 0 (fun b => decide (b < W.heap.size)) true 24 v d p :=
  WideElems.Trod_stays laidOut recEnts rowEnts h (fun x hx => sameAt_below hb (hp x hx)) (fun x hx => decide_eq_true (hp x hx))
/-- the post of a law that answers and changes nothing -/
theorem post_reads {H : Type} {enc : TypeId × Value → H} {P : Program} {f : Func} {s : ChangeSpec} {apart fresh handsOn : Bool} {W W' : World} {args : Array Value} {v : Value} {ds gs : List (DataW H)} {before pa : List MemPlace}
    (hW : DataW.Whole enc P f.params.toList s.vars apart W args.toList ds gs before)
    (hres : ∀ (b : Nat) (sp : Nat → Bool) (hd : Bool), DataW.TrodAll enc P W' b sp hd f.resultTypes.toList (v.resultList f.resultTypes.size) (s.fn H (ds ++ gs)).results [])
    (hargs : DataW.TrodAll enc P W' 0 (fun b => decide (b < W.heap.size)) true f.params.toList args.toList (s.fn H (ds ++ gs)).args pa)
    (hvars : ∀ sp : Nat → Bool, DataW.TrodVars enc P W' sp s.vars (s.fn H (ds ++ gs)).vars [])
    (hk : Below W.heap.size W W') :
    s.post enc P f apart fresh handsOn false W args v W' := ⟨ds, gs, before, [], pa, [], hW, hres _ _ _, hargs, hvars _, hk.frame _, fun h => by cases h⟩
end
end Go.Proofs.YtfanfkogogijpaaGreatDoor
namespace Go.Proofs.YtfanfkogogijpaaGreatDoor
section
open Go.ChangeShapes Go.WideShapes Go.ChangeAt Go.RowKit
def TreesAt (W : World) (v : Value) (LL : List (List Ent)) : Prop := ListsAt entC 5 W v LL
def sumT (LL : List (List Ent)) : Nat := (LL.map fun L => 2 * L.length + bytesE L + 1).sum
instance : Inhabited Ent := ⟨⟨ByteArray.empty, 0, 0, ByteArray.empty, ByteArray.empty⟩⟩
theorem Tryz.cellsEnts : Tryz.prog.cellsOf 24 = 1 := by kernel_rfl
theorem bulk_ents {H : Type} : ∀ L : List Ent, 2 * L.length + bytesE L ≤ Rows.uptoBulkAll (L.map (entD (H := H)))
  | [] => Nat.zero_le _
  | c :: L => by
    have ih := bulk_ents (H := H) L
    have e : Rows.uptoBulk (entD (H := H) c) = c.p.size + 1 + (1 + (1 + (c.d.size + 1 + (c.l.size + 1)))) + 1 := by
      simp [entD, Rows.uptoBulk, Rows.uptoBulkAll]
    rw [bytesE_cons, List.map_cons, List.length_cons]
    simp only [Rows.uptoBulkAll]
    omega
section
variable {H : Type} {enc : TypeId × Value → H} {W : World} {base : Nat} {sp : Nat → Bool} {held : Bool} {fuel : Nat}
set_option maxRecDepth 100000 in
theorem open_tents {v : Value} {x : DataW H × List MemPlace} (h : DataW.trod enc Tryz.prog W 0 (fun _ => true) true fuel 24 [v] = some x) (hk : Rows.uptoBulk x.1 ≤ 1048576) :
    ∃ L : List Ent, ItemsAt entC 5 W v L ∧ (∀ c ∈ L, c.p.size ≤ 1048576 ∧ c.d.size ≤ 1048576 ∧ c.l.size ≤ 1048576) ∧ 2 * L.length + bytesE L + 1 ≤ Rows.uptoBulk x.1 ∧ ∀ q ∈ x.2, q.block < W.heap.size := by
  rcases Deep.open_slice Tryz.underlying24 h with ⟨hc, hx⟩ | ⟨a, len, cap, m, n, D, Pl, hc, _, hl, hm, hmm, hx, hel⟩
  · injection hc with hc
    subst hc hx
    exact ⟨[], ItemsAt.nil W, fun e he => by (cases he), by simp [Rows.uptoBulk, bytesE], fun q hq => by cases hq⟩
  · injection hc with hc
    subst hc hx
    rw [if_pos rfl] at hmm
    subst hmm
    rw [Tryz.cellsEntry] at hel
    obtain ⟨E, hE⟩ := Deep.choose_lt (α := Ent) (p := fun i e => W.cells? 0 (a.add (i * 5)) 5 = some (entC e) ∧ (D i, Pl i) = (entD e, [])) (fun i hi => by
      obtain ⟨cs', h1, h2⟩ := hel i hi
      obtain ⟨e, rfl, he⟩ := open_entry h2
      exact ⟨e, h1, he⟩)
    have hD : ∀ i, i < m → D i = entD (E i) := fun i hi => congrArg Prod.fst (hE i hi).2
    have hPl : ∀ i, i < m → Pl i = [] := fun i hi => congrArg Prod.snd (hE i hi).2
    have hlt : ∀ i, i < m → a.block < W.heap.size := fun i hi => by
      have := row_lt (hE i hi).1 (by omega)
      rwa [gadd_block] at this
    have hmap : (List.range len).map D = ((List.range len).map E).map entD := by
      rw [List.map_map]
      exact List.map_congr_left fun i hi => hD i (by have := List.mem_range.1 hi; omega)
    simp only [Rows.uptoBulk] at hk ⊢
    have hbl := bulk_ents (H := H) ((List.range len).map E)
    rw [← hmap] at hbl
    refine ⟨(List.range len).map E, ⟨some a, m, by simp, by simpa using hl, hm, fun i e he => ?_⟩, fun e he => ?_, by omega, fun q hq => ?_⟩
    · rw [List.getElem?_map] at he
      obtain ⟨j, hj, rfl⟩ := Option.map_eq_some_iff.1 he
      obtain ⟨hj1, hj2⟩ := List.getElem?_eq_some_iff.1 hj
      simp at hj1 hj2
      subst hj2
      refine ⟨a, rfl, hlt i (by omega), fun j x hx => ?_⟩
      obtain ⟨_, _, hcc⟩ := World.cells?_some (hE i (by omega)).1
      have hj5 : j < 5 := by simpa [entC] using (List.getElem?_eq_some_iff.1 hx).1
      rw [hcc j hj5]
      exact hx
    · obtain ⟨i, hi, rfl⟩ := List.mem_map.1 he
      have hi' : i < len := by simpa using hi
      have h1 := bulk_part (d := D i) (l := (List.range len).map D) (List.mem_map.2 ⟨i, hi, rfl⟩)
      rw [hD i (by omega)] at h1
      have h2 : Rows.uptoBulk (entD (H := H) (E i)) = (E i).p.size + 1 + (1 + (1 + ((E i).d.size + 1 + ((E i).l.size + 1)))) + 1 := by
        simp [entD, Rows.uptoBulk, Rows.uptoBulkAll]
      omega
    · rw [Tryz.cellsEntry] at hq
      rcases List.mem_append.1 hq with hq | hq
      · unfold MemPlace.row at hq
        obtain ⟨i, hi, rfl⟩ := List.mem_map.1 hq
        have hi' : i < m * 5 := by simpa using hi
        exact hlt 0 (by omega)
      · obtain ⟨i, hi, hq⟩ := List.mem_flatMap.1 hq
        rw [hPl i (by simpa using hi)] at hq
        cases hq
end
theorem trees_sum {H : Type} {LL : List (List Ent)} {ds : List (DataW H)} (h : ds.length = LL.length) (hd : ∀ (i : Nat) L d, LL[i]? = some L → ds[i]? = some d → 2 * L.length + bytesE L + 1 ≤ Rows.uptoBulk d) : sumT LL ≤ Rows.uptoBulkAll ds := by
  induction LL generalizing ds with
  | nil => simp [sumT]
  | cons L LL ih =>
    cases ds with
    | nil => simp at h
    | cons d ds =>
      have h1 := hd 0 L d rfl rfl
      have h2 := ih (ds := ds) (by simpa using h) (fun i L' d' hL hd' => hd (i + 1) L' d' (by simpa using hL) (by simpa using hd'))
      have e : sumT (L :: LL) = 2 * L.length + bytesE L + 1 + sumT LL := by unfold sumT; rw [List.map_cons, List.sum_cons]
      rw [e]
      simp only [Rows.uptoBulkAll]
      omega
set_option maxRecDepth 100000 in
/-- an argument of lists of changes: what it holds; its places -/
theorem open_trees {H : Type} {enc : TypeId × Value → H} {W : World} {base : Nat} {v : Value} {d : DataW H} {p : List MemPlace} (hok : Value.okWide Tryz.prog W .any base 22 v)
    (h : DataW.Trod enc Tryz.prog W 0 (fun _ => true) true 22 v d p) (hk : Rows.uptoBulk d ≤ 1048576) :
    ∃ LL : List (List Ent), TreesAt W v LL ∧ (∀ L ∈ LL, ∀ c ∈ L, c.p.size ≤ 1048576 ∧ c.d.size ≤ 1048576 ∧ c.l.size ≤ 1048576) ∧ sumT LL ≤ 1048576 ∧ ∀ x ∈ p, x.block < W.heap.size := by
  obtain ⟨a0, len, cap, rfl⟩ := okWide_slice Tryz.underlying22 hok
  obtain ⟨fuel, hf⟩ := h
  rcases Deep.open_slice1 Tryz.underlying22 Tryz.cellsEnts hf with ⟨hc, hx⟩ | ⟨a, len', cap', m, n, V, D, Pl, hc, _, hl, hm, hmm, hx, hel⟩
  · injection hc with hc
    injection hc with h1 h2 h3
    subst h1; subst h2; subst h3
    injection hx with hx1 hx2
    subst hx2
    exact ⟨[], ⟨none, 0, rfl, Nat.le_refl _, by simp, fun i e he => by simp at he⟩, fun e he => by (cases he), by simp [sumT], fun x hx => by cases hx⟩
  · injection hc with hc
    injection hc with h1 h2 h3
    subst h1; subst h2; subst h3
    injection hx with hx1 hx2
    subst hx1
    rw [if_pos rfl] at hmm
    subst hmm
    simp only [Rows.uptoBulk] at hk
    have hb0 : ∀ i, i < m → Rows.uptoBulk (D i) ≤ 1048576 := fun i hi => by
      by_cases hil : i < len
      · have h1 := bulk_part (d := D i) (l := (List.range len).map D) (List.mem_map.2 ⟨i, by simpa using hil, rfl⟩)
        omega
      · have h1 := bulk_part (d := D i) (l := (List.range (m - len)).map fun j => D (len + j)) (List.mem_map.2 ⟨i - len, by simp; omega, by rw [show len + (i - len) = i by omega]⟩)
        omega
    obtain ⟨E, hE⟩ := Deep.choose_lt (α := List Ent) (p := fun i L => ItemsAt entC 5 W (V i) L ∧ (∀ c ∈ L, c.p.size ≤ 1048576 ∧ c.d.size ≤ 1048576 ∧ c.l.size ≤ 1048576) ∧ 2 * L.length + bytesE L + 1 ≤ Rows.uptoBulk (D i) ∧ ∀ q ∈ Pl i, q.block < W.heap.size) (fun i hi => open_tents (hel i hi).2 (hb0 i hi))
    have hlt : ∀ i, i < m → a.block < W.heap.size := fun i hi => by
      have := lt_of_cell (hel i hi).1
      rwa [gadd_block] at this
    have hsum : sumT ((List.range len).map E) ≤ Rows.uptoBulkAll ((List.range len).map D) := trees_sum (by simp) fun i L d' hL hd' => by
      rw [List.getElem?_map] at hL hd'
      obtain ⟨j, hj, rfl⟩ := Option.map_eq_some_iff.1 hL
      rw [hj] at hd'
      simp at hd'
      subst hd'
      obtain ⟨hj1, hj2⟩ := List.getElem?_eq_some_iff.1 hj
      simp at hj1 hj2
      subst hj2
      exact (hE i (by omega)).2.2.1
    refine ⟨(List.range len).map E, ⟨some a, m, by simp, by simpa using hl, hm, fun i L he => ?_⟩, fun L hL => ?_, by omega, fun x hx => ?_⟩
    · rw [List.getElem?_map] at he
      obtain ⟨j, hj, rfl⟩ := Option.map_eq_some_iff.1 he
      obtain ⟨hj1, hj2⟩ := List.getElem?_eq_some_iff.1 hj
      simp at hj1 hj2
      subst hj2
      exact ⟨a, V i, rfl, hlt i (by omega), (hel i (by omega)).1, (hE i (by omega)).1⟩
    · obtain ⟨i, hi, rfl⟩ := List.mem_map.1 hL
      have hi' : i < len := by simpa using hi
      exact (hE i (by omega)).2.1
    · subst hx2
      rcases List.mem_append.1 hx with hx | hx
      · unfold MemPlace.row at hx
        obtain ⟨i, hi, rfl⟩ := List.mem_map.1 hx
        have hi' : i < m := by simpa using hi
        exact hlt 0 (by omega)
      · obtain ⟨i, hi, hx⟩ := List.mem_flatMap.1 hx
        exact (hE i (by simpa using hi)).2.2.2 x hx
theorem recTrees : Tryz.prog.readableRec 22 = true := by kernel_rfl
theorem rowTrees : (22 : TypeId) < Tryz.prog.types.size := of_decide_eq_true (by kernel_rfl)
set_option maxRecDepth 100000 in
/-- lists of entries are read again as they were -/
theorem trees_again {H : Type} {enc : TypeId × Value → H} {W W' : World} {v : Value} {d : DataW H} {p : List MemPlace} (h : DataW.Trod enc Tryz.prog W 0 (fun _ => true) true 22 v d p) (hb : Below W.heap.size W W') (hp : ∀ x ∈ p, x.block < W.heap.size) :
    DataW.Trod enc Tryz.prog W' 0 (fun b => decide (b < W.heap.size)) true 22 v d p :=
  WideElems.Trod_stays laidOut recTrees rowTrees h (fun x hx => sameAt_below hb (hp x hx)) (fun x hx => decide_eq_true (hp x hx))
end
end Go.Proofs.YtfanfkogogijpaaGreatDoor
