/- The contract of the tree's Take. -/
import Derived.Test.YtdkodedocklmdaaGreatTTake
import Derived.Test.YtdkodedocklmdaaGreatTPutW
set_option linter.unusedSimpArgs false
set_option linter.unusedVariables false
namespace Go.Proofs.YtdkodedocklmdaaGreat
open Go.RowKit Go.Maps Go.Shelf
open Go.Lib hiding intOf size_eq
theorem filter_sums {α : Type} (f : α → Nat) (g : α → Bool) : ∀ (l : List α), l.length = (l.filter g).length + (l.filter (fun x => !g x)).length ∧ (l.map f).sum = ((l.filter g).map f).sum + ((l.filter (fun x => !g x)).map f).sum
  | [] => ⟨rfl, rfl⟩
  | a :: r => by
    obtain ⟨h1, h2⟩ := filter_sums f g r
    cases hg : g a with
    | true =>
      rw [List.filter_cons_of_pos hg, List.filter_cons_of_neg (by simp [hg])]
      simp only [List.length_cons, List.map_cons, List.sum_cons]
      omega
    | false =>
      rw [List.filter_cons_of_neg (by simp [hg]), List.filter_cons_of_pos (by simp [hg])]
      simp only [List.length_cons, List.map_cons, List.sum_cons]
      omega
/-- what is taken: the node itself and what lies below it -/
theorem taken_is {nd : List Nd} (hg : Good (ents nd)) {p : List UInt8} {y : Nd} (hy : lookN nd p = some y) : nd.filter (fun x => !keepE p x.e) = y :: dfs nd 32 p := by
  obtain ⟨hyn, hyp⟩ := lookN_some hy
  have hw := hg.wf
  have hpn : Neat p := hyp ▸ hw.ok y hyn
  have hord := InOrder.of hg
  have hdeep : ∀ z ∈ nd, (pcs z.e.path).length ≤ 32 + (PP p).length := fun z hz => Nat.le_trans (hg.deep z hz) (Nat.le_add_right _ _)
  refine order_ext (lt := fun a b : Nd => compareP a.e.path b.e.path < 0) (fun a => compareP_irrefl _) compareP_trans (List.Pairwise.filter _ hord) ?_ fun x => ?_
  · refine List.pairwise_cons.2 ⟨fun z hz => ?_, order_dfs hw hord 32 hdeep⟩
    rw [hyp]
    exact under_less hpn.ne ((mem_dfs hw 32 hdeep z).1 hz).2
  · rw [List.mem_filter, List.mem_cons, mem_dfs hw 32 hdeep]
    constructor
    · rintro ⟨h1, h2⟩
      have h3 : keepE p x.e = false := by simpa using h2
      rcases keepE_false.1 h3 with h4 | h4
      · exact .inl (path_inj hw.one h1 hyn (h4.trans hyp.symm))
      · exact .inr ⟨h1, (below_under hpn.ne).1 h4⟩
    · rintro (rfl | ⟨h1, h2⟩)
      · exact ⟨hyn, by rw [keepE_false.2 (.inl hyp)]; rfl⟩
      · exact ⟨h1, by rw [keepE_false.2 (.inr ((below_under hpn.ne).2 h2))]; rfl⟩
theorem taken_sums {nd : List Nd} (hg : Good (ents nd)) {p : List UInt8} {y : Nd} (hy : lookN nd p = some y) :
    nd.length = (withoutN nd p).length + (y.e :: (dfs nd 32 p).map (·.e)).length ∧ bytesN nd = bytesN (withoutN nd p) + bytesE (y.e :: (dfs nd 32 p).map (·.e)) := by
  have h := filter_sums (fun x : Nd => x.e.d.size) (fun x => keepE p x.e) nd
  rw [taken_is hg hy] at h
  refine ⟨?_, ?_⟩
  · rw [h.1]
    simp [withoutN]
  · have h2 := h.2
    unfold bytesN bytesE ents withoutN
    simp only [List.map_map, List.map_cons, List.sum_cons] at h2 ⊢
    exact h2
def takeL (l : List Ent) (p : List UInt8) : List Ent := if takeNo l p = 0 then withoutL l p else l
def takeN (l : List Ent) (p : List UInt8) : Nat := if takeNo l p = 0 then l.length - (withoutL l p).length else 0
/-- what Take has done -/
def TakeR (T rt rm base : Nat) (nd : List Nd) (p : List UInt8) (w : World) (r : Ending) (w' : World) : Prop :=
  r = .returned (.tuple #[.int .i64 (takeN (ents nd) p : Int), errV (takeNo (ents nd) p)]) ∧ ∃ nd', ents nd' = takeL (ents nd) p ∧ TreeAt w' T rt rm base nd' ∧ Turned T rt rm nd nd' w w'
theorem TakeR.err {T rt rm base : Nat} {nd : List Nd} {p : List UInt8} {w w' : World} {n : Nat} (h : TreeAt w T rt rm base nd) (hn : takeNo (ents nd) p = n) (h0 : n ≠ 0) (hb : Below w.heap.size w w') : TakeR T rt rm base nd p w (.returned (.tuple #[.int .i64 0, errV n])) w' := by
  refine ⟨?_, nd, ?_, h.below hb (Nat.le_refl _), .of_below hb⟩
  · unfold takeN
    rw [if_neg (by rw [hn]; exact h0), hn]
    rfl
  · unfold takeL
    rw [if_neg (by rw [hn]; exact h0)]
theorem step_delete_kid {w : World} {ops : Array Oper} {o : Oper} {a : Act} {K : Act → World → Prop} {Q : Exit → Act → World → Prop} {X : Prop}
    (hg : o.guard = none) (m x : Operand) (hop : o.op = Op.call { callee := Callee.builtin Builtin.delete, args := #[m, x], argTypes := #[80, 9] })
    (b n : Nat) (D : DataW Nat) (hm : a.eval m = .map (some b)) (hown : w.ownsMap Tryz.prog 9 ptrElem b n D) (c : ByteArray) (hx : a.eval x = .string c) (hc : c.size ≤ maxLen)
    (hK : ∀ w2, w2.ownsMap Tryz.prog 9 ptrElem b n (D.del (.string c.data.toList)) → w.grownBy w2 (some b) → K (a.put o.dst (.tuple #[])) w2) :
    if Region.wanted o (yielded ops a.tmps) = true then Oper.wp Tryz.prog o a w K Q else X := by
  have hw : Region.wanted o (yielded ops a.tmps) = true := by simp [Region.wanted, hg]
  rw [if_pos hw]
  obtain ⟨w2, hrun, r1, r2⟩ := hown.drop Tryz.keyed_str Tryz.underlying80 (key := .string c) (key_text hc) o.type
  unfold Oper.wp
  simp [execOp, hop, resolve, invoke, builtin, hm, hx, hrun, Result.andThen]
  exact hK w2 r1 r2.grown
set_option maxRecDepth 100000 in
set_option maxHeartbeats 4000000 in
theorem take_any {T rt rm base : Nat} {nd : List Nd} (p : ByteArray) (w : World) (h : TreeAt w T rt rm base nd) (hp : p.size < 4611686018427387904) :
    Calls Tryz.prog 45 #[.pointer (some ⟨T, 0, none⟩), .string p] w (TakeR T rt rm base nd p.data.toList w) := by
  obtain ⟨w0, hw0⟩ : ∃ x, x = w.alloc (.cells #[.pointer (some ⟨T, 0, none⟩)] 24) := ⟨_, rfl⟩
  have hb0 : Below w.heap.size w w0 := by rw [hw0]; exact (Below.refl _ _).alloc (Nat.le_refl _) _
  have ht0 : Boxed w0 w.heap.size 24 (.pointer (some ⟨T, 0, none⟩)) := by rw [hw0]; exact Boxed.new _ _ _
  have hs0 : w0.heap.size = w.heap.size + 1 := by rw [hw0]; simp
  have hT0 := h.below hb0 (Nat.le_refl _)
  have c0 := ht0.cell
  have hf := find_any p w0 hT0 hp
  have hno : takeNo (ents nd) p.data.toList = if p.data.toList = [] then 15 else match lookE (ents nd) p.data.toList with
    | none => 10
    | some _ => 0 := rfl
  rw [lookE_N] at hno
  have H := Lib.hid h
  have HT0 := Lib.hid hT0
  have Hw0 := Lib.hid hw0
  have Hb0 := Lib.hid hb0
  have Ht0 := Lib.hid ht0
  clear h hT0 hw0 hb0 ht0
  by_cases h0 : p.data.toList = []
  · have e0 := emptyB_t h0
    rw [if_pos h0] at hno
    have Hno := Lib.hid hno
    clear hf hno h0
    go_enter Tryz.func45, Tryz.ntmps45
    go_upto_region 1 with fail
    rw [← Hw0.out]
    go_wp2
    go_ret2
    exact TakeR.err H.out Hno.out (by decide) Hb0.out
  · have e0 := emptyB_f h0
    rw [if_neg h0] at hno
    rw [show findO nd p.data.toList = (lookN nd p.data.toList).map some from if_neg h0] at hf
    cases hl : lookN nd p.data.toList with
    | none =>
      rw [hl] at hno hf
      have Hno := Lib.hid hno
      have Hf := Lib.hid hf
      clear hf hno h0 hl
      go_enter Tryz.func45, Tryz.ntmps45
      go_upto_region 1 with fail
      rw [← Hw0.out]
      go_wp2_with (first
        | (go_at_call 40; refine Hf.out.mono ?_; rintro r w1 ⟨rfl, hs⟩
           rw [show spotP rt (Option.map some (none : Option Nd)) = .pointer none from rfl]))
      go_ret2
      refine TakeR.err H.out Hno.out (by decide) ?_
      obtain ⟨q, rfl⟩ := hs
      exact below_drewN Hb0.out q
    | some y =>
      rw [hl] at hno hf
      have Hf := Lib.hid hf
      clear hf
      go_enter Tryz.func45, Tryz.ntmps45
      go_upto_region 1 with fail
      rw [← Hw0.out]
      go_upto_region 7 with (first
        | (go_at_call 40; refine Hf.out.mono ?_; rintro r w1 ⟨rfl, hs⟩
           have Hs1 := Lib.hid hs
           have c1 : w1.cell? ⟨w.heap.size, 0, none⟩ = some (.pointer (some ⟨T, 0, none⟩)) := (by obtain ⟨q, rfl⟩ := hs; exact c0)
           clear hs
           rw [show spotP rt (Option.map some (some y)) = .pointer (some ⟨y.b, 0, none⟩) from rfl]))
      -- plain
      obtain ⟨hy, hyp⟩ := lookN_some hl
      have hgood := H.out.good
      have hwf := H.out.wf
      have hpn : Neat p.data.toList := hyp ▸ hwf.ok y hy
      have hup : upNo (ents nd) p.data.toList = 0 := hyp ▸ hgood.up y.e (List.mem_map.2 ⟨y, hy, rfl⟩)
      obtain ⟨o2, ho2⟩ := up_find hwf hup
      obtain ⟨hsum1, hsum2⟩ := taken_sums hgood hl
      have hbyt := hgood.byt
      have hlen := hgood.len
      rw [ents_length] at hlen
      rw [show bytesE (ents nd) = bytesN nd from rfl] at hbyt
      obtain ⟨A, hA⟩ : ∃ A, A = y.e :: (dfs nd 32 p.data.toList).map (·.e) := ⟨_, rfl⟩
      rw [← hA] at hsum1 hsum2
      -- the walk
      have hs1 : w1.heap.size = w.heap.size + 1 := by obtain ⟨q, rfl⟩ := Hs1.out; exact hs0
      have hT1 : TreeAt w1 T rt rm base nd := HT0.out.same' Hs1.out
      have ht1 : Boxed w1 w.heap.size 24 (.pointer (some ⟨T, 0, none⟩)) := by obtain ⟨q, rfl⟩ := Hs1.out; exact Ht0.out
      have hbl : ∀ b, NBlk rt rm nd b → b < w.heap.size ∧ b ≠ T := fun b hb => ⟨H.out.lt (H.out.nblk hb), fun e => by
        have htr := H.out.tr
        rw [← e] at htr
        rcases hb with rfl | rfl | ⟨z, hz, rfl | rfl⟩
        · rw [H.out.root] at htr; unfold nodeObj at htr; injection htr with htr; injection htr with _ htr _; cases htr
        · obtain ⟨es, c, hx⟩ := H.out.rmap.is_map; rw [hx] at htr; cases htr
        · rw [H.out.node z hz] at htr; unfold nodeObj at htr; injection htr with htr; injection htr with _ htr _; cases htr
        · obtain ⟨es, c, hx⟩ := (H.out.nmap z hz).is_map; rw [hx] at htr; cases htr⟩
      have hTl := heap_lt H.out.tr
      have hy2 : TakY T rt rm w1.heap.size w.heap.size nd (nd.length : Int) (bytesN nd : Int) base [] [T, w1.heap.size] (w1.alloc (.cells #[.int .i64 0] 3)) := by
        refine ⟨(hT1.nodes.same fun b hb => heap_alloc_old w1 _ (hT1.nodes.lt hb)), ⟨?_, Boxed.new _ _ _, ht1.alloc _⟩, ⟨Nat.zero_le _, rfl⟩, fun b hb => ⟨(hbl b hb).2, by have := (hbl b hb).1; omega⟩, by omega, by omega, by omega⟩
        rw [heap_alloc_old w1 _ (heap_lt hT1.tr), hT1.tr]
        simp [bytesE]
      have hYl := take_yields (rt := rt) (rm := rm) (nd := nd) T w1.heap.size w.heap.size (nd.length : Int) (bytesN nd : Int) base (by omega) (fun z hz => itselfNo_data (hgood.it z.e (List.mem_map.2 ⟨z, hz, rfl⟩)))
      have hlA : A.length ≤ 4096 := by omega
      have hwalk := walk_of hYl Tryz.take1Enters (m := 32) y hy (fun acc F W hN h => below_all hYl Tryz.take1Enters hgood.fine 32 (some y) hy (fun z hz => Nat.le_trans (hgood.deep z hz) (Nat.le_add_right _ _)) acc F W hN h) [] [T, w1.heap.size] _ (by
        have := hA ▸ hlA
        rw [hyp]
        simp only [List.length_cons, List.length_map, List.length_nil] at this ⊢
        omega) hy2
      rw [hyp, ← hA] at hwalk
      -- what stands behind
      obtain ⟨w2, hw2⟩ : ∃ x, x = w1.alloc (.cells #[.int .i64 0] 3) := ⟨_, rfl⟩
      rw [← hw2] at hwalk hy2 ⊢
      have old2 : ∀ (k : Nat), k < w.heap.size → w2.heap[k]? = w.heap[k]? := fun k hk => by
        rw [hw2, heap_alloc_old w1 _ (by omega)]
        obtain ⟨q, hq⟩ := Hs1.out
        rw [hq]
        show w0.heap[k]? = _
        exact Hb0.out.block k hk
      have wr : IntKind.i64.wrap ((nd.length : Int) - (A.length : Int)) = (nd.length : Int) - (A.length : Int) := by rw [IntKind.wrap_i64]; omega
      have mid : ∀ F' w3, TakY T rt rm w1.heap.size w.heap.size nd (nd.length : Int) (bytesN nd : Int) base ([] ++ A) F' w3 → But [T, w1.heap.size] w2 w3 →
          w3.drew.cell? ⟨w.heap.size, 0, none⟩ = some (.pointer (some ⟨T, 0, none⟩)) ∧ w3.drew.cell? ⟨T, 1, none⟩ = some (.int .i64 (nd.length : Int)) ∧ w3.drew.frozen? ⟨T, 1, none⟩ = false ∧ w3.drew.cell? ⟨w1.heap.size, 0, none⟩ = some (.int .i64 (A.length : Int)) ∧
          ∀ w4, w4 = w3.drew.setCell ⟨T, 1, none⟩ (.int .i64 ((nd.length : Int) - (A.length : Int))) → Root0 w4 T rt rm nd ∧ w4.cell? ⟨w.heap.size, 0, none⟩ = some (.pointer (some ⟨T, 0, none⟩)) ∧
            ∀ (n : Nat) (D : DataW Nat) (c : ByteArray) (w5 w6 : World), Same w4 w5 → c.data.toList = lastName p.data.toList → KidsD D nd (parent p.data.toList) → w6.ownsMap Tryz.prog 9 ptrElem (spotM rm o2) n (D.del (.string c.data.toList)) → w5.grownBy w6 (some (spotM rm o2)) → w6.cell? ⟨w1.heap.size, 0, none⟩ = some (.int .i64 (A.length : Int)) ∧ TakeR T rt rm base nd p.data.toList w (.returned (.tuple #[.int .i64 (A.length : Int), .nilIface])) w6 := by
        intro F' w3 hY3 hbut
        rw [List.nil_append] at hY3
        obtain ⟨hN3, ⟨hT3, hn3, ht3⟩, _, hne3, g1, g2, g3⟩ := hY3
        refine ⟨ht3.cell, (by show w3.cell? _ = _; unfold World.cell?; rw [hT3]; rfl), (by show w3.frozen? _ = _; unfold World.frozen?; rw [hT3]; rfl), hn3.cell, fun w4 hw4 => ?_⟩
        have t4 := heap_setCell_same w3.drew T 1 _ _ (.int .i64 ((nd.length : Int) - (A.length : Int))) hT3
        have o4 : ∀ (k : Nat), k ≠ T → w4.heap[k]? = w3.heap[k]? := fun k hk => by rw [hw4]; exact heap_setCell_other w3.drew ⟨T, 1, none⟩ k _ hk
        rw [← hw4] at t4
        have z4 : w4.heap.size = w3.heap.size := by rw [hw4]; simp
        have hN4 : NodesAt w4 rt rm nd := hN3.same fun b hb => o4 b (hne3 b hb).1
        refine ⟨⟨hwf, (by unfold World.cell?; rw [t4]; rfl), hN4⟩, (by have h := o4 w.heap.size (by omega); unfold World.cell?; rw [h, show w3.heap[w.heap.size]? = _ from ht3]; rfl), ?_⟩
        intro n D c w5 w6 hs5 hc hD hown hgr
        have hM : upM rm nd (parent p.data.toList) = spotM rm o2 := by
          obtain ⟨hin, hq⟩ := findO_in ho2
          by_cases hq0 : parent p.data.toList = []
          · unfold findO at ho2
            rw [if_pos hq0] at ho2
            injection ho2 with ho2
            subst ho2
            rw [hq0]
            exact upM_nil _ _
          · unfold findO at ho2
            rw [if_neg hq0] at ho2
            cases hl2 : lookN nd (parent p.data.toList) with
            | none => rw [hl2] at ho2; cases ho2
            | some z =>
              rw [hl2] at ho2
              injection ho2 with ho2
              subst ho2
              rw [upM_some hq0 hl2]
              rfl
        have hMb : NBlk rt rm nd (spotM rm o2) := by
          obtain ⟨hin, _⟩ := findO_in ho2
          cases o2 with
          | none => exact .inr (.inl rfl)
          | some z => exact .inr (.inr ⟨z, hin, .inr rfl⟩)
        have hMl := hbl _ hMb
        have o5 : ∀ (k : Nat), w5.heap[k]? = w4.heap[k]? := fun k => by obtain ⟨q, rfl⟩ := hs5; rfl
        have z5 : w5.heap.size = w4.heap.size := by obtain ⟨q, rfl⟩ := hs5; rfl
        have o6 : ∀ (k : Nat), k < w4.heap.size → k ≠ spotM rm o2 → w6.heap[k]? = w4.heap[k]? := fun k hk hkm => (hgr.block k (by omega) (fun e => hkm (Option.some.inj e))).trans (o5 k)
        have hTl4 : T < w4.heap.size := heap_lt t4
        have hnl := hn3.lt
        have t6 : w6.heap[T]? = some (.cells #[.pointer (some ⟨rt, 0, none⟩), .int .i64 ((withoutN nd p.data.toList).length : Int), .int .i64 (bytesN (withoutN nd p.data.toList) : Int)] 84 (0, 0)) := by
          rw [o6 T hTl4 (Ne.symm hMl.2), t4]
          have e1 : (nd.length : Int) - (A.length : Int) = ((withoutN nd p.data.toList).length : Int) := by omega
          have e2 : (bytesN nd : Int) - (bytesE A : Int) = (bytesN (withoutN nd p.data.toList) : Int) := by omega
          rw [← e1, ← e2]
          rfl
        have keep : ∀ (b : Nat), b < w.heap.size → b ≠ T → b ≠ spotM rm o2 → w6.heap[b]? = w.heap[b]? := fun b hb h1 h2 => by
          have hz2 : w.heap.size ≤ w2.heap.size := by rw [hw2]; simp; omega
          rw [o6 b (by have := hbut.size; omega) h2, o4 b h1, hbut.block b (by omega) (by simp only [List.mem_cons, List.not_mem_nil, or_false, not_or]; exact ⟨h1, by omega⟩), old2 b hb]
        rw [hc] at hown
        have htree := H.out.without hpn hup hD (by rw [hM]; exact hown) t6 (by rw [hM]; exact keep)
        have hz6 : w.heap.size ≤ w6.heap.size := by
          have hz2 : w.heap.size ≤ w2.heap.size := by rw [hw2]; simp; omega
          have := hbut.size
          have := hgr.size
          omega
        have hos : w6.os = w.os ∧ w6.tape = w.tape ∧ w6.output = w.output := by
          have e5 : w5.os = w4.os ∧ w5.tape = w4.tape ∧ w5.output = w4.output := by obtain ⟨q, rfl⟩ := hs5; exact ⟨rfl, rfl, rfl⟩
          have e4 : w4.os = w3.os ∧ w4.tape = w3.tape ∧ w4.output = w3.output := by rw [hw4]; exact ⟨rfl, rfl, rfl⟩
          have e2 : w2.os = w1.os ∧ w2.tape = w1.tape ∧ w2.output = w1.output := by rw [hw2]; exact ⟨rfl, rfl, rfl⟩
          have e1 : w1.os = w0.os ∧ w1.tape = w0.tape ∧ w1.output = w0.output := by obtain ⟨q, hq⟩ := Hs1.out; rw [hq]; exact ⟨rfl, rfl, rfl⟩
          exact ⟨(((((hgr.os.trans e5.1).trans e4.1).trans hbut.os).trans e2.1).trans e1.1).trans Hb0.out.os, (((((hgr.tape.trans e5.2.1).trans e4.2.1).trans hbut.tape).trans e2.2.1).trans e1.2.1).trans Hb0.out.tape, (((((hgr.output.trans e5.2.2).trans e4.2.2).trans hbut.output).trans e2.2.2).trans e1.2.2).trans Hb0.out.output⟩
        have hno0 : takeNo (ents nd) p.data.toList = 0 := hno
        refine ⟨?_, ?_, withoutN nd p.data.toList, ?_, htree, hos.1, hos.2.1, hos.2.2, hz6, fun k hk hnk => keep k hk (fun e => hnk (.inl e)) (fun e => hnk (H.out.nblk (e ▸ hMb))), fun b hb => ?_⟩
        · have h1 : w6.heap[w1.heap.size]? = w3.heap[w1.heap.size]? := by
            rw [o6 _ (by omega) (by omega), o4 _ (by omega)]
          unfold World.cell?
          rw [h1, show w3.heap[w1.heap.size]? = _ from hn3]
          rfl
        · have e1 : takeN (ents nd) p.data.toList = A.length := by
            unfold takeN
            rw [if_pos hno0, ← ents_without, ents_length, ents_length]
            omega
          rw [e1, hno0]
          rfl
        · unfold takeL
          rw [if_pos hno0, ents_without]
        · rcases hb with hb | hb | hb | ⟨z, hz, hb⟩
          · exact .inl (.inl hb)
          · exact .inl (.inr (.inl hb))
          · exact .inl (.inr (.inr (.inl hb)))
          · exact .inl (.inr (.inr (.inr ⟨z, (List.mem_filter.1 hz).1, hb⟩)))
      have hpar := fun W => parent_any p W hp
      have hla := fun W => last_any p W hp
      have hpl : (bs (parent p.data.toList)).size < 4611686018427387904 := by
        have : (parent p.data.toList).length ≤ p.data.toList.length := by unfold parent; simp; omega
        rw [← Lib.size_eq] at this
        rw [bs_size]; omega
      have hle : (bs (lastName p.data.toList)).size ≤ maxLen := by
        have : (lastName p.data.toList).length ≤ p.data.toList.length := by unfold lastName; simp
        rw [← Lib.size_eq] at this
        rw [bs_size]; unfold maxLen; omega
      have hfr := fun W (hW : Root0 W T rt rm nd) => find_raw (bs (parent p.data.toList)) W hW hpl
      rw [bs_toList, ho2, spotP_some] at hfr
      have hsp := fun W (hW : Root0 W T rt rm nd) => (show W.cell? ⟨spotB rt o2, 5, none⟩ = some (.map (some (spotM rm o2))) ∧ ∃ n D, W.ownsMap Tryz.prog 9 ptrElem (spotM rm o2) n D ∧ KidsD D nd (parent p.data.toList) from by
        obtain ⟨hin, hq⟩ := findO_in ho2
        obtain ⟨h1, n, D, h2, _, h3⟩ := hW.spot hin
        exact ⟨(node_cells h1).2.2.2.2.2, n, D, h2, hq ▸ h3⟩)
      have Hwalk := Lib.hid hwalk
      have Hmid := Lib.hid mid
      have Hpar := Lib.hid hpar
      have Hla := Lib.hid hla
      have Hle := Lib.hid hle
      have Hfr := Lib.hid hfr
      have Hsp := Lib.hid hsp
      generalize spotB rt o2 = U at *
      generalize spotM rm o2 = M at *
      generalize w1.heap.size = nB at *
      generalize A.length = al at *
      clear hwalk mid hpar hla hle hpl hfr hsp hy2 hYl old2 hw2 hsum1 hsum2 hA hbyt hlen hs1 hT1 ht1 hbl hTl hlA ho2 hup hpn hwf hgood hy hyp hl hno h0 c1 c0 Hs1 Hf
      go_wp2_with (first
        | (go_at_call 60; refine Hwalk.out.mono ?_; rintro r w3 ⟨rfl, F', hY3, hbut, _⟩
           obtain ⟨d1, d2, d3, d4, d5⟩ := Hmid.out F' w3 hY3 hbut
           have D5 := Lib.hid d5
           clear hY3 hbut d5))
      go_still_tail 8, (by kernel_rfl)
      go_wp2_with fail
      obtain ⟨w4, hw4⟩ : ∃ x, x = (w3.setCell ⟨T, 1, none⟩ (.int .i64 ((nd.length : Int) - (al : Int)))).drew := ⟨_, rfl⟩
      obtain ⟨hroot, hc4, hfin⟩ := D5.out w4 (hw4.trans rfl)
      rw [← hw4]
      have hc4d : w4.drew.cell? ⟨w.heap.size, 0, none⟩ = some (.pointer (some ⟨T, 0, none⟩)) := hc4
      have Hroot := Lib.hid (hroot.same' ⟨1, rfl⟩ : Root0 w4.drew T rt rm nd)
      have Hfin := Lib.hid hfin
      clear hw4 hroot hfin D5 d1 d2 d3 d4 Hwalk Hmid
      go_region_law (first
        | (refine step_delete_kid (by rfl) _ _ (by rfl) M n D (by rfl) HO.out (bs (lastName p.data.toList)) (by rfl) Hle.out ?_
           intro w6 hown6 hgr6
           obtain ⟨cn, hT⟩ := Hfin.out n D (bs (lastName p.data.toList)) w5 w6 HS5.out rfl HD.out hown6 hgr6
           have HR := Lib.hid hT
           clear hown6 hgr6 hT)
        | (go_simp; go_at_call 34; refine (Hpar.out _).mono ?_; rintro r wq ⟨rfl, rfl⟩)
        | (go_simp; go_at_call 40; refine (Hfr.out w4.drew Hroot.out).mono ?_; rintro r w5 ⟨rfl, hs5⟩
           obtain ⟨c5, n, D, ho5, hD5⟩ := Hsp.out w5 (Hroot.out.same' hs5)
           have HO := Lib.hid ho5
           have HD := Lib.hid hD5
           have HS5 := Lib.hid (same_same ⟨1, rfl⟩ hs5 : Same w4 w5)
           clear ho5 hD5 hs5)
        | (go_simp; go_at_call 52; refine (Hla.out _).mono ?_; rintro r wq ⟨rfl, rfl⟩))
      all_goals go_wp2_with fail
      all_goals go_ret2
      all_goals exact HR.out
end Go.Proofs.YtdkodedocklmdaaGreat
