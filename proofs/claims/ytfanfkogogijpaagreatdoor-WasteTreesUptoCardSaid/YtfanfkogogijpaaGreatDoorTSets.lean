/- set, Size, full of a path that is there (TSetA, TSet, TPut, TSetO). -/
import Derived.Test.YtfanfkogogijpaaGreatDoorTReach
import Derived.Test.YtfanfkogogijpaaGreatDoorTStand
import Derived.Maps.AppendAt
import Derived.Deep.DeepCutAuto
import Derived.Deep.CutBlock
import Derived.StillTailTactics
import Derived.Deep.MidRow
set_option linter.unusedSimpArgs false
set_option linter.unusedVariables false
namespace Go.Proofs.YtfanfkogogijpaaGreatDoor
section
open Go.RowKit Go.Maps
open Go.Lib hiding intOf
theorem step_mapUpdate_kid {w : World} {ops : Array Oper} {o : Oper} {a : Act} {K : Act → World → Prop} {Q : Exit → Act → World → Prop} {X : Prop}
    (hg : o.guard = none) (m x v : Operand) (hop : o.op = Op.mapUpdate 87 m x v)
    (b n : Nat) (D : DataW Nat) (hm : a.eval m = .map (some b)) (hown : w.ownsMap Tryz.prog 9 ptrElem b n D) (hn : n < maxLen) (c : ByteArray) (hx : a.eval x = .string c) (hc : c.size ≤ maxLen) (y : Nat) (hv : a.eval v = .pointer (some ⟨y, 0, none⟩))
    (hK : ∀ w2, w2.ownsMap Tryz.prog 9 ptrElem b (n + 1) (D.put (.string c.data.toList) (.lit (.int .i64 (y : Int)))) → w.grownBy w2 (some b) → K (a.put o.dst undef) w2) :
    if Region.wanted o (yielded ops a.tmps) = true then Oper.wp Tryz.prog o a w K Q else X := by
  have hw : Region.wanted o (yielded ops a.tmps) = true := by simp [Region.wanted, hg]
  rw [if_pos hw]
  obtain ⟨w2, hrun, r1, r2⟩ := hown.update Tryz.keyed_str Tryz.underlying87 hn (key := .string c) (val := .pointer (some ⟨y, 0, none⟩)) (d := .lit (.int .i64 (y : Int))) (ps := []) (key_text hc) rfl
  unfold Oper.wp
  simp [execOp, hop, hm, hx, hv, hrun, Result.andThen]
  exact hK w2 r1 r2
theorem step_load_at {P : Program} {w : World} {ops : Array Oper} {o : Oper} {a : Act} {K : Act → World → Prop} {Q : Exit → Act → World → Prop} {X : Prop} (hg : o.guard = none) (ty : TypeId) (x : Operand) (ho : o.op = .load ty x)
    (p : Addr) (hx : a.eval x = .pointer (some p)) (cs : List Value) (d : TypeDesc) (hc : ∀ j v, cs[j]? = some v → w.cell? (p.add j) = some v)
    (hu : P.underlying ty = some d) (hd : (match d with | .struct _ | .array _ _ => true | _ => false) = true) (hi : (P.info? ty).map (·.size) = some cs.length)
    (h : K (a.put o.dst (.agg cs.toArray)) w) : if Region.wanted o (yielded ops a.tmps) = true then Oper.wp P o a w K Q else X := by
  rw [if_pos (by simp [Region.wanted, hg])]
  exact wp_load_at ty x ho p hx cs d hc hu hd hi h
theorem step_load_row {P : Program} {w : World} {ops : Array Oper} {o : Oper} {a : Act} {K : Act → World → Prop} {Q : Exit → Act → World → Prop} {X : Prop} (hg0 : o.guard = none) (ty : TypeId) (x : Operand) (ho : o.op = .load ty x)
    (g : Nat) (hx : a.eval x = .pointer (some ⟨g, 0, none⟩)) (t : TypeId) (cs : Array Value) (fr : Nat × Nat) (d : TypeDesc) (hg : w.heap[g]? = some (.cells cs t fr))
    (hu : P.underlying ty = some d) (hd : (match d with | .struct _ | .array _ _ => true | _ => false) = true) (hi : (P.info? ty).map (·.size) = some cs.size)
    (h : K (a.put o.dst (.agg cs)) w) : if Region.wanted o (yielded ops a.tmps) = true then Oper.wp P o a w K Q else X := by
  rw [if_pos (by simp [Region.wanted, hg0])]
  exact wp_load_row ty x ho g hx t cs fr d hg hu hd hi h
/-- the cells of an entry in a block of its own -/
theorem ent_cells {w : World} {b : Nat} {e : Ent} {t : TypeId} (h : w.heap[b]? = some (.cells (entC e).toArray t (0, 0))) : ∀ j v, (entC e)[j]? = some v → w.cell? ((⟨b, 0, none⟩ : Addr).add j) = some v := by
  intro j v hv
  have : (⟨b, 0, none⟩ : Addr).add j = ⟨b, j, none⟩ := by unfold Addr.add; split <;> simp_all
  rw [this]
  unfold World.cell?
  rw [h]
  simpa using hv
/-- what set makes of a tree -/
theorem TreeAt.set {w w1 w2 w3 : World} {T rt rm base : Nat} {nd : List Nd} (h : TreeAt w T rt rm base nd) {e : Ent} (hg : Good (laidL (ents nd) e)) (hnew : lookE (ents nd) e.path = none) {o : Option Nd} (ho : findO nd (parent e.path) = some o) {n b m : Nat} {D : DataW Nat}
    (hD : KidsD D nd (parent e.path)) (hn : n ≤ nd.length) (hb : w.heap.size ≤ b) (hm : w.heap.size ≤ m) (hm0 : w.ownsMap Tryz.prog 9 ptrElem (spotM rm o) n D)
    (hsz : w.heap.size ≤ w1.heap.size) (hs : ∀ k, k < w.heap.size → w1.heap[k]? = w.heap[k]?) (h1b : w1.heap[b]? = some (nodeObj e m)) (h1m : w1.ownsMap Tryz.prog 9 ptrElem m 0 (.map []))
    (hown : w2.ownsMap Tryz.prog 9 ptrElem (spotM rm o) (n + 1) (D.put (.string (lastName e.path)) (.lit (.int .i64 (b : Int))))) (hgr : w1.grownBy w2 (some (spotM rm o)))
    (h3 : w3 = (w2.setCell ⟨T, 1, none⟩ (.int .i64 ((nd.length : Int) + 1))).setCell ⟨T, 2, none⟩ (.int .i64 ((bytesN nd : Int) + (e.d.size : Int)))) :
    ∃ y : Nd, y.e = e ∧ (w.heap.size ≤ y.b ∧ w.heap.size ≤ y.m) ∧ TreeAt w3 T rt rm base (laidN nd y) ∧ w3.heap.size = w2.heap.size ∧ ∀ k, k < w.heap.size → ¬ IsBlk T rt rm nd k → w3.heap[k]? = w.heap[k]? := by
  obtain ⟨hin, hq⟩ := findO_in ho
  have hup : upM rm nd (parent e.path) = spotM rm o := by
    unfold findO at ho
    unfold upM
    by_cases h0 : parent e.path = []
    · rw [if_pos h0] at ho ⊢
      injection ho with ho
      subst ho
      rfl
    · rw [if_neg h0] at ho ⊢
      cases hl : lookN nd (parent e.path) with
      | none => rw [hl] at ho; cases ho
      | some z =>
        rw [hl] at ho
        injection ho with ho
        subst ho
        rfl
  have hspot := h.spot hin
  have hM : spotM rm o < w.heap.size := hspot.2.lt
  have hMT : T ≠ spotM rm o := fun e2 => by
    obtain ⟨es, c, hx⟩ := hspot.2.is_map
    rw [← e2, h.tr] at hx
    cases hx
  have hT := heap_lt h.tr
  have t2 : w2.heap[T]? = some (.cells #[.pointer (some ⟨rt, 0, none⟩), .int .i64 (nd.length : Int), .int .i64 (bytesN nd : Int)] 91 (0, 0)) := by
    rw [hgr.block T (by omega) (fun e2 => hMT (by injection e2)), hs T hT]
    exact h.tr
  have t3 : w3.heap[T]? = some (.cells #[.pointer (some ⟨rt, 0, none⟩), .int .i64 ((nd.length : Int) + 1), .int .i64 ((bytesN nd : Int) + (e.d.size : Int))] 91 (0, 0)) := by
    have a1 := heap_setCell_same w2 T 1 _ _ (.int .i64 ((nd.length : Int) + 1)) t2
    have a2 := heap_setCell_same _ T 2 _ _ (.int .i64 ((bytesN nd : Int) + (e.d.size : Int))) a1
    rw [h3, a2]
    rfl
  have oth : ∀ k, k ≠ T → w3.heap[k]? = w2.heap[k]? := fun k hk => by
    rw [h3, heap_setCell_other _ _ _ _ hk, heap_setCell_other _ _ _ _ hk]
  have hbT : b ≠ T := by omega
  have hmT : m ≠ T := by omega
  have hb1 : b < w1.heap.size := heap_lt h1b
  have hm1 : m < w1.heap.size := h1m.lt
  have hpne : ∀ x ∈ nd, x.e.path ≠ e.path := fun x hx => lookE_none hnew x.e (List.mem_map.2 ⟨x, hx, rfl⟩)
  have hperm : (nd ++ [(⟨e, b, m⟩ : Nd)]).Perm (laidN nd ⟨e, b, m⟩) := laidN_new (y := ⟨e, b, m⟩) hpne
  have hgN : Good (ents (laidN nd ⟨e, b, m⟩)) := by rw [ents_laid]; exact hg
  have hw2 : Wf (nd ++ [(⟨e, b, m⟩ : Nd)]) := hgN.wf.perm hperm.symm
  have hlen : (laidN nd ⟨e, b, m⟩).length = nd.length + 1 := by rw [← hperm.length_eq]; simp
  have hbyt : bytesN (laidN nd ⟨e, b, m⟩) = bytesN nd + e.d.size := by
    unfold bytesN
    rw [ents_laid]
    exact (laid_len_new hnew).2
  have hno : kidN nd (parent e.path) (lastName e.path) = none := by
    rw [kid_look h.wf.ok (last_no47 _), ← (hw2.ok ⟨e, b, m⟩ (by simp)).is_join]
    cases hl : lookN nd e.path with
    | none => rfl
    | some z => exact absurd (lookN_some hl).2 (hpne z (lookN_some hl).1)
  refine ⟨⟨e, b, m⟩, rfl, ⟨hb, hm⟩, ((h.addRaw hw2 ?_ ?_ ?_ ?_ hb hm).perm hperm).tree hgN (by rw [t3, hlen, hbyt]; simp), by rw [h3]; simp, fun k hk hnk => ?_⟩
  · rw [show parent (⟨e, b, m⟩ : Nd).e.path = parent e.path from rfl, hup]
    obtain ⟨es, ck, q1, q2⟩ := hown
    refine ⟨n + 1, _, ⟨es, ck, (oth _ hMT.symm).trans q1, q2⟩, by simp; omega, ?_⟩
    exact KidsD.put (y := ⟨e, b, m⟩) hD hm0.isMap rfl hno
  · rw [oth b hbT, hgr.block b hb1 (fun e2 => by injection e2 with e2; omega)]
    exact h1b
  · obtain ⟨es, ck, q1, q2⟩ := h1m
    refine ⟨es, ck, ?_, q2⟩
    rw [oth m hmT, hgr.block m hm1 (fun e2 => by injection e2 with e2; omega)]
    exact q1
  · intro k hk hkT hkm
    rw [show parent (⟨e, b, m⟩ : Nd).e.path = parent e.path from rfl, hup] at hkm
    rw [oth k hkT, hgr.block k (by omega) (fun e2 => hkm (by injection e2)), hs k hk]
  · have hkT : k ≠ T := fun e2 => hnk (.inl e2)
    have hkm : k ≠ spotM rm o := fun e2 => by
      cases o with
      | none => exact hnk (.inr (.inr (.inl e2)))
      | some z => exact hnk (.inr (.inr (.inr ⟨z, hin, .inr e2⟩)))
    rw [oth k hkT, hgr.block k (by omega) (fun e2 => hkm (by injection e2)), hs k hk]
end
section
open Go.RowKit Go.Maps
open Go.Lib hiding intOf
set_option maxRecDepth 100000 in
set_option maxHeartbeats 4000000 in
theorem set_any {T rt rm base : Nat} {nd : List Nd} (e : Ent) (o : Option Nd) (w : World) (h : TreeAt w T rt rm base nd) (hg : Good (laidL (ents nd) e)) (hnew : lookE (ents nd) e.path = none) (ho : findO nd (parent e.path) = some o) (hp : e.p.size < 4611686018427387904) (hd : e.d.size < 4611686018427387904) :
    Calls Tryz.prog 23 #[.pointer (some ⟨T, 0, none⟩), .pointer (some ⟨spotB rt o, 0, none⟩), entV e] w fun r w' => r = .returned (.tuple #[]) ∧ ∃ y : Nd, y.e = e ∧ (w.heap.size ≤ y.b ∧ w.heap.size ≤ y.m) ∧ TreeAt w' T rt rm base (laidN nd y) ∧ w'.os = w.os ∧ w'.tape = w.tape ∧ w'.output = w.output ∧ w.heap.size ≤ w'.heap.size ∧ ∀ k, k < w.heap.size → ¬ IsBlk T rt rm nd k → w'.heap[k]? = w.heap[k]? := by
  show Calls _ _ #[.pointer (some ⟨T, 0, none⟩), .pointer (some ⟨spotB rt o, 0, none⟩), .agg (entC e).toArray] _ _
  have hmm := @run_makeMap Tryz.prog
  have hla := fun W => last_any e.p W hp
  have hle : (bs (lastName e.p.data.toList)).size ≤ maxLen := by
    have : (lastName e.p.data.toList).length ≤ e.p.data.toList.length := by unfold lastName; simp
    rw [← Lib.size_eq] at this
    rw [bs_size]; unfold maxLen; omega
  obtain ⟨hin, hq⟩ := findO_in ho
  have hen := checkNo_neat (itselfNo_check (hg.it e ((mem_laid h.good.inc).2 (.inl rfl))))
  have hno : kidN nd (spotQ o) (lastName e.path) = none := by
    rw [hq, kid_look h.wf.ok (last_no47 _), ← hen.is_join]
    rw [lookE_N] at hnew
    cases hl : lookN nd e.path with
    | none => rfl
    | some z => rw [hl] at hnew; cases hnew
  have hno2 : kidN nd (spotQ o) (bs (lastName e.p.data.toList)).data.toList = none := hno
  have hspot := h.spot hin
  obtain ⟨n, D, hm0, hn, hD⟩ := hspot.2
  rw [hq] at hD
  have hgood2 := hg.len
  have hby2 := hg.byt
  rw [(laid_len_new hnew).1, ents_length] at hgood2
  rw [(laid_len_new hnew).2, show bytesE (ents nd) = bytesN nd from rfl] at hby2
  -- the worlds in which region 6 runs
  obtain ⟨w0, hw0⟩ : ∃ x, x = w.alloc (.cells (entC e).toArray 33) := ⟨_, rfl⟩
  have hsz0 : w0.heap.size = w.heap.size + 1 := by rw [hw0]; simp
  have hold0 : ∀ k, k < w.heap.size → w0.heap[k]? = w.heap[k]? := fun k hk => by rw [hw0]; exact heap_alloc_old w _ hk
  have hbx : w0.heap[w.heap.size]? = some (.cells (entC e).toArray 33 (0, 0)) := by rw [hw0]; exact World.alloc_heap_new w _
  have hupb : spotB rt o < w.heap.size := heap_lt hspot.1
  have hup0 : w0.heap[spotB rt o]? = some (nodeObj (spotE o) (spotM rm o)) := (hold0 _ hupb).trans hspot.1
  have c5 := (node_cells hup0).2.2.2.2.2
  have cp : w0.cell? ⟨w.heap.size, 0, none⟩ = some (.string e.p) := by unfold World.cell?; rw [hbx]; rfl
  have hka : KidsAt w0 (spotM rm o) nd (spotQ o) := hspot.2.block (fun es c hx => (hold0 _ (heap_lt hx)).trans hx)
  have Hla := Lib.hid hla
  have Hle := Lib.hid hle
  have Hno := Lib.hid hno2
  have Hka := Lib.hid hka
  clear hla hle hno hno2 hka hspot hen
  have HT := Lib.hid h
  have Hg := Lib.hid hg
  have Hnew := Lib.hid hnew
  have Ho := Lib.hid ho
  have Hm0 := Lib.hid hm0
  have HD := Lib.hid hD
  have Hin := Lib.hid hin
  have Hw0 := Lib.hid hw0
  have Hold := Lib.hid hold0
  have Hbx := Lib.hid hbx
  have Hup0 := Lib.hid hup0
  have Hq := Lib.hid hq
  clear h hg hnew ho hm0 hD hin hold0 hbx hup0 hq hw0
  go_enter Tryz.func23, Tryz.ntmps23
  go_upto_region 1 with fail
  rw [← Hw0.out]
  generalize spotB rt o = U at *
  generalize hM : spotM rm o = M at *
  have HMe := Lib.hid hM
  clear hM
  go_wp2_with (first
    | (go_at_call 41; refine (Hla.out _).mono ?_; rintro r w1 ⟨rfl, rfl⟩)
    | (at_lookup; refine wpList_lookup_kid rfl _ _ rfl M nd (spotQ o) rfl Hka.out _ rfl Hle.out ?_; rw [Hno.out]; change wpList _ _ _ _ (Act.put _ _ (.pointer none)) _))
  have hU : ∀ W : World, (∀ k, k < w0.heap.size → W.heap[k]? = w0.heap[k]?) → W.cell? ⟨U, 5, none⟩ = some (.map (some M)) := fun W hW => by
    unfold World.cell? at c5 ⊢
    rw [hW U (by omega)]
    exact c5
  have ea : ∀ k, k < w0.heap.size → (w0.alloc (.map #[] 0)).heap[k]? = w0.heap[k]? := fun k hk => heap_alloc_old w0 _ hk
  have eb : ∀ k, k < w0.heap.size → ((w0.alloc (.map #[] 0)).alloc (.cells #[.string e.p, .int .i64 e.k, .int .i64 e.m, .string e.d, .string e.l, .map (some w0.heap.size)] 89)).heap[k]? = w0.heap[k]? := fun k hk => (heap_alloc_old _ _ (by simp; omega)).trans (ea k hk)
  have c5a := hU _ ea
  have c5b := hU _ eb
  have hbx0 : w0.drew.heap[w.heap.size]? = some (.cells #[.string e.p, .int .i64 e.k, .int .i64 e.m, .string e.d, .string e.l] 33 (0, 0)) := Hbx.out
  have hbx1 : (w0.alloc (.map #[] 0)).drew.heap[w.heap.size]? = some (.cells #[.string e.p, .int .i64 e.k, .int .i64 e.m, .string e.d, .string e.l] 33 (0, 0)) := (ea _ (by omega)).trans Hbx.out
  have hbx2 := (eb _ (by omega)).trans Hbx.out
  have hmw : ((w0.alloc (.map #[] 0)).alloc (.cells #[.string e.p, .int .i64 e.k, .int .i64 e.m, .string e.d, .string e.l, .map (some w0.heap.size)] 89)).drew.ownsMap Tryz.prog 9 ptrElem M n D := by
    obtain ⟨es, ck, q1, q2⟩ := Hm0.out
    exact ⟨es, ck, (eb _ (by have := heap_lt q1; omega)).trans ((Hold.out _ (heap_lt q1)).trans q1), q2⟩
  have hm1 : ((w0.alloc (.map #[] 0)).alloc (.cells #[.string e.p, .int .i64 e.k, .int .i64 e.m, .string e.d, .string e.l, .map (some w0.heap.size)] 89)).ownsMap Tryz.prog 9 ptrElem w0.heap.size 0 (.map []) := (World.ownsMap_made w0 _ _ _).alloc _
  have hb1 : ((w0.alloc (.map #[] 0)).alloc (.cells #[.string e.p, .int .i64 e.k, .int .i64 e.m, .string e.d, .string e.l, .map (some w0.heap.size)] 89)).heap[w0.heap.size + 1]? = some (nodeObj e w0.heap.size) := by
    have h := World.alloc_heap_new (w0.alloc (.map #[] 0)) (.cells #[.string e.p, .int .i64 e.k, .int .i64 e.m, .string e.d, .string e.l, .map (some w0.heap.size)] 89)
    rw [show (w0.alloc (.map #[] 0)).heap.size = w0.heap.size + 1 by simp] at h
    exact h
  have hs1 : ∀ k, k < w.heap.size → ((w0.alloc (.map #[] 0)).alloc (.cells #[.string e.p, .int .i64 e.k, .int .i64 e.m, .string e.d, .string e.l, .map (some w0.heap.size)] 89)).drew.heap[k]? = w.heap[k]? := fun k hk => (eb k (by omega)).trans (Hold.out k hk)
  have hz1 : ((w0.alloc (.map #[] 0)).alloc (.cells #[.string e.p, .int .i64 e.k, .int .i64 e.m, .string e.d, .string e.l, .map (some w0.heap.size)] 89)).drew.heap.size = w0.heap.size + 2 := by simp
  have htr := HT.out.tr
  have htl := heap_lt htr
  have fin : ∀ w3 : World, w3.ownsMap Tryz.prog 9 ptrElem M (n + 1) (D.put (.string (lastName e.path)) (.lit (.int .i64 ((w0.heap.size + 1 : Nat) : Int)))) → ((w0.alloc (.map #[] 0)).alloc (.cells #[.string e.p, .int .i64 e.k, .int .i64 e.m, .string e.d, .string e.l, .map (some w0.heap.size)] 89)).drew.grownBy w3 (some M) →
      w3.frozen? ⟨T, 1, none⟩ = false ∧ w3.cell? ⟨T, 1, none⟩ = some (.int .i64 (nd.length : Int)) ∧ (∀ w4, w4 = w3.setCell ⟨T, 1, none⟩ (.int .i64 ((nd.length : Int) + 1)) → w4.drew.frozen? ⟨T, 2, none⟩ = false ∧ w4.drew.cell? ⟨T, 2, none⟩ = some (.int .i64 (bytesN nd : Int)) ∧ w4.drew.cell? ⟨w.heap.size, 3, none⟩ = some (.string e.d) ∧ w4.frozen? ⟨T, 2, none⟩ = false ∧ w4.cell? ⟨T, 2, none⟩ = some (.int .i64 (bytesN nd : Int)) ∧ w4.cell? ⟨w.heap.size, 3, none⟩ = some (.string e.d)) ∧
      ∀ w4, w4 = (w3.setCell ⟨T, 1, none⟩ (.int .i64 ((nd.length : Int) + 1))).setCell ⟨T, 2, none⟩ (.int .i64 ((bytesN nd : Int) + (e.d.size : Int))) →
        ∃ y : Nd, y.e = e ∧ (w.heap.size ≤ y.b ∧ w.heap.size ≤ y.m) ∧ TreeAt w4.drew T rt rm base (laidN nd y) ∧ w4.drew.os = w.os ∧ w4.drew.tape = w.tape ∧ w4.drew.output = w.output ∧ w.heap.size ≤ w4.drew.heap.size ∧ ∀ k, k < w.heap.size → ¬ IsBlk T rt rm nd k → w4.drew.heap[k]? = w.heap[k]? := by
    intro w3 hown hgr
    have hM2 := HMe.out
    subst hM2
    have hMlt := Hm0.out.lt
    have hMT : T ≠ spotM rm o := fun e2 => by
      obtain ⟨es, c, hx, _⟩ := Hm0.out
      rw [← e2, htr] at hx
      cases hx
    have t3 : w3.heap[T]? = some (.cells #[.pointer (some ⟨rt, 0, none⟩), .int .i64 (nd.length : Int), .int .i64 (bytesN nd : Int)] 91 (0, 0)) := by
      rw [hgr.block T (by omega) (fun e2 => hMT (by injection e2)), hs1 T htl]
      exact htr
    have b3 : w3.heap[w.heap.size]? = some (.cells (entC e).toArray 33 (0, 0)) := by
      rw [hgr.block _ (by omega) (fun e2 => by injection e2 with e2; omega)]
      exact hbx2
    refine ⟨by unfold World.frozen?; rw [t3]; rfl, by unfold World.cell?; rw [t3]; rfl, fun w4 hw4 => ?_, fun w4 hw4 => ?_⟩
    · have t4 := heap_setCell_same w3 T 1 _ _ (.int .i64 ((nd.length : Int) + 1)) t3
      have b4 := (heap_setCell_other w3 ⟨T, 1, none⟩ w.heap.size (.int .i64 ((nd.length : Int) + 1)) (by show w.heap.size ≠ T; omega)).trans b3
      rw [← hw4] at t4 b4
      have r1 : w4.frozen? ⟨T, 2, none⟩ = false := by unfold World.frozen?; rw [t4]; rfl
      have r2 : w4.cell? ⟨T, 2, none⟩ = some (.int .i64 (bytesN nd : Int)) := by unfold World.cell?; rw [t4]; rfl
      have r3 : w4.cell? ⟨w.heap.size, 3, none⟩ = some (.string e.d) := by unfold World.cell?; rw [b4]; rfl
      exact ⟨r1, r2, r3, r1, r2, r3⟩
    obtain ⟨y, q1, qb, q2, q3, q4⟩ := HT.out.set Hg.out Hnew.out Ho.out HD.out hn (b := w0.heap.size + 1) (m := w0.heap.size) (by omega) (by omega) Hm0.out (by omega) hs1 hb1 hm1 hown hgr hw4
    have o1 : w0.os = w.os := by rw [Hw0.out]; rfl
    have o2 : w0.tape = w.tape := by rw [Hw0.out]; rfl
    have o3 : w0.output = w.output := by rw [Hw0.out]; rfl
    refine ⟨y, q1, qb, q2.same (fun _ _ => rfl), ?_, ?_, ?_, ?_, q4⟩
    · rw [hw4]; exact hgr.os.trans o1
    · rw [hw4]; exact hgr.tape.trans o2
    · rw [hw4]; exact hgr.output.trans o3
    · show w.heap.size ≤ w4.heap.size; rw [q3]; have := hgr.size; omega
  have Fin := Lib.hid fin
  have Hmw := Lib.hid hmw
  have Hbx0 := Lib.hid hbx0
  have Hbx1 := Lib.hid hbx1
  clear fin hmw hbx0 hbx1 hbx2 hm1 hb1 hs1 hz1 htr hU ea eb hsz0
  refine wp_region_any (by kernel_rfl) ?_
  change wpAny _ _ _ _ _ _ _ (World.drew w0)
  refine wpAny_take (i := 0) (v := .pointer (some ⟨U, 0, none⟩)) rfl (by kernel_rfl) (by kernel_rfl) (by kernel_rfl) (fun _ _ _ h => h) (Or.inl ⟨by rfl, fun w => by go_simp⟩) ?_
  refine wpAny_take (i := 1) (v := .pointer (some ⟨U, 0, none⟩)) rfl (by kernel_rfl) (by kernel_rfl) (by kernel_rfl) (fun _ _ _ h => h) (Or.inl ⟨by rfl, fun w => by go_simp⟩) ?_
  refine wpAny_take (i := 2) (v := .pointer (some ⟨U, 5, none⟩)) rfl (by kernel_rfl) (by kernel_rfl) (by kernel_rfl) (fun _ _ _ h => h) (Or.inl ⟨by rfl, fun w => by go_simp⟩) ?_
  refine wpAny_take (i := 4) (v := .string (bs (lastName e.p.data.toList))) rfl (by kernel_rfl) (by kernel_rfl) (by kernel_rfl) (fun _ _ _ h => h) (Or.inl ⟨by rfl, fun w => by go_simp⟩) ?_
  refine wpAny_ready (rs := [3, 5, 6]) (by kernel_rfl) (by simp) ?_
  refine AllReady.cons rfl (fun J hJ => ?_) (AllReady.cons rfl (fun J hJ => ?_) (AllReady.cons rfl (fun J hJ => ?_) AllReady.nil))
  · go_simp
    refine hJ _ _ ?_
    clear hJ J
    refine wpAny_ready (rs := [5, 6]) (by kernel_rfl) (by simp) ?_
    refine AllReady.cons rfl (fun J hJ => ?_) (AllReady.cons rfl (fun J hJ => ?_) AllReady.nil)
    · refine step_load_row rfl _ _ rfl w.heap.size rfl 33 #[.string e.p, .int .i64 e.k, .int .i64 e.m, .string e.d, .string e.l] (0, 0) _ Hbx0.out Tryz.underlying33 rfl (by kernel_rfl) ?_
      refine hJ _ _ ?_
      clear hJ J
      refine wpAny_ready (rs := [6]) (by kernel_rfl) (by simp) ?_
      refine AllReady.cons rfl (fun J hJ => ?_) AllReady.nil
      go_simp
      refine hJ _ _ ?_
      clear hJ J
      refine wpAny_take (i := 7) (v := .agg #[.string e.p, .int .i64 e.k, .int .i64 e.m, .string e.d, .string e.l, .map (some w0.heap.size)]) rfl (by kernel_rfl) (by kernel_rfl) (by kernel_rfl) (fun _ _ _ h => h) (Or.inl ⟨by rfl, fun w => by go_simp⟩) ?_
      refine wpAny_ready (rs := [8]) (by kernel_rfl) (by simp) ?_
      refine AllReady.cons rfl (fun J hJ => ?_) AllReady.nil
      go_simp
      refine hJ _ _ ?_
      clear hJ J
      refine wpAny_ready (rs := [9]) (by kernel_rfl) (by simp) ?_
      refine AllReady.cons (o := { dst := none, op := .mapUpdate 87 (.tmp 43) (.tmp 44) (.tmp 48), type := _, pos := _, after := _, guard := none }) rfl (fun J hJ => ?_) AllReady.nil
      refine step_mapUpdate_kid rfl _ _ _ rfl M n D rfl Hmw.out (by unfold maxLen; omega) (bs (lastName e.p.data.toList)) rfl Hle.out (w0.heap.size + 1) rfl ?_
      intro w3 hown3 hgr3
      obtain ⟨fz1, t1, hf4, hf⟩ := Fin.out w3 hown3 hgr3
      have Hf := Lib.hid hf
      have Hf4 := Lib.hid hf4
      clear hf hf4 hown3 hgr3
      go_simp
      refine hJ _ _ ?_
      clear hJ J
      refine wpAny_done (by kernel_rfl) ?_ _
      go_wp2_with fail
      obtain ⟨w4, hw4⟩ : ∃ y, y = w3.setCell ⟨T, 1, none⟩ (.int .i64 ((nd.length : Int) + 1)) := ⟨_, rfl⟩
      obtain ⟨u1, u2, u3, u4, u5, u6⟩ := Hf4.out w4 hw4
      have Hw4 := Lib.hid hw4
      rw [← hw4]
      clear hw4
      go_still_tail 10, (by kernel_rfl)
      go_wp2_with fail
      refine bodyPost_end (results_none rfl _ _ _) rfl ⟨rfl, ?_⟩
      exact Hf.out _ (by rw [Hw4.out])
    · go_simp
      refine hJ _ _ ?_
      clear hJ J
      refine wpAny_ready (rs := [5]) (by kernel_rfl) (by simp) ?_
      refine AllReady.cons rfl (fun J hJ => ?_) AllReady.nil
      refine step_load_row rfl _ _ rfl w.heap.size rfl 33 #[.string e.p, .int .i64 e.k, .int .i64 e.m, .string e.d, .string e.l] (0, 0) _ Hbx1.out Tryz.underlying33 rfl (by kernel_rfl) ?_
      refine hJ _ _ ?_
      clear hJ J
      refine wpAny_take (i := 7) (v := .agg #[.string e.p, .int .i64 e.k, .int .i64 e.m, .string e.d, .string e.l, .map (some w0.heap.size)]) rfl (by kernel_rfl) (by kernel_rfl) (by kernel_rfl) (fun _ _ _ h => h) (Or.inl ⟨by rfl, fun w => by go_simp⟩) ?_
      refine wpAny_ready (rs := [8]) (by kernel_rfl) (by simp) ?_
      refine AllReady.cons rfl (fun J hJ => ?_) AllReady.nil
      go_simp
      refine hJ _ _ ?_
      clear hJ J
      refine wpAny_ready (rs := [9]) (by kernel_rfl) (by simp) ?_
      refine AllReady.cons (o := { dst := none, op := .mapUpdate 87 (.tmp 43) (.tmp 44) (.tmp 48), type := _, pos := _, after := _, guard := none }) rfl (fun J hJ => ?_) AllReady.nil
      refine step_mapUpdate_kid rfl _ _ _ rfl M n D rfl Hmw.out (by unfold maxLen; omega) (bs (lastName e.p.data.toList)) rfl Hle.out (w0.heap.size + 1) rfl ?_
      intro w3 hown3 hgr3
      obtain ⟨fz1, t1, hf4, hf⟩ := Fin.out w3 hown3 hgr3
      have Hf := Lib.hid hf
      have Hf4 := Lib.hid hf4
      clear hf hf4 hown3 hgr3
      go_simp
      refine hJ _ _ ?_
      clear hJ J
      refine wpAny_done (by kernel_rfl) ?_ _
      go_wp2_with fail
      obtain ⟨w4, hw4⟩ : ∃ y, y = w3.setCell ⟨T, 1, none⟩ (.int .i64 ((nd.length : Int) + 1)) := ⟨_, rfl⟩
      obtain ⟨u1, u2, u3, u4, u5, u6⟩ := Hf4.out w4 hw4
      have Hw4 := Lib.hid hw4
      rw [← hw4]
      clear hw4
      go_still_tail 10, (by kernel_rfl)
      go_wp2_with fail
      refine bodyPost_end (results_none rfl _ _ _) rfl ⟨rfl, ?_⟩
      exact Hf.out _ (by rw [Hw4.out])
  · refine step_load_row rfl _ _ rfl w.heap.size rfl 33 #[.string e.p, .int .i64 e.k, .int .i64 e.m, .string e.d, .string e.l] (0, 0) _ Hbx0.out Tryz.underlying33 rfl (by kernel_rfl) ?_
    refine hJ _ _ ?_
    clear hJ J
    refine wpAny_ready (rs := [3, 6]) (by kernel_rfl) (by simp) ?_
    refine AllReady.cons rfl (fun J hJ => ?_) (AllReady.cons rfl (fun J hJ => ?_) AllReady.nil)
    · go_simp
      refine hJ _ _ ?_
      clear hJ J
      refine wpAny_ready (rs := [6]) (by kernel_rfl) (by simp) ?_
      refine AllReady.cons rfl (fun J hJ => ?_) AllReady.nil
      go_simp
      refine hJ _ _ ?_
      clear hJ J
      refine wpAny_take (i := 7) (v := .agg #[.string e.p, .int .i64 e.k, .int .i64 e.m, .string e.d, .string e.l, .map (some w0.heap.size)]) rfl (by kernel_rfl) (by kernel_rfl) (by kernel_rfl) (fun _ _ _ h => h) (Or.inl ⟨by rfl, fun w => by go_simp⟩) ?_
      refine wpAny_ready (rs := [8]) (by kernel_rfl) (by simp) ?_
      refine AllReady.cons rfl (fun J hJ => ?_) AllReady.nil
      go_simp
      refine hJ _ _ ?_
      clear hJ J
      refine wpAny_ready (rs := [9]) (by kernel_rfl) (by simp) ?_
      refine AllReady.cons (o := { dst := none, op := .mapUpdate 87 (.tmp 43) (.tmp 44) (.tmp 48), type := _, pos := _, after := _, guard := none }) rfl (fun J hJ => ?_) AllReady.nil
      refine step_mapUpdate_kid rfl _ _ _ rfl M n D rfl Hmw.out (by unfold maxLen; omega) (bs (lastName e.p.data.toList)) rfl Hle.out (w0.heap.size + 1) rfl ?_
      intro w3 hown3 hgr3
      obtain ⟨fz1, t1, hf4, hf⟩ := Fin.out w3 hown3 hgr3
      have Hf := Lib.hid hf
      have Hf4 := Lib.hid hf4
      clear hf hf4 hown3 hgr3
      go_simp
      refine hJ _ _ ?_
      clear hJ J
      refine wpAny_done (by kernel_rfl) ?_ _
      go_wp2_with fail
      obtain ⟨w4, hw4⟩ : ∃ y, y = w3.setCell ⟨T, 1, none⟩ (.int .i64 ((nd.length : Int) + 1)) := ⟨_, rfl⟩
      obtain ⟨u1, u2, u3, u4, u5, u6⟩ := Hf4.out w4 hw4
      have Hw4 := Lib.hid hw4
      rw [← hw4]
      clear hw4
      go_still_tail 10, (by kernel_rfl)
      go_wp2_with fail
      refine bodyPost_end (results_none rfl _ _ _) rfl ⟨rfl, ?_⟩
      exact Hf.out _ (by rw [Hw4.out])
    · go_simp
      refine hJ _ _ ?_
      clear hJ J
      refine wpAny_take (i := 7) (v := .agg #[.string e.p, .int .i64 e.k, .int .i64 e.m, .string e.d, .string e.l, .map (some w0.heap.size)]) rfl (by kernel_rfl) (by kernel_rfl) (by kernel_rfl) (fun _ _ _ h => h) (Or.inl ⟨by rfl, fun w => by go_simp⟩) ?_
      refine wpAny_ready (rs := [3, 8]) (by kernel_rfl) (by simp) ?_
      refine AllReady.cons rfl (fun J hJ => ?_) (AllReady.cons rfl (fun J hJ => ?_) AllReady.nil)
      · go_simp
        refine hJ _ _ ?_
        clear hJ J
        refine wpAny_ready (rs := [8]) (by kernel_rfl) (by simp) ?_
        refine AllReady.cons rfl (fun J hJ => ?_) AllReady.nil
        go_simp
        refine hJ _ _ ?_
        clear hJ J
        refine wpAny_ready (rs := [9]) (by kernel_rfl) (by simp) ?_
        refine AllReady.cons (o := { dst := none, op := .mapUpdate 87 (.tmp 43) (.tmp 44) (.tmp 48), type := _, pos := _, after := _, guard := none }) rfl (fun J hJ => ?_) AllReady.nil
        refine step_mapUpdate_kid rfl _ _ _ rfl M n D rfl Hmw.out (by unfold maxLen; omega) (bs (lastName e.p.data.toList)) rfl Hle.out (w0.heap.size + 1) rfl ?_
        intro w3 hown3 hgr3
        obtain ⟨fz1, t1, hf4, hf⟩ := Fin.out w3 hown3 hgr3
        have Hf := Lib.hid hf
        have Hf4 := Lib.hid hf4
        clear hf hf4 hown3 hgr3
        go_simp
        refine hJ _ _ ?_
        clear hJ J
        refine wpAny_done (by kernel_rfl) ?_ _
        go_wp2_with fail
        obtain ⟨w4, hw4⟩ : ∃ y, y = w3.setCell ⟨T, 1, none⟩ (.int .i64 ((nd.length : Int) + 1)) := ⟨_, rfl⟩
        obtain ⟨u1, u2, u3, u4, u5, u6⟩ := Hf4.out w4 hw4
        have Hw4 := Lib.hid hw4
        rw [← hw4]
        clear hw4
        go_still_tail 10, (by kernel_rfl)
        go_wp2_with fail
        refine bodyPost_end (results_none rfl _ _ _) rfl ⟨rfl, ?_⟩
        exact Hf.out _ (by rw [Hw4.out])
      · go_simp
        refine hJ _ _ ?_
        clear hJ J
        refine wpAny_ready (rs := [3]) (by kernel_rfl) (by simp) ?_
        refine AllReady.cons rfl (fun J hJ => ?_) AllReady.nil
        go_simp
        refine hJ _ _ ?_
        clear hJ J
        refine wpAny_ready (rs := [9]) (by kernel_rfl) (by simp) ?_
        refine AllReady.cons (o := { dst := none, op := .mapUpdate 87 (.tmp 43) (.tmp 44) (.tmp 48), type := _, pos := _, after := _, guard := none }) rfl (fun J hJ => ?_) AllReady.nil
        refine step_mapUpdate_kid rfl _ _ _ rfl M n D rfl Hmw.out (by unfold maxLen; omega) (bs (lastName e.p.data.toList)) rfl Hle.out (w0.heap.size + 1) rfl ?_
        intro w3 hown3 hgr3
        obtain ⟨fz1, t1, hf4, hf⟩ := Fin.out w3 hown3 hgr3
        have Hf := Lib.hid hf
        have Hf4 := Lib.hid hf4
        clear hf hf4 hown3 hgr3
        go_simp
        refine hJ _ _ ?_
        clear hJ J
        refine wpAny_done (by kernel_rfl) ?_ _
        go_wp2_with fail
        obtain ⟨w4, hw4⟩ : ∃ y, y = w3.setCell ⟨T, 1, none⟩ (.int .i64 ((nd.length : Int) + 1)) := ⟨_, rfl⟩
        obtain ⟨u1, u2, u3, u4, u5, u6⟩ := Hf4.out w4 hw4
        have Hw4 := Lib.hid hw4
        rw [← hw4]
        clear hw4
        go_still_tail 10, (by kernel_rfl)
        go_wp2_with fail
        refine bodyPost_end (results_none rfl _ _ _) rfl ⟨rfl, ?_⟩
        exact Hf.out _ (by rw [Hw4.out])
  · go_simp
    refine hJ _ _ ?_
    clear hJ J
    refine wpAny_ready (rs := [3, 5]) (by kernel_rfl) (by simp) ?_
    refine AllReady.cons rfl (fun J hJ => ?_) (AllReady.cons rfl (fun J hJ => ?_) AllReady.nil)
    · go_simp
      refine hJ _ _ ?_
      clear hJ J
      refine wpAny_ready (rs := [5]) (by kernel_rfl) (by simp) ?_
      refine AllReady.cons rfl (fun J hJ => ?_) AllReady.nil
      refine step_load_row rfl _ _ rfl w.heap.size rfl 33 #[.string e.p, .int .i64 e.k, .int .i64 e.m, .string e.d, .string e.l] (0, 0) _ Hbx1.out Tryz.underlying33 rfl (by kernel_rfl) ?_
      refine hJ _ _ ?_
      clear hJ J
      refine wpAny_take (i := 7) (v := .agg #[.string e.p, .int .i64 e.k, .int .i64 e.m, .string e.d, .string e.l, .map (some w0.heap.size)]) rfl (by kernel_rfl) (by kernel_rfl) (by kernel_rfl) (fun _ _ _ h => h) (Or.inl ⟨by rfl, fun w => by go_simp⟩) ?_
      refine wpAny_ready (rs := [8]) (by kernel_rfl) (by simp) ?_
      refine AllReady.cons rfl (fun J hJ => ?_) AllReady.nil
      go_simp
      refine hJ _ _ ?_
      clear hJ J
      refine wpAny_ready (rs := [9]) (by kernel_rfl) (by simp) ?_
      refine AllReady.cons (o := { dst := none, op := .mapUpdate 87 (.tmp 43) (.tmp 44) (.tmp 48), type := _, pos := _, after := _, guard := none }) rfl (fun J hJ => ?_) AllReady.nil
      refine step_mapUpdate_kid rfl _ _ _ rfl M n D rfl Hmw.out (by unfold maxLen; omega) (bs (lastName e.p.data.toList)) rfl Hle.out (w0.heap.size + 1) rfl ?_
      intro w3 hown3 hgr3
      obtain ⟨fz1, t1, hf4, hf⟩ := Fin.out w3 hown3 hgr3
      have Hf := Lib.hid hf
      have Hf4 := Lib.hid hf4
      clear hf hf4 hown3 hgr3
      go_simp
      refine hJ _ _ ?_
      clear hJ J
      refine wpAny_done (by kernel_rfl) ?_ _
      go_wp2_with fail
      obtain ⟨w4, hw4⟩ : ∃ y, y = w3.setCell ⟨T, 1, none⟩ (.int .i64 ((nd.length : Int) + 1)) := ⟨_, rfl⟩
      obtain ⟨u1, u2, u3, u4, u5, u6⟩ := Hf4.out w4 hw4
      have Hw4 := Lib.hid hw4
      rw [← hw4]
      clear hw4
      go_still_tail 10, (by kernel_rfl)
      go_wp2_with fail
      refine bodyPost_end (results_none rfl _ _ _) rfl ⟨rfl, ?_⟩
      exact Hf.out _ (by rw [Hw4.out])
    · refine step_load_row rfl _ _ rfl w.heap.size rfl 33 #[.string e.p, .int .i64 e.k, .int .i64 e.m, .string e.d, .string e.l] (0, 0) _ Hbx1.out Tryz.underlying33 rfl (by kernel_rfl) ?_
      refine hJ _ _ ?_
      clear hJ J
      refine wpAny_take (i := 7) (v := .agg #[.string e.p, .int .i64 e.k, .int .i64 e.m, .string e.d, .string e.l, .map (some w0.heap.size)]) rfl (by kernel_rfl) (by kernel_rfl) (by kernel_rfl) (fun _ _ _ h => h) (Or.inl ⟨by rfl, fun w => by go_simp⟩) ?_
      refine wpAny_ready (rs := [3, 8]) (by kernel_rfl) (by simp) ?_
      refine AllReady.cons rfl (fun J hJ => ?_) (AllReady.cons rfl (fun J hJ => ?_) AllReady.nil)
      · go_simp
        refine hJ _ _ ?_
        clear hJ J
        refine wpAny_ready (rs := [8]) (by kernel_rfl) (by simp) ?_
        refine AllReady.cons rfl (fun J hJ => ?_) AllReady.nil
        go_simp
        refine hJ _ _ ?_
        clear hJ J
        refine wpAny_ready (rs := [9]) (by kernel_rfl) (by simp) ?_
        refine AllReady.cons (o := { dst := none, op := .mapUpdate 87 (.tmp 43) (.tmp 44) (.tmp 48), type := _, pos := _, after := _, guard := none }) rfl (fun J hJ => ?_) AllReady.nil
        refine step_mapUpdate_kid rfl _ _ _ rfl M n D rfl Hmw.out (by unfold maxLen; omega) (bs (lastName e.p.data.toList)) rfl Hle.out (w0.heap.size + 1) rfl ?_
        intro w3 hown3 hgr3
        obtain ⟨fz1, t1, hf4, hf⟩ := Fin.out w3 hown3 hgr3
        have Hf := Lib.hid hf
        have Hf4 := Lib.hid hf4
        clear hf hf4 hown3 hgr3
        go_simp
        refine hJ _ _ ?_
        clear hJ J
        refine wpAny_done (by kernel_rfl) ?_ _
        go_wp2_with fail
        obtain ⟨w4, hw4⟩ : ∃ y, y = w3.setCell ⟨T, 1, none⟩ (.int .i64 ((nd.length : Int) + 1)) := ⟨_, rfl⟩
        obtain ⟨u1, u2, u3, u4, u5, u6⟩ := Hf4.out w4 hw4
        have Hw4 := Lib.hid hw4
        rw [← hw4]
        clear hw4
        go_still_tail 10, (by kernel_rfl)
        go_wp2_with fail
        refine bodyPost_end (results_none rfl _ _ _) rfl ⟨rfl, ?_⟩
        exact Hf.out _ (by rw [Hw4.out])
      · go_simp
        refine hJ _ _ ?_
        clear hJ J
        refine wpAny_ready (rs := [3]) (by kernel_rfl) (by simp) ?_
        refine AllReady.cons rfl (fun J hJ => ?_) AllReady.nil
        go_simp
        refine hJ _ _ ?_
        clear hJ J
        refine wpAny_ready (rs := [9]) (by kernel_rfl) (by simp) ?_
        refine AllReady.cons (o := { dst := none, op := .mapUpdate 87 (.tmp 43) (.tmp 44) (.tmp 48), type := _, pos := _, after := _, guard := none }) rfl (fun J hJ => ?_) AllReady.nil
        refine step_mapUpdate_kid rfl _ _ _ rfl M n D rfl Hmw.out (by unfold maxLen; omega) (bs (lastName e.p.data.toList)) rfl Hle.out (w0.heap.size + 1) rfl ?_
        intro w3 hown3 hgr3
        obtain ⟨fz1, t1, hf4, hf⟩ := Fin.out w3 hown3 hgr3
        have Hf := Lib.hid hf
        have Hf4 := Lib.hid hf4
        clear hf hf4 hown3 hgr3
        go_simp
        refine hJ _ _ ?_
        clear hJ J
        refine wpAny_done (by kernel_rfl) ?_ _
        go_wp2_with fail
        obtain ⟨w4, hw4⟩ : ∃ y, y = w3.setCell ⟨T, 1, none⟩ (.int .i64 ((nd.length : Int) + 1)) := ⟨_, rfl⟩
        obtain ⟨u1, u2, u3, u4, u5, u6⟩ := Hf4.out w4 hw4
        have Hw4 := Lib.hid hw4
        rw [← hw4]
        clear hw4
        go_still_tail 10, (by kernel_rfl)
        go_wp2_with fail
        refine bodyPost_end (results_none rfl _ _ _) rfl ⟨rfl, ?_⟩
        exact Hf.out _ (by rw [Hw4.out])
theorem laid_end : ∀ {l : List Ent} {e : Ent}, (∀ x ∈ l, compareP x.path e.path < 0) → laidL l e = l ++ [e]
  | [], _, _ => rfl
  | a :: r, e, h => by
    unfold laidL
    rw [if_pos (h a (List.mem_cons_self ..)), laid_end fun x hx => h x (List.mem_cons_of_mem _ hx)]
    rfl
theorem laidN_end : ∀ {nd : List Nd} {y : Nd}, (∀ x ∈ nd, compareP x.e.path y.e.path < 0) → laidN nd y = nd ++ [y]
  | [], _, _ => rfl
  | a :: r, y, h => by
    unfold laidN
    rw [if_pos (h a (List.mem_cons_self ..)), laidN_end fun x hx => h x (List.mem_cons_of_mem _ hx)]
    rfl
/-- set, where the entry comes behind all that there are -/
theorem set_last_any {T rt rm base : Nat} {nd : List Nd} (e : Ent) (o : Option Nd) (w : World) (h : TreeAt w T rt rm base nd) (hg : Good (ents nd ++ [e])) (ho : findO nd (parent e.path) = some o) (hp : e.p.size < 4611686018427387904) (hd : e.d.size < 4611686018427387904) :
    Calls Tryz.prog 23 #[.pointer (some ⟨T, 0, none⟩), .pointer (some ⟨spotB rt o, 0, none⟩), entV e] w fun r w' => r = .returned (.tuple #[]) ∧ ∃ y : Nd, y.e = e ∧ TreeAt w' T rt rm base (nd ++ [y]) ∧ w'.os = w.os ∧ w'.tape = w.tape ∧ w'.output = w.output ∧ w.heap.size ≤ w'.heap.size ∧ ∀ k, k < w.heap.size → ¬ IsBlk T rt rm nd k → w'.heap[k]? = w.heap[k]? := by
  have hless : ∀ x ∈ ents nd, compareP x.path e.path < 0 := fun x hx => (List.pairwise_append.1 hg.inc).2.2 x hx e (List.mem_singleton.2 rfl)
  have hnew : lookE (ents nd) e.path = none := List.find?_eq_none.2 fun x hx => by
    have h1 : x.path ≠ e.path := fun e2 => by have := hless x hx; rw [e2] at this; exact compareP_irrefl _ this
    simpa using h1
  refine (set_any e o w h (by rw [laid_end hless]; exact hg) hnew ho hp hd).mono ?_
  rintro r w' ⟨h1, y, hy, _, h2, h3⟩
  refine ⟨h1, y, hy, ?_, h3⟩
  rw [laidN_end fun x hx => by rw [hy]; exact hless x.e (List.mem_map.2 ⟨x, hx, rfl⟩)] at h2
  exact h2
end
section
open Go.RowKit Go.Maps
open Go.Lib hiding intOf
/-- what a change of a tree leaves as it was -/
structure Turned (T rt rm : Nat) (nd nd' : List Nd) (w w' : World) : Prop where
  os : w'.os = w.os
  tape : w'.tape = w.tape
  output : w'.output = w.output
  size : w.heap.size ≤ w'.heap.size
  keep : ∀ k, k < w.heap.size → ¬ IsBlk T rt rm nd k → w'.heap[k]? = w.heap[k]?
  blk : ∀ b, IsBlk T rt rm nd' b → IsBlk T rt rm nd b ∨ w.heap.size ≤ b
theorem Turned.trans {T rt rm : Nat} {nd nd1 nd2 : List Nd} {w w1 w2 : World} (h : Turned T rt rm nd nd1 w w1) (k : Turned T rt rm nd1 nd2 w1 w2) : Turned T rt rm nd nd2 w w2 :=
  ⟨k.os.trans h.os, k.tape.trans h.tape, k.output.trans h.output, Nat.le_trans h.size k.size, fun b hb hn => (k.keep b (Nat.lt_of_lt_of_le hb h.size) (fun x => by
    rcases h.blk b x with y | y
    · exact hn y
    · omega)).trans (h.keep b hb hn), fun b hb => by
    rcases k.blk b hb with x | x
    · exact h.blk b x
    · have := h.size; exact .inr (by omega)⟩
theorem Turned.of_below {T rt rm : Nat} {nd : List Nd} {w w' : World} (h : Below w.heap.size w w') : Turned T rt rm nd nd w w' :=
  ⟨h.os, h.tape, h.output, h.size, fun k hk _ => h.block k hk, fun b hb => .inl hb⟩
theorem Turned.below {T rt rm base : Nat} {nd nd' : List Nd} {w w' : World} (h : Turned T rt rm nd nd' w w') (ht : TreeAt w T rt rm base nd) : Below base w w' :=
  ⟨h.os, h.tape, h.output, h.size, fun k hk => h.keep k (by have := heap_lt ht.tr; have := ht.lo.1; omega) (fun x => by have := ht.base_le x; omega)⟩
set_option maxRecDepth 100000 in
set_option maxHeartbeats 1000000 in
theorem full_old_any {T rt rm base : Nat} {nd : List Nd} (e : Ent) (y : Nd) (w : World) (h : TreeAt w T rt rm base nd) (hy : y ∈ nd) (he : e.d.size < 4611686018427387904) :
    Calls Tryz.prog 22 #[.pointer (some ⟨T, 0, none⟩), entV e, .pointer (some ⟨y.b, 0, none⟩)] w fun r w' => r = .returned (errV (if 16777216 + y.e.d.size < bytesE (ents nd) + e.d.size then 5 else 0)) ∧ Below w.heap.size w w' := by
  have hl := h.good.len
  have hb := h.good.byt
  have ha := h.alloc (.cells (entC e).toArray 33)
  obtain ⟨_, c1, c2⟩ := tree_cells ha
  have c4 := (node_cells (ha.node y hy)).2.2.2.1
  have hyd : y.e.d.size ≤ 1048576 := itselfNo_data (h.good.it y.e (List.mem_map.2 ⟨y, hy, rfl⟩))
  rw [ents_length] at hl
  rw [show bytesE (ents nd) = bytesN nd from rfl] at hb ⊢
  have cb := World.alloc_heap_new w (.cells (entC e).toArray 33)
  have c3 : (w.alloc (.cells (entC e).toArray 33)).cell? ⟨w.heap.size, 3, none⟩ = some (.string e.d) := by
    unfold World.cell?
    simp only [cb]
    rfl
  unfold entV entC at *
  clear cb h ha hy
  generalize nd.length = n at *
  generalize bytesN nd = b at *
  generalize e.d = d at *
  generalize y.e.d = d2 at *
  generalize y.b = yb at *
  by_cases h2 : 16777216 + d2.size < b + d.size
  · rw [if_pos h2]
    go_enter Tryz.func22, Tryz.ntmps22
    go_wp2
    go_quiet (fail)
    go_wp2
    go_quiet (fail)
    go_wp2
    go_ret
    exact ⟨rfl, below_drewN ((Below.refl _ _).alloc (Nat.le_refl _) _) _⟩
  · rw [if_neg h2]
    go_enter Tryz.func22, Tryz.ntmps22
    go_wp2
    go_quiet (fail)
    go_wp2
    go_quiet (fail)
    go_wp2
    go_ret
    exact ⟨rfl, below_drewN ((Below.refl _ _).alloc (Nat.le_refl _) _) _⟩
end
section
open Go.RowKit Go.Maps
open Go.Lib hiding intOf
theorem InOrder.of {nd : List Nd} (h : Good (ents nd)) : InOrder nd := by
  have := h.inc
  unfold ents at this
  rw [List.pairwise_map] at this
  exact this
theorem Turned.old {T rt rm base : Nat} {nd : List Nd} {w w' : World} {e : Ent} {y : Nd} (h : TreeAt w T rt rm base nd) (hy : y ∈ nd) (hp : e.path = y.e.path)
    (h1 : w'.os = w.os) (h2 : w'.tape = w.tape) (h3 : w'.output = w.output) (h4 : w.heap.size ≤ w'.heap.size) (hk : ∀ k, k < w.heap.size → k ≠ T → k ≠ y.b → w'.heap[k]? = w.heap[k]?) : Turned T rt rm nd (laidN nd { y with e := e }) w w' := by
  refine ⟨h1, h2, h3, h4, fun k hlt hn => hk k hlt (fun e2 => hn (.inl e2)) (fun e2 => hn (.inr (.inr (.inr ⟨y, hy, .inl e2⟩)))), fun b hb => ?_⟩
  have hmap : laidN nd { y with e := e } = nd.map (updN { y with e := e }) := laidN_old (InOrder.of h.good) ⟨y, hy, hp.symm⟩
  rcases hb with hb | hb | hb | ⟨x, hx, hb⟩
  · exact .inl (.inl hb)
  · exact .inl (.inr (.inl hb))
  · exact .inl (.inr (.inr (.inl hb)))
  · rw [hmap] at hx
    obtain ⟨z, hz, rfl⟩ := List.mem_map.1 hx
    rw [updN_b, updN_m] at hb
    exact .inl (.inr (.inr (.inr ⟨z, hz, hb⟩)))
set_option maxRecDepth 100000 in
set_option maxHeartbeats 4000000 in
theorem set_old_any {T rt rm base : Nat} {nd : List Nd} (e : Ent) (o : Option Nd) (y : Nd) (w : World) (h : TreeAt w T rt rm base nd) (hg : Good (laidL (ents nd) e)) (hl : lookN nd e.path = some y) (ho : findO nd (parent e.path) = some o) (hp : e.p.size < 4611686018427387904) (hd : e.d.size < 4611686018427387904) :
    Calls Tryz.prog 23 #[.pointer (some ⟨T, 0, none⟩), .pointer (some ⟨spotB rt o, 0, none⟩), entV e] w fun r w' => r = .returned (.tuple #[]) ∧ TreeAt w' T rt rm base (laidN nd { y with e := e }) ∧ Turned T rt rm nd (laidN nd { y with e := e }) w w' := by
  show Calls _ _ #[.pointer (some ⟨T, 0, none⟩), .pointer (some ⟨spotB rt o, 0, none⟩), .agg (entC e).toArray] _ _
  obtain ⟨hy, hyp⟩ := lookN_some hl
  have hla := fun W => last_any e.p W hp
  have hle : (bs (lastName e.p.data.toList)).size ≤ maxLen := by
    have : (lastName e.p.data.toList).length ≤ e.p.data.toList.length := by unfold lastName; simp
    rw [← Lib.size_eq] at this
    rw [bs_size]; unfold maxLen; omega
  obtain ⟨hin, hq⟩ := findO_in ho
  have hen := h.wf.ok y hy
  rw [hyp] at hen
  have hno : kidN nd (spotQ o) (lastName e.path) = some y := by
    rw [hq, kid_look h.wf.ok (last_no47 _), ← hen.is_join]
    exact hl
  have hno2 : kidN nd (spotQ o) (bs (lastName e.p.data.toList)).data.toList = some y := hno
  have hspot := h.spot hin
  have hby2 := hg.byt
  have hlo := (laid_len_old h.good.inc (show lookE (ents nd) e.path = some y.e by rw [lookE_N, hl]; rfl)).2
  have hby1 := h.good.byt
  have hyd : y.e.d.size ≤ 1048576 := itselfNo_data (h.good.it y.e (List.mem_map.2 ⟨y, hy, rfl⟩))
  rw [show bytesE (ents nd) = bytesN nd from rfl] at hlo hby1
  obtain ⟨w0, hw0⟩ : ∃ x, x = w.alloc (.cells (entC e).toArray 33) := ⟨_, rfl⟩
  have hsz0 : w0.heap.size = w.heap.size + 1 := by rw [hw0]; simp
  have hold0 : ∀ k, k < w.heap.size → w0.heap[k]? = w.heap[k]? := fun k hk => by rw [hw0]; exact heap_alloc_old w _ hk
  have hbx : w0.heap[w.heap.size]? = some (.cells (entC e).toArray 33 (0, 0)) := by rw [hw0]; exact World.alloc_heap_new w _
  have hupb : spotB rt o < w.heap.size := heap_lt hspot.1
  have hup0 : w0.heap[spotB rt o]? = some (nodeObj (spotE o) (spotM rm o)) := (hold0 _ hupb).trans hspot.1
  have c5 := (node_cells hup0).2.2.2.2.2
  have cp : w0.cell? ⟨w.heap.size, 0, none⟩ = some (.string e.p) := by unfold World.cell?; rw [hbx]; rfl
  have cd : w0.cell? ⟨w.heap.size, 3, none⟩ = some (.string e.d) := by unfold World.cell?; rw [hbx]; rfl
  have htl := heap_lt h.tr
  have hyl := heap_lt (h.node y hy)
  have t0 : w0.heap[T]? = some (.cells #[.pointer (some ⟨rt, 0, none⟩), .int .i64 (nd.length : Int), .int .i64 (bytesN nd : Int)] 91 (0, 0)) := (hold0 T htl).trans h.tr
  have y0 : w0.heap[y.b]? = some (nodeObj y.e y.m) := (hold0 y.b hyl).trans (h.node y hy)
  have hTy : T ≠ y.b := fun e2 => by
    rw [← e2, t0] at y0
    unfold nodeObj at y0
    injection y0 with y0
    injection y0 with _ y0 _
    cases y0
  have tc2 : w0.cell? ⟨T, 2, none⟩ = some (.int .i64 (bytesN nd : Int)) := by unfold World.cell?; rw [t0]; rfl
  have tf2 : w0.frozen? ⟨T, 2, none⟩ = false := by unfold World.frozen?; rw [t0]; rfl
  have yc3 := (node_cells y0).2.2.2.1
  have hka : KidsAt w0 (spotM rm o) nd (spotQ o) := hspot.2.block (fun es c hx => (hold0 _ (heap_lt hx)).trans hx)
  have t1 := heap_setCell_same w0 T 2 _ _ (.int .i64 ((bytesN nd : Int) + ((e.d.size : Int) - (y.e.d.size : Int)))) t0
  have y1 := (heap_setCell_other w0 ⟨T, 2, none⟩ y.b (.int .i64 ((bytesN nd : Int) + ((e.d.size : Int) - (y.e.d.size : Int)))) (Ne.symm hTy)).trans y0
  have b1 := (heap_setCell_other w0 ⟨T, 2, none⟩ w.heap.size (.int .i64 ((bytesN nd : Int) + ((e.d.size : Int) - (y.e.d.size : Int)))) (show w.heap.size ≠ T by omega)).trans hbx
  obtain ⟨w1, hw1⟩ : ∃ x, x = w0.setCell ⟨T, 2, none⟩ (.int .i64 ((bytesN nd : Int) + ((e.d.size : Int) - (y.e.d.size : Int)))) := ⟨_, rfl⟩
  rw [← hw1] at t1 y1 b1
  have hs1 : w1.heap.size = w0.heap.size := by rw [hw1]; simp
  have hk1 : ∀ k, k ≠ T → w1.heap[k]? = w0.heap[k]? := fun k hk => by rw [hw1]; exact heap_setCell_other w0 ⟨T, 2, none⟩ k _ hk
  have ho1 : w1.os = w.os ∧ w1.tape = w.tape ∧ w1.output = w.output := by rw [hw1, hw0]; exact ⟨rfl, rfl, rfl⟩
  -- the last world
  have fin : ∀ (W W' : World), Same w1 W → W' = ((((W.setCell ⟨y.b, 0, none⟩ (.string e.p)).setCell ⟨y.b, 1, none⟩ (.int .i64 e.k)).setCell ⟨y.b, 2, none⟩ (.int .i64 e.m)).setCell ⟨y.b, 3, none⟩ (.string e.d)).setCell ⟨y.b, 4, none⟩ (.string e.l) →
      TreeAt W' T rt rm base (laidN nd { y with e := e }) ∧ Turned T rt rm nd (laidN nd { y with e := e }) w W' := by
    rintro W W' ⟨n, rfl⟩ rfl
    have a0 : (w1.drewN n).heap[y.b]? = some (nodeObj y.e y.m) := y1
    have a1 := heap_setCell_same _ y.b 0 _ _ (.string e.p) a0
    have a2 := heap_setCell_same _ y.b 1 _ _ (.int .i64 e.k) a1
    have a3 := heap_setCell_same _ y.b 2 _ _ (.int .i64 e.m) a2
    have a4 := heap_setCell_same _ y.b 3 _ _ (.string e.d) a3
    have a5 := heap_setCell_same _ y.b 4 _ _ (.string e.l) a4
    have oth : ∀ k, k ≠ y.b → (((((( w1.drewN n).setCell ⟨y.b, 0, none⟩ (.string e.p)).setCell ⟨y.b, 1, none⟩ (.int .i64 e.k)).setCell ⟨y.b, 2, none⟩ (.int .i64 e.m)).setCell ⟨y.b, 3, none⟩ (.string e.d)).setCell ⟨y.b, 4, none⟩ (.string e.l)).heap[k]? = w1.heap[k]? := fun k hk => by
      rw [heap_setCell_other _ _ _ _ hk, heap_setCell_other _ _ _ _ hk, heap_setCell_other _ _ _ _ hk, heap_setCell_other _ _ _ _ hk, heap_setCell_other _ _ _ _ hk]
      rfl
    refine ⟨h.replace hy hyp.symm hg ?_ ?_ ?_, Turned.old h hy hyp.symm ?_ ?_ ?_ ?_ ?_⟩
    · rw [oth T hTy, t1]
      have : ((bytesN nd : Int) + ((e.d.size : Int) - (y.e.d.size : Int))) = (bytesE (laidL (ents nd) e) : Int) := by omega
      rw [← this]
      rfl
    · exact a5
    · intro k hk hkT hkb
      rw [oth k hkb, hk1 k hkT, hold0 k hk]
    · exact ho1.1
    · exact ho1.2.1
    · exact ho1.2.2
    · simp
      omega
    · intro k hk hkT hkb
      rw [oth k hkb, hk1 k hkT, hold0 k hk]
  have yf : ∀ j, j < 5 → ∀ W, Same w1 W → W.frozen? ⟨y.b, j, none⟩ = false := fun j hj W hW => by
    obtain ⟨n, rfl⟩ := hW
    show w1.frozen? _ = false
    unfold World.frozen?
    rw [y1]
    rfl
  have hbx1 : ∀ W, Same w1 W → W.heap[w.heap.size]? = some (.cells #[.string e.p, .int .i64 e.k, .int .i64 e.m, .string e.d, .string e.l] 33 (0, 0)) := fun W hW => by
    obtain ⟨n, rfl⟩ := hW
    exact b1
  have yh : ∀ W, Same w1 W → W.heap[y.b]? = some (nodeObj y.e y.m) := fun W hW => by
    obtain ⟨n, rfl⟩ := hW
    exact y1
  have Hla := Lib.hid hla
  have Hle := Lib.hid hle
  have Hno := Lib.hid hno2
  have Hka := Lib.hid hka
  have Hfin := Lib.hid fin
  have Hbx1 := Lib.hid hbx1
  have Hyh := Lib.hid yh
  have Hw0 := Lib.hid hw0
  have Hw1 := Lib.hid hw1
  have Hlo := Lib.hid hlo
  have hz1 : (0 : Int) ≤ (bytesN nd : Int) + ((e.d.size : Int) - (y.e.d.size : Int)) ∧ (bytesN nd : Int) + ((e.d.size : Int) - (y.e.d.size : Int)) ≤ 16777216 := by omega
  have hed : e.d.size ≤ 16777216 + 1048576 := by omega
  clear hla hle hno hno2 hka fin hbx1 yh hw0 hw1 hlo hspot hen hin hq hl ho hold0 hup0 t0 y0 hk1 ho1 t1 y1 b1 hs1 yf hbx hg hTy hyl htl hsz0 hyp hy h
  go_enter Tryz.func23, Tryz.ntmps23
  go_upto_region 1 with fail
  rw [← Hw0.out]
  generalize spotB rt o = U at *
  generalize hM : spotM rm o = M at *
  clear hM
  go_wp2_with (first
    | (go_at_call 41; refine (Hla.out _).mono ?_; rintro r w1 ⟨rfl, rfl⟩)
    | (at_lookup; refine wpList_lookup_kid rfl _ _ rfl M nd (spotQ o) rfl Hka.out _ rfl Hle.out ?_; rw [Hno.out]; change wpList _ _ _ _ (Act.put _ _ (.pointer (some ⟨y.b, 0, none⟩))) _))
  have tc2d : w0.drew.cell? ⟨T, 2, none⟩ = some (.int .i64 (bytesN nd : Int)) := tc2
  have tf2d : w0.drew.frozen? ⟨T, 2, none⟩ = false := tf2
  have yc3d : w0.drew.cell? ⟨y.b, 3, none⟩ = some (.string y.e.d) := yc3
  have cdd : w0.drew.cell? ⟨w.heap.size, 3, none⟩ = some (.string e.d) := cd
  have wr1 : IntKind.i64.wrap ((e.d.size : Int) - (y.e.d.size : Int)) = (e.d.size : Int) - (y.e.d.size : Int) := (by rw [IntKind.wrap_i64]; omega)
  have wr2 : IntKind.i64.wrap ((bytesN nd : Int) + ((e.d.size : Int) - (y.e.d.size : Int))) = (bytesN nd : Int) + ((e.d.size : Int) - (y.e.d.size : Int)) := (by rw [IntKind.wrap_i64]; omega)
  go_still_tail 17, (by kernel_rfl)
  have hsm : Same w1 (w0.setCell ⟨T, 2, none⟩ (.int .i64 ((bytesN nd : Int) + ((e.d.size : Int) - (y.e.d.size : Int))))).drew := ⟨1, by rw [Hw1.out]; rfl⟩
  have hld := Hbx1.out _ hsm
  have hth : World.there (w0.setCell ⟨T, 2, none⟩ (.int .i64 ((bytesN nd : Int) + ((e.d.size : Int) - (y.e.d.size : Int))))).drew y.b 0 5 := fun j hj => (by
    have h1 := Hyh.out _ hsm
    rw [Nat.zero_add]
    refine ⟨?_, (by unfold World.frozen?; rw [h1]; rfl)⟩
    unfold World.cell?
    rw [h1]
    have : j = 0 ∨ j = 1 ∨ j = 2 ∨ j = 3 ∨ j = 4 := (by omega)
    rcases this with rfl | rfl | rfl | rfl | rfl <;> rfl)
  have Hsm := Lib.hid hsm
  have Hld := Lib.hid hld
  have Hth := Lib.hid hth
  have Hone := Lib.hid (entC_one e)
  clear hsm hld hth
  go_wp2_with (first
    | (refine wpList_load_row rfl _ _ rfl w.heap.size rfl 33 _ (0, 0) _ Hld.out Tryz.underlying33 rfl (by kernel_rfl) ?_)
    | (refine wpList_store_mid rfl _ _ _ rfl y.b 0 (entC e).toArray rfl rfl Hth.out (by kernel_rfl) Hone.out ?_))
  exact bodyPost_ret_by (results_none rfl _ _ _) rfl ⟨rfl, Hfin.out _ _ Hsm.out rfl⟩
end
end Go.Proofs.YtfanfkogogijpaaGreatDoor
