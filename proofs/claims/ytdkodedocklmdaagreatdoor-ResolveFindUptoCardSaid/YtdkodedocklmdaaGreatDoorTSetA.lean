/- The contract of the tree's set, for an entry that is new. -/
import Derived.Test.YtdkodedocklmdaaGreatDoorTDir
import Derived.Maps.AppendAt
set_option linter.unusedSimpArgs false
set_option linter.unusedVariables false
namespace Go.Proofs.YtdkodedocklmdaaGreatDoor
open Go.RowKit Go.Maps
open Go.Lib hiding intOf
theorem step_mapUpdate_kid {w : World} {ops : Array Oper} {o : Oper} {a : Act} {K : Act → World → Prop} {Q : Exit → Act → World → Prop} {X : Prop}
    (hg : o.guard = none) (m x v : Operand) (hop : o.op = Op.mapUpdate 98 m x v)
    (b n : Nat) (D : DataW Nat) (hm : a.eval m = .map (some b)) (hown : w.ownsMap Tryz.prog 9 ptrElem b n D) (hn : n < maxLen) (c : ByteArray) (hx : a.eval x = .string c) (hc : c.size ≤ maxLen) (y : Nat) (hv : a.eval v = .pointer (some ⟨y, 0, none⟩))
    (hK : ∀ w2, w2.ownsMap Tryz.prog 9 ptrElem b (n + 1) (D.put (.string c.data.toList) (.lit (.int .i64 (y : Int)))) → w.grownBy w2 (some b) → K (a.put o.dst undef) w2) :
    if Region.wanted o (yielded ops a.tmps) = true then Oper.wp Tryz.prog o a w K Q else X := by
  have hw : Region.wanted o (yielded ops a.tmps) = true := by simp [Region.wanted, hg]
  rw [if_pos hw]
  obtain ⟨w2, hrun, r1, r2⟩ := hown.update Tryz.keyed_str Tryz.underlying98 hn (key := .string c) (val := .pointer (some ⟨y, 0, none⟩)) (d := .lit (.int .i64 (y : Int))) (ps := []) (key_text hc) rfl
  unfold Oper.wp
  simp [execOp, hop, hm, hx, hv, hrun, Result.andThen]
  exact hK w2 r1 r2
theorem step_load_at {P : Program} {w : World} {ops : Array Oper} {o : Oper} {a : Act} {K : Act → World → Prop} {Q : Exit → Act → World → Prop} {X : Prop} (hg : o.guard = none) (ty : TypeId) (x : Operand) (ho : o.op = .load ty x)
    (p : Addr) (hx : a.eval x = .pointer (some p)) (cs : List Value) (d : TypeDesc) (hc : ∀ j v, cs[j]? = some v → w.cell? (p.add j) = some v)
    (hu : P.underlying ty = some d) (hd : (match d with | .struct _ | .array _ _ => true | _ => false) = true) (hi : (P.info? ty).map (·.size) = some cs.length)
    (h : K (a.put o.dst (.agg cs.toArray)) w) : if Region.wanted o (yielded ops a.tmps) = true then Oper.wp P o a w K Q else X := by
  rw [if_pos (by simp [Region.wanted, hg])]
  exact wp_load_at ty x ho p hx cs d hc hu hd hi h
theorem step_load_row {P : Program} {w : World} {ops : Array Oper} {o : Oper} {a : Act} {K : Act → World → Prop} {Q : Exit → Act → World → Prop} {X : Prop} (hg0 : o.guard = none) (ty : TypeId) (x : Operand) (ho : o.op = .load ty x)
    (g : Nat) (hx : a.eval x = .pointer (some ⟨g, 0, none⟩)) (t : TypeId) (cs : Array Value) (fr : Nat × Nat) (d : TypeDesc) (hg : w.heap[g]? = some (.cells cs t fr))
    (hu : P.underlying ty = some d) (hd : (match d with | .struct _ | .array _ _ => true | _ => false) = true) (hi : (P.info? ty).map (·.size) = some cs.size)
    (h : K (a.put o.dst (.agg cs)) w) : if Region.wanted o (yielded ops a.tmps) = true then Oper.wp P o a w K Q else X := by
  rw [if_pos (by simp [Region.wanted, hg0])]
  exact wp_load_row ty x ho g hx t cs fr d hg hu hd hi h
/-- the cells of an entry in a block of its own -/
theorem ent_cells {w : World} {b : Nat} {e : Ent} {t : TypeId} (h : w.heap[b]? = some (.cells (entC e).toArray t (0, 0))) : ∀ j v, (entC e)[j]? = some v → w.cell? ((⟨b, 0, none⟩ : Addr).add j) = some v := by
  intro j v hv
  have : (⟨b, 0, none⟩ : Addr).add j = ⟨b, j, none⟩ := by unfold Addr.add; split <;> simp_all
  rw [this]
  unfold World.cell?
  rw [h]
  simpa using hv
/-- what set makes of a tree -/
theorem TreeAt.set {w w1 w2 w3 : World} {T rt rm base : Nat} {nd : List Nd} (h : TreeAt w T rt rm base nd) {e : Ent} (hg : Good (ents nd ++ [e])) {o : Option Nd} (ho : findO nd (parent e.path) = some o) {n b m : Nat} {D : DataW Nat}
    (hD : KidsD D nd (parent e.path)) (hn : n ≤ nd.length) (hb : w.heap.size ≤ b) (hm : w.heap.size ≤ m) (hm0 : w.ownsMap Tryz.prog 9 ptrElem (spotM rm o) n D)
    (hsz : w.heap.size ≤ w1.heap.size) (hs : ∀ k, k < w.heap.size → w1.heap[k]? = w.heap[k]?) (h1b : w1.heap[b]? = some (nodeObj e m)) (h1m : w1.ownsMap Tryz.prog 9 ptrElem m 0 (.map []))
    (hown : w2.ownsMap Tryz.prog 9 ptrElem (spotM rm o) (n + 1) (D.put (.string (lastName e.path)) (.lit (.int .i64 (b : Int))))) (hgr : w1.grownBy w2 (some (spotM rm o)))
    (h3 : w3 = (w2.setCell ⟨T, 1, none⟩ (.int .i64 ((nd.length : Int) + 1))).setCell ⟨T, 2, none⟩ (.int .i64 ((bytesN nd : Int) + (e.d.size : Int)))) :
    ∃ y : Nd, y.e = e ∧ TreeAt w3 T rt rm base (nd ++ [y]) ∧ w3.heap.size = w2.heap.size ∧ ∀ k, k < w.heap.size → ¬ IsBlk T rt rm nd k → w3.heap[k]? = w.heap[k]? := by
  obtain ⟨hin, hq⟩ := findO_in ho
  have hup : upM rm nd (parent e.path) = spotM rm o := by
    unfold findO at ho
    unfold upM
    by_cases h0 : parent e.path = []
    · rw [if_pos h0] at ho ⊢
      injection ho with ho
      subst ho
      rfl
    · rw [if_neg h0] at ho ⊢
      cases hl : lookN nd (parent e.path) with
      | none => rw [hl] at ho; cases ho
      | some z =>
        rw [hl] at ho
        injection ho with ho
        subst ho
        rfl
  have hspot := h.spot hin
  have hM : spotM rm o < w.heap.size := hspot.2.lt
  have hMT : T ≠ spotM rm o := fun e2 => by
    obtain ⟨es, c, hx⟩ := hspot.2.is_map
    rw [← e2, h.tr] at hx
    cases hx
  have hT := heap_lt h.tr
  have t2 : w2.heap[T]? = some (.cells #[.pointer (some ⟨rt, 0, none⟩), .int .i64 (nd.length : Int), .int .i64 (bytesN nd : Int)] 102 (0, 0)) := by
    rw [hgr.block T (by omega) (fun e2 => hMT (by injection e2)), hs T hT]
    exact h.tr
  have t3 : w3.heap[T]? = some (.cells #[.pointer (some ⟨rt, 0, none⟩), .int .i64 ((nd.length : Int) + 1), .int .i64 ((bytesN nd : Int) + (e.d.size : Int))] 102 (0, 0)) := by
    have a1 := heap_setCell_same w2 T 1 _ _ (.int .i64 ((nd.length : Int) + 1)) t2
    have a2 := heap_setCell_same _ T 2 _ _ (.int .i64 ((bytesN nd : Int) + (e.d.size : Int))) a1
    rw [h3, a2]
    rfl
  have oth : ∀ k, k ≠ T → w3.heap[k]? = w2.heap[k]? := fun k hk => by
    rw [h3, heap_setCell_other _ _ _ _ hk, heap_setCell_other _ _ _ _ hk]
  have hbT : b ≠ T := by omega
  have hmT : m ≠ T := by omega
  have hb1 : b < w1.heap.size := heap_lt h1b
  have hm1 : m < w1.heap.size := h1m.lt
  have hg' : Good (ents (nd ++ [(⟨e, b, m⟩ : Nd)])) := by rw [ents_append]; exact hg
  have hno : kidN nd (parent e.path) (lastName e.path) = none := by
    have hwf := hg'.wf
    rw [kid_look h.wf.ok (last_no47 _), ← (hwf.ok ⟨e, b, m⟩ (by simp)).is_join]
    cases hl : lookN nd e.path with
    | none => rfl
    | some z =>
      obtain ⟨hz, hzp⟩ := lookN_some hl
      exact absurd hzp ((List.pairwise_append.1 hwf.one).2.2 z hz ⟨e, b, m⟩ (List.mem_singleton.2 rfl))
  refine ⟨⟨e, b, m⟩, rfl, h.add hg' t3 ?_ ?_ ?_ ?_ hb hm, by rw [h3]; simp, fun k hk hnk => ?_⟩
  · rw [show parent (⟨e, b, m⟩ : Nd).e.path = parent e.path from rfl, hup]
    obtain ⟨es, ck, q1, q2⟩ := hown
    refine ⟨n + 1, _, ⟨es, ck, (oth _ hMT.symm).trans q1, q2⟩, by simp; omega, ?_⟩
    exact KidsD.put (y := ⟨e, b, m⟩) hD hm0.isMap rfl hno
  · rw [oth b hbT, hgr.block b hb1 (fun e2 => by injection e2 with e2; omega)]
    exact h1b
  · obtain ⟨es, ck, q1, q2⟩ := h1m
    refine ⟨es, ck, ?_, q2⟩
    rw [oth m hmT, hgr.block m hm1 (fun e2 => by injection e2 with e2; omega)]
    exact q1
  · intro k hk hkT hkm
    rw [show parent (⟨e, b, m⟩ : Nd).e.path = parent e.path from rfl, hup] at hkm
    rw [oth k hkT, hgr.block k (by omega) (fun e2 => hkm (by injection e2)), hs k hk]
  · have hkT : k ≠ T := fun e2 => hnk (.inl e2)
    have hkm : k ≠ spotM rm o := fun e2 => by
      cases o with
      | none => exact hnk (.inr (.inr (.inl e2)))
      | some z => exact hnk (.inr (.inr (.inr ⟨z, hin, .inr e2⟩)))
    rw [oth k hkT, hgr.block k (by omega) (fun e2 => hkm (by injection e2)), hs k hk]
end Go.Proofs.YtdkodedocklmdaaGreatDoor
