/- What the laws of ways share: Find as it answers, kindAt, Plain (the same lines stand in RInside and SLaw). -/
import Derived.Test.YtdkodedocklmdaaGreatRWorks
import Derived.Test.YtdkodedocklmdaaGreatSWay
import Derived.Lib.QuietBelow
set_option linter.unusedSimpArgs false
set_option linter.unusedVariables false
namespace Go.Proofs.YtdkodedocklmdaaGreat
open Go.RowKit Go.Shelf Go.Maps Go.Sort
open Go.Lib hiding intOf size_eq
theorem find_as {T rt rm : Nat} {nd : List Nd} (s : ByteArray) (last : Bool) (w : World) (ht : TreeAt w T rt rm 0 nd) (hs : s.size ≤ 4294967296) {p : List UInt8} {t : List (List UInt8)} (h : wayF (ents nd) (!last) s.data.toList = .ok (p, t)) :
    Calls Tryz.prog 7 #[.pointer (some ⟨T, 0, none⟩), .string s, .bool last] w fun r w' => Below w.heap.size w w' ∧ r = .returned (.tuple #[.string (bs p), .nilIface]) := by
  refine (find_way s last w ht hs).mono fun r w' hr => ?_
  unfold FindR at hr
  rw [h] at hr
  exact hr
theorem find_err {T rt rm : Nat} {nd : List Nd} (s : ByteArray) (last : Bool) (w : World) (ht : TreeAt w T rt rm 0 nd) (hs : s.size ≤ 4294967296) {n : Nat} (h : wayF (ents nd) (!last) s.data.toList = .error n) :
    Calls Tryz.prog 7 #[.pointer (some ⟨T, 0, none⟩), .string s, .bool last] w fun r w' => Below w.heap.size w w' ∧ r = .returned (.tuple #[.string ⟨#[]⟩, errV n]) := by
  refine (find_way s last w ht hs).mono fun r w' hr => ?_
  unfold FindR at hr
  rw [h] at hr
  exact hr
theorem find_some {T rt rm : Nat} {nd : List Nd} (s : ByteArray) (last : Bool) (w : World) (ht : TreeAt w T rt rm 0 nd) (hs : s.size ≤ 4294967296) :
    Calls Tryz.prog 7 #[.pointer (some ⟨T, 0, none⟩), .string s, .bool last] w fun r w' => Below w.heap.size w w' ∧ ∃ x f, r = .returned (.tuple #[.string x, f]) := by
  refine (find_way s last w ht hs).mono fun r w' hr => ?_
  unfold FindR at hr
  cases h : wayF (ents nd) (!last) s.data.toList with
  | error n => rw [h] at hr; exact ⟨hr.1, _, _, hr.2⟩
  | ok z => rw [h] at hr; exact ⟨hr.1, _, _, hr.2⟩
theorem check_good {L : List Ent} {w : World} {T rt rm : Nat} {nd : List Nd} (ht : TreeAt w T rt rm 0 nd) (he : ents nd = L) : Good L := he ▸ ht.good
theorem wayF_errs {L : List Ent} {keep : Bool} {way : List UInt8} {n : Nat} (h : wayF L keep way = .error n) : n = 10 ∨ n = 13 ∨ n = 12 := runF_errs _ _ _ _ _ _ h
theorem wayF_inside {L : List Ent} (hL : Good L) {keep : Bool} {way p : List UInt8} {t : List (List UInt8)} (h : wayF L keep way = .ok (p, t)) : p = [] ∨ ∃ e, lookE L p = some e ∧ (e.k = 1 ∨ e.k = 2 ∨ (keep = true ∧ e.k = 3)) := runF_inside hL _ _ _ _ _ _ _ (.inl rfl) h
theorem kind_root {L : List Ent} (hL : Good L) : kindL L [] = 0 := by
  unfold kindL
  cases h : lookE L [] with
  | none => rfl
  | some e => exact absurd rfl (good_neat hL h).ne
theorem find_both {T rt rm : Nat} {nd : List Nd} (s : ByteArray) (last : Bool) (w : World) (ht : TreeAt w T rt rm 0 nd) (hs : s.size ≤ 4294967296) :
    Calls Tryz.prog 7 #[.pointer (some ⟨T, 0, none⟩), .string s, .bool last] w fun r w' => Below w.heap.size w w' ∧ r = .returned (.tuple #[.string (findB (wayF (ents nd) (!last) s.data.toList)), errV (findN (wayF (ents nd) (!last) s.data.toList))]) := by
  cases h : wayF (ents nd) (!last) s.data.toList with
  | error n => exact find_err s last w ht hs h
  | ok x =>
    obtain ⟨p, tr⟩ := x
    exact find_as s last w ht hs h
theorem findN_small {L : List Ent} {keep : Bool} {way : List UInt8} : findN (wayF L keep way) ≤ 32 := by
  cases h : wayF L keep way with
  | error n => rcases wayF_errs h with rfl | rfl | rfl <;> decide
  | ok x => exact Nat.zero_le _
theorem good_small {L : List Ent} (h : Good L) : Small L := fun e he => by
  have h1 := h.it e he
  have h2 := checkNo_small (itselfNo_check h1)
  have h3 := itselfNo_data h1
  have h4 : e.l.size ≤ 100 := by
    unfold itselfNo at h1
    split at h1
    · cases h1
    split at h1
    · omega
    split at h1
    · cases h1
    split at h1
    · cases h1
    rename_i hl
    split at h1
    · cases h1
    split at h1
    · cases h1
    rename_i hf
    by_cases hk : e.k = 3
    · by_cases hs : 100 < e.l.size
      · exact absurd ⟨hk, .inr (.inl hs)⟩ hl
      · omega
    · have : e.l.data.toList = [] := by
        by_cases hd : e.l.data.toList = []
        · exact hd
        · exact absurd (.inr ⟨hk, hd⟩) hf
      have : e.l.size = 0 := by
        show e.l.data.toList.length = 0
        rw [this]; rfl
      omega
  have h5 : e.p.size ≤ 255 := h2
  exact ⟨Nat.lt_of_le_of_lt h5 (by decide), Nat.lt_of_le_of_lt h3 (by decide), Nat.lt_of_le_of_lt h4 (by decide)⟩
theorem rs_load_guard {P : Program} {w : World} {ops : Array Oper} {rest : List Oper} {o : Oper} {a : Act} {Q : Act → Prop} (hw : Region.wanted o (yielded ops a.tmps) = true) (ty : TypeId) (x : Operand) (ho : o.op = .load ty x)
    (p : Addr) (hx : a.eval x = .pointer (some p)) (cs : List Value) (d : TypeDesc) (hc : ∀ j v, cs[j]? = some v → w.cell? (p.add j) = some v)
    (hu : P.underlying ty = some d) (hd : (match d with | .struct _ | .array _ _ => true | _ => false) = true) (hi : (P.info? ty).map (·.size) = some cs.length)
    (h : wpStill P ops w Q rest (a.put o.dst (.agg cs.toArray))) : wpStill P ops w Q (o :: rest) a := by
  refine wpStill_step (fun K hK => ?_)
  rw [if_pos hw]
  unfold Oper.still execOp
  simp only [ho, hx, Instr.loadAt, Instr.sureAddr, Sem.run_bind, Sem.run_pure, Result.andThen_ok, run_loadVar_at w p ty cs d hc hu hd hi]
  exact ⟨rfl, hK _ h⟩
theorem rs_val {P : Program} {w : World} {ops : Array Oper} {rest : List Oper} {o : Oper} {a : Act} {Q : Act → Prop} (v : Value) (hw : Region.wanted o (yielded ops a.tmps) = true) (hx : (execOp a.eval o).run P w = .ok (.value v) w) : wpStill P ops w Q (o :: rest) a = wpStill P ops w Q rest (a.put o.dst v) := by
  show (if Region.wanted o (yielded ops a.tmps) = true then o.still P a w (wpStill P ops w Q rest) else wpStill P ops w Q rest (a.put o.dst undef)) = _
  rw [if_pos hw]
  unfold Oper.still
  rw [hx]
  exact propext ⟨fun h => h.2, fun h => ⟨rfl, h⟩⟩
theorem rs_skip {P : Program} {w : World} {ops : Array Oper} {rest : List Oper} {o : Oper} {a : Act} {Q : Act → Prop} (hw : Region.wanted o (yielded ops a.tmps) = false) : wpStill P ops w Q (o :: rest) a = wpStill P ops w Q rest (a.put o.dst undef) := by
  show (if Region.wanted o (yielded ops a.tmps) = true then o.still P a w (wpStill P ops w Q rest) else wpStill P ops w Q rest (a.put o.dst undef)) = _
  rw [if_neg (by rw [hw]; decide)]
theorem quiet_load_guard {P : Program} {ops : Array Oper} {C : World → Prop} {rest : List Oper} {o : Oper} {a : Act} {Q : Act → Prop} (hw : Region.wanted o (yielded ops a.tmps) = true) (ty : TypeId) (x : Operand) (ho : o.op = .load ty x)
    (p : Addr) (hx : a.eval x = .pointer (some p)) (cs : List Value) (d : TypeDesc) (hc : ∀ w, C w → ∀ j v, cs[j]? = some v → w.cell? (p.add j) = some v)
    (hu : P.underlying ty = some d) (hd : (match d with | .struct _ | .array _ _ => true | _ => false) = true) (hi : (P.info? ty).map (·.size) = some cs.length)
    (h : wpQuiet P ops C Q rest (a.put o.dst (.agg cs.toArray))) : wpQuiet P ops C Q (o :: rest) a := by
  refine wpQuiet_step (fun K hK => ?_)
  rw [if_pos hw]
  refine ⟨.agg cs.toArray, fun w hC => ?_, hK _ h⟩
  unfold Oper.quietAt execOp
  simp only [ho, hx, Instr.loadAt, Instr.sureAddr, Sem.run_bind, Sem.run_pure, Result.andThen_ok, run_loadVar_at w p ty cs d (hc w hC) hu hd hi]
  exact ⟨rfl, rfl⟩
end Go.Proofs.YtdkodedocklmdaaGreat
