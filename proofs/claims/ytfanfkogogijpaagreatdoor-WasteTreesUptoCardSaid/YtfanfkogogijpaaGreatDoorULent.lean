/- Lists of entries that are lent with marks in their spare room; whether they were left as they were. -/
import Derived.Test.YtfanfkogogijpaaGreatDoorTOf
import Derived.Deep.MidRow
import Derived.StillTailTactics
import Derived.Laws.StructEq
set_option linter.unusedSimpArgs false
set_option linter.unusedVariables false
namespace Go.Proofs.YtfanfkogogijpaaGreatDoor
open Go.RowKit Go.Maps
open Go.Lib hiding intOf size_eq
def byteI (x : Int) : UInt8 := UInt8.ofNat (x % 256).toNat
theorem byteI_val (x : Int) : ((byteI x).toNat : Int) = x % 256 := by
  unfold byteI
  have h1 := Int.emod_nonneg x (show (256 : Int) ≠ 0 by decide)
  have h2 := Int.emod_lt_of_pos x (show (0 : Int) < 256 by decide)
  simp
  omega
/-- the mark of a place -/
def markI (k i : Int) : List UInt8 := [35, byteI k, byteI (k / 256), byteI i, byteI (i / 256)]
def markE (k i : Int) : Ent := ⟨bs (markI k i), 0, -7 - k, emp, emp⟩
theorem conv_markI (k i : Int) (w : World) : (convert 86 9 (.slice (some ⟨w.heap.size, 0, none⟩) 5 5)).run Tryz.prog (w.alloc (.cells #[.int .u8 35, .int .u8 (k % 256), .int .u8 (k / 256 % 256), .int .u8 (i % 256), .int .u8 (i / 256 % 256)] 5)) =
    .ok (.string (bs (markI k i))) (w.alloc (.cells #[.int .u8 35, .int .u8 (k % 256), .int .u8 (k / 256 % 256), .int .u8 (i % 256), .int .u8 (i / 256 % 256)] 5)) := by
  have e : ((markI k i).map (fun b => Value.int .u8 (b.toNat : Int))).toArray = #[.int .u8 35, .int .u8 (k % 256), .int .u8 (k / 256 % 256), .int .u8 (i % 256), .int .u8 (i / 256 % 256)] := by
    simp only [markI, List.map_cons, List.map_nil, byteI_val]
    rfl
  rw [← e]
  exact run_convert_bytes_back _ _ _ 5 ⟨w.heap.size, 0, none⟩ 5 (markI k i) Tryz.underlying86 Tryz.underlying5 Tryz.underlying9 (fun j hj => by
    have e2 : (⟨w.heap.size, 0, none⟩ : Addr).add j = ⟨w.heap.size, j, none⟩ := by unfold Addr.add; split <;> simp_all
    rw [e2]
    unfold World.cell?
    rw [World.alloc_heap_new]
    simp [List.getElem?_map, List.getElem?_eq_getElem hj])
theorem row_belowE {w w' : World} {base n size : Nat} {e : TypeId} {v : Value} {xs : List Value} (h : w.ownsRow base e size v n xs) (hb : Below w.heap.size w w') : w'.ownsRow base e size v n xs := by
  obtain ⟨h1, h2⟩ := h
  refine ⟨h1, ?_⟩
  rcases h2 with h2 | ⟨g, cap, cur, a, b, c, d⟩
  · exact .inl h2
  · exact .inr ⟨g, cap, cur, a, b, (hb.block g (Array.getElem?_eq_some_iff.1 c).1).trans c, d⟩
def marksE (k : Int) (n : Nat) : List Ent := (List.range n).map fun i => markE k (i : Nat)
theorem marksE_len (k : Int) (n : Nat) : (marksE k n).length = n := by simp [marksE]
theorem marksE_succ (k : Int) (n : Nat) : marksE k (n + 1) = marksE k n ++ [markE k (n : Nat)] := by
  unfold marksE
  rw [List.range_succ, List.map_append]
  rfl
theorem marksE_get {k : Int} {n i : Nat} (h : i < n) : (marksE k n)[i]? = some (markE k (i : Nat)) := by
  unfold marksE
  rw [List.getElem?_map, List.getElem?_range h]
  rfl
/-- a list that is lent: the marks stand in its spare room -/
def LentAt (w : World) (base : Nat) (v : Value) (L : List Ent) : Prop := ∃ g cap, v = .slice (some ⟨g, 0, none⟩) L.length cap ∧ w.ownsRow base 33 5 (.slice (some ⟨g, 0, none⟩) (L.length + 16) cap) (L.length + 16) ((L ++ marksE 90 16).flatMap entC)
theorem LentAt.below {w w' : World} {base B : Nat} {v : Value} {L : List Ent} (h : LentAt w base v L) (hb : Below B w w') (hB : w.heap.size ≤ B) : LentAt w' base v L := by
  obtain ⟨g, cap, h1, h2⟩ := h
  exact ⟨g, cap, h1, row_belowE h2 (hb.mono hB)⟩
theorem full_len (L : List Ent) : (L ++ marksE 90 16).length = L.length + 16 := by rw [List.length_append, marksE_len]
theorem LentAt.whole {w : World} {base : Nat} {v : Value} {L : List Ent} (h : LentAt w base v L) : ∃ g cap, v = .slice (some ⟨g, 0, none⟩) L.length cap ∧ L.length + 16 ≤ cap ∧ cap ≤ maxLen ∧ EntsAt w (.slice (some ⟨g, 0, none⟩) (L.length + 16) cap) (L ++ marksE 90 16) := by
  obtain ⟨g, cap, h1, h2⟩ := h
  rw [← full_len] at h2
  have h3 := ents_of_row h2
  obtain ⟨_, h4⟩ := h2
  rcases h4 with ⟨e, _⟩ | ⟨g2, cap2, cur, e, _, _, hnc, hcm, _⟩
  · cases e
  · injection e with e1 e2 e3
    subst e3
    rw [full_len] at hnc h3
    exact ⟨g, cap, h1, hnc, hcm, h3⟩
theorem LentAt.ents {w : World} {base : Nat} {v : Value} {L : List Ent} (h : LentAt w base v L) : EntsAt w v L := by
  obtain ⟨g, cap, rfl, h1, h2, o, cap2, e, h3, h4, h5⟩ := h.whole
  injection e with e1 e2 e3
  subst e1
  subst e3
  refine ⟨_, cap, rfl, by omega, h2, fun i x hx => ?_⟩
  exact h5 i x (by rw [List.getElem?_append_left (List.getElem?_eq_some_iff.1 hx).1]; exact hx)
theorem region_still_name2 {P : Program} {id : Nat} {Q : Exit → Act → World → Prop} {a : Act} {w : World} {l : List Oper} (hm : P.follows .mixedOrders = true) (hB : Region.lexB .any l.toArray = true)
    (h : ∀ wz, wz = w.drew → wpStill P l.toArray wz (fun a' => Q .normal a' wz) l a) : (Code.region id l.toArray true).wp P Q a w := wp_region_still_lit hm hB (h _ rfl)
theorem still_load_at2 {P : Program} {ops : Array Oper} {rest : List Oper} {o : Oper} {a : Act} {w : World} {Q : Act → Prop} (hgd : o.guard = none) (ty : TypeId) (x : Operand) (ho : o.op = .load ty x)
    (p : Addr) (hx : a.eval x = .pointer (some p)) (cs : List Value) (d : TypeDesc) (hc : ∀ j v, cs[j]? = some v → w.cell? (p.add j) = some v)
    (hu : P.underlying ty = some d) (hd : (match d with | .struct _ | .array _ _ => true | _ => false) = true) (hi : (P.info? ty).map (·.size) = some cs.length)
    (h : wpStill P ops w Q rest (a.put o.dst (.agg cs.toArray))) : wpStill P ops w Q (o :: rest) a := by
  refine wpStill_step (fun K hK => ?_)
  rw [if_pos (show Region.wanted o (yielded ops a.tmps) = true by simp [Region.wanted, hgd])]
  unfold Oper.still execOp
  simp only [ho, hx, Instr.loadAt, Instr.sureAddr, Sem.run_bind, Sem.run_pure, Result.andThen_ok, run_loadVar_at w p ty cs d hc hu hd hi]
  exact ⟨rfl, hK _ h⟩
end Go.Proofs.YtfanfkogogijpaaGreatDoor
