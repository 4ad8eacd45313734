/- dir, file, gone, laid; works. Printed by mkworks.py. -/
import Derived.Test.YtipfccfjniglbaaGreatDoorJDo
import Derived.Test.YtipfccfjniglbaaGreatDoorApEntries
import Derived.Lib.QuietBelow
import Derived.Deep.RegionHeld3
set_option linter.unusedSimpArgs false
set_option linter.unusedVariables false
namespace Go.Proofs.YtipfccfjniglbaaGreatDoor
open Go.RowKit Go.Maps Go.Shelf Go.Sort
open Go.Lib hiding intOf size_eq
set_option maxRecDepth 100000 in
theorem dirD (p : ByteArray) (w : World) : Calls Tryz.prog 31 #[.string p] w fun r w' => r = .returned (.agg #[.string p, .int .i64 1, .int .i64 493, .string ⟨#[]⟩, .string ⟨#[]⟩]) ∧ Below w.heap.size w w' := by
  have hb0 := World.alloc_heap_new w (.cells #[.string ⟨#[]⟩, .int .i64 0, .int .i64 0, .string ⟨#[]⟩, .string ⟨#[]⟩] 52)
  have HB0 := Lib.hid hb0
  clear hb0
  go_enter Tryz.func31, Tryz.ntmps31
  go_wp2_with (first
    | (refine wpList_store_row rfl _ _ _ rfl w.heap.size #[.string p, .int .i64 1, .int .i64 493, .string ⟨#[]⟩, .string ⟨#[]⟩] rfl rfl 52 _ HB0.out (by kernel_rfl) rfl (by kernel_rfl) ?_))
  refine bodyPost_ret_by (v := .agg #[.string p, .int .i64 1, .int .i64 493, .string ⟨#[]⟩, .string ⟨#[]⟩]) ?_ rfl ⟨rfl, ?_⟩
  · exact results_cell_row rfl _ _ w.heap.size _ _ _ _ rfl (grow_at HB0.out) Tryz.underlying52 rfl (by kernel_rfl)
  · have h := (Below.refl w.heap.size w).alloc (Nat.le_refl _) (.cells #[.string ⟨#[]⟩, .int .i64 0, .int .i64 0, .string ⟨#[]⟩, .string ⟨#[]⟩] 52)
    exact ⟨h.os, h.tape, h.output, by simp, fun j hj => (setRow_other _ w.heap.size j _ (by omega)).trans (h.block j hj)⟩
set_option maxRecDepth 100000 in
theorem fileD (p d : ByteArray) (w : World) : Calls Tryz.prog 32 #[.string p, .string d] w fun r w' => r = .returned (.agg #[.string p, .int .i64 2, .int .i64 420, .string d, .string ⟨#[]⟩]) ∧ Below w.heap.size w w' := by
  have hb0 := World.alloc_heap_new w (.cells #[.string ⟨#[]⟩, .int .i64 0, .int .i64 0, .string ⟨#[]⟩, .string ⟨#[]⟩] 52)
  have HB0 := Lib.hid hb0
  clear hb0
  go_enter Tryz.func32, Tryz.ntmps32
  go_wp2_with (first
    | (refine wpList_store_row rfl _ _ _ rfl w.heap.size #[.string p, .int .i64 2, .int .i64 420, .string d, .string ⟨#[]⟩] rfl rfl 52 _ HB0.out (by kernel_rfl) rfl (by kernel_rfl) ?_))
  refine bodyPost_ret_by (v := .agg #[.string p, .int .i64 2, .int .i64 420, .string d, .string ⟨#[]⟩]) ?_ rfl ⟨rfl, ?_⟩
  · exact results_cell_row rfl _ _ w.heap.size _ _ _ _ rfl (grow_at HB0.out) Tryz.underlying52 rfl (by kernel_rfl)
  · have h := (Below.refl w.heap.size w).alloc (Nat.le_refl _) (.cells #[.string ⟨#[]⟩, .int .i64 0, .int .i64 0, .string ⟨#[]⟩, .string ⟨#[]⟩] 52)
    exact ⟨h.os, h.tape, h.output, by simp, fun j hj => (setRow_other _ w.heap.size j _ (by omega)).trans (h.block j hj)⟩
set_option maxRecDepth 100000 in
theorem goneD (p : ByteArray) (w : World) : Calls Tryz.prog 34 #[.string p] w fun r w' => r = .returned (.agg #[.string p, .bool true, .string ⟨#[]⟩, .int .i64 0, .int .i64 0, .string ⟨#[]⟩, .string ⟨#[]⟩]) ∧ Below w.heap.size w w' := by
  have hb0 := World.alloc_heap_new w (.cells #[.string ⟨#[]⟩, .bool false, .string ⟨#[]⟩, .int .i64 0, .int .i64 0, .string ⟨#[]⟩, .string ⟨#[]⟩] 54)
  have HB0 := Lib.hid hb0
  clear hb0
  go_enter Tryz.func34, Tryz.ntmps34
  go_wp2_with (first
    | (refine wpList_store_row rfl _ _ _ rfl w.heap.size #[.string p, .bool true, .string ⟨#[]⟩, .int .i64 0, .int .i64 0, .string ⟨#[]⟩, .string ⟨#[]⟩] rfl rfl 54 _ HB0.out (by kernel_rfl) rfl (by kernel_rfl) ?_))
  refine bodyPost_ret_by (v := .agg #[.string p, .bool true, .string ⟨#[]⟩, .int .i64 0, .int .i64 0, .string ⟨#[]⟩, .string ⟨#[]⟩]) ?_ rfl ⟨rfl, ?_⟩
  · exact results_cell_row rfl _ _ w.heap.size _ _ _ _ rfl (grow_at HB0.out) Tryz.underlying54 rfl (by kernel_rfl)
  · have h := (Below.refl w.heap.size w).alloc (Nat.le_refl _) (.cells #[.string ⟨#[]⟩, .bool false, .string ⟨#[]⟩, .int .i64 0, .int .i64 0, .string ⟨#[]⟩, .string ⟨#[]⟩] 54)
    exact ⟨h.os, h.tape, h.output, by simp, fun j hj => (setRow_other _ w.heap.size j _ (by omega)).trans (h.block j hj)⟩
set_option maxRecDepth 100000 in
set_option maxHeartbeats 1000000 in
theorem laidD (y : Ent) (w : World) : Calls Tryz.prog 35 #[.agg #[.string y.p, .int .i64 y.k, .int .i64 y.m, .string y.d, .string y.l]] w fun r w' => r = .returned (.agg #[.string y.p, .bool false, .string y.p, .int .i64 y.k, .int .i64 y.m, .string y.d, .string y.l]) ∧ Below w.heap.size w w' := by
  obtain ⟨w0, hw0⟩ : ∃ x, x = w.alloc (.cells #[.string y.p, .int .i64 y.k, .int .i64 y.m, .string y.d, .string y.l] 52) := ⟨_, rfl⟩
  have hc0 : w0.heap[w.heap.size]? = some (.cells #[.string y.p, .int .i64 y.k, .int .i64 y.m, .string y.d, .string y.l] 52 (0, 0)) := by rw [hw0]; exact World.alloc_heap_new w _
  have hs0 : w0.heap.size = w.heap.size + 1 := by rw [hw0]; simp
  obtain ⟨w1, hw1⟩ : ∃ x, x = w0.alloc (.cells #[.string ⟨#[]⟩, .bool false, .string ⟨#[]⟩, .int .i64 0, .int .i64 0, .string ⟨#[]⟩, .string ⟨#[]⟩] 54) := ⟨_, rfl⟩
  have hb1 := World.alloc_heap_new w0 (.cells #[.string ⟨#[]⟩, .bool false, .string ⟨#[]⟩, .int .i64 0, .int .i64 0, .string ⟨#[]⟩, .string ⟨#[]⟩] 54)
  rw [← hw1, hs0] at hb1
  have hs1 : w1.heap.size = w.heap.size + 2 := by rw [hw1]; simp; omega
  have hc1 : w1.heap[w.heap.size]? = some (.cells #[.string y.p, .int .i64 y.k, .int .i64 y.m, .string y.d, .string y.l] 52 (0, 0)) := by
    rw [hw1, show w.heap.size = w.heap.size from rfl]
    exact (heap_alloc_old w0 _ (by omega)).trans hc0
  have hp1 : w1.cell? ⟨w.heap.size, 0, none⟩ = some (.string y.p) := block_cell (j := 0) hc1 rfl
  have hbel : Below w.heap.size w w1 := by
    rw [hw1, hw0]
    exact ((Below.refl _ _).alloc (Nat.le_refl _) _).alloc (by simp) _
  have hone : (#[.string y.p, .bool false, .string y.p, .int .i64 y.k, .int .i64 y.m, .string y.d, .string y.l] : Array Value).all (·.oneCell') = true := by simp [Value.oneCell']
  have hfin : Below w.heap.size w (w1.setRow (w.heap.size + 1) #[.string y.p, .bool false, .string y.p, .int .i64 y.k, .int .i64 y.m, .string y.d, .string y.l]) :=
    ⟨hbel.os, hbel.tape, hbel.output, by simpa using hbel.size, fun j hj => (setRow_other _ (w.heap.size + 1) j _ (by omega)).trans (hbel.block j hj)⟩
  have Hw0 := Lib.hid hw0
  have Hw1 := Lib.hid hw1
  have Hc1 := Lib.hid hc1
  have HB1 := Lib.hid hb1
  have Hone := Lib.hid hone
  have Hfin := Lib.hid hfin
  have Hg := Lib.hid (grow_at (cs := #[.string y.p, .bool false, .string y.p, .int .i64 y.k, .int .i64 y.m, .string y.d, .string y.l]) hb1)
  have Hs0 := Lib.hid hs0
  clear hw0 hw1 hc0 hc1 hb1 hbel hone hs0 hs1 hfin
  go_enter Tryz.func35, Tryz.ntmps35
  go_upto_region 1 with fail
  rw [← Hw0.out, ← Hw1.out]
  go_wp2_with (first
    | (refine wpList_load_row rfl _ _ rfl w.heap.size rfl 52 #[.string y.p, .int .i64 y.k, .int .i64 y.m, .string y.d, .string y.l] (0, 0) _ Hc1.out Tryz.underlying52 rfl (by kernel_rfl) ?_)
    | (refine wpList_store_row rfl _ _ _ rfl (w.heap.size + 1) #[.string y.p, .bool false, .string y.p, .int .i64 y.k, .int .i64 y.m, .string y.d, .string y.l] rfl rfl 54 _ HB1.out (by kernel_rfl) rfl Hone.out ?_))
  refine bodyPost_ret_by (v := .agg #[.string y.p, .bool false, .string y.p, .int .i64 y.k, .int .i64 y.m, .string y.d, .string y.l]) ?_ rfl ⟨rfl, Hfin.out⟩
  exact results_cell_row rfl _ _ (w.heap.size + 1) _ _ _ _ rfl Hg.out Tryz.underlying54 rfl (by kernel_rfl)
def wA : Ent := ⟨⟨#[97]⟩, 1, 493, ⟨#[]⟩, ⟨#[]⟩⟩
def wB : Ent := ⟨⟨#[97, 47, 98]⟩, 2, 420, ⟨#[120]⟩, ⟨#[]⟩⟩
def wC : Ent := ⟨⟨#[99]⟩, 2, 420, ⟨#[121]⟩, ⟨#[]⟩⟩
def wB2 : Ent := ⟨⟨#[97, 47, 98]⟩, 2, 420, ⟨#[122]⟩, ⟨#[]⟩⟩
def wD : Ent := ⟨⟨#[100]⟩, 2, 420, ⟨#[121]⟩, ⟨#[]⟩⟩
def goneC (p : ByteArray) : Chg := ⟨p, true, entZ⟩
theorem wChk1 : checkL [wA, wB, wC] = (0, 0) := by kernel_rfl
theorem wChk2 : checkL [wA, wB2, wD] = (0, 0) := by kernel_rfl
theorem wDif : chgL [wA, wB, wC] [wA, wB2, wD] = [layOf wB2, goneC ⟨#[99]⟩, layOf wD] := by kernel_rfl
theorem wApp : applyL [wA, wB, wC] [layOf wB2, goneC ⟨#[99]⟩, layOf wD] = .ok [wA, wB2, wD] := by kernel_rfl
theorem wApp2 : applyL [wA, wB, wC] [goneC ⟨#[99]⟩] = .ok [wA, wB] := by kernel_rfl
theorem wBk : chgL [wA, wB] [wA, wB, wC] = [layOf wC] := by kernel_rfl
theorem wApp3 : applyL [wA, wB, wC] [goneC ⟨#[122]⟩] = .error (10, 1, 0) := by kernel_rfl
theorem three_ents (w : World) (a b c : Ent) : EntsAt (w.alloc (.cells #[.string a.p, .int .i64 a.k, .int .i64 a.m, .string a.d, .string a.l, .string b.p, .int .i64 b.k, .int .i64 b.m, .string b.d, .string b.l, .string c.p, .int .i64 c.k, .int .i64 c.m, .string c.d, .string c.l] 52)) (.slice (some ⟨w.heap.size, 0, none⟩) 3 3) [a, b, c] :=
  ents_of_row (base := 0) ⟨rfl, .inr ⟨w.heap.size, 3, _, rfl, Nat.zero_le _, World.alloc_heap_new w _, Nat.le_refl _, by unfold maxLen; omega, rfl, rfl⟩⟩
theorem one_chg (w : World) (a : Chg) : ChgsAt (w.alloc (.cells #[.string a.p, .bool a.g, .string a.e.p, .int .i64 a.e.k, .int .i64 a.e.m, .string a.e.d, .string a.e.l] 54)) (.slice (some ⟨w.heap.size, 0, none⟩) 1 1) [a] :=
  items_of_row (base := 0) chgC_len ⟨rfl, .inr ⟨w.heap.size, 1, _, rfl, Nat.zero_le _, World.alloc_heap_new w _, Nat.le_refl _, by unfold maxLen; omega, rfl, rfl⟩⟩
theorem three_chgs (w : World) (a b c : Chg) : ChgsAt (w.alloc (.cells #[.string a.p, .bool a.g, .string a.e.p, .int .i64 a.e.k, .int .i64 a.e.m, .string a.e.d, .string a.e.l, .string b.p, .bool b.g, .string b.e.p, .int .i64 b.e.k, .int .i64 b.e.m, .string b.e.d, .string b.e.l, .string c.p, .bool c.g, .string c.e.p, .int .i64 c.e.k, .int .i64 c.e.m, .string c.e.d, .string c.e.l] 54)) (.slice (some ⟨w.heap.size, 0, none⟩) 3 3) [a, b, c] :=
  items_of_row (base := 0) chgC_len ⟨rfl, .inr ⟨w.heap.size, 3, _, rfl, Nat.zero_le _, World.alloc_heap_new w _, Nat.le_refl _, by unfold maxLen; omega, rfl, rfl⟩⟩
def smallB (e : Ent) : Bool := decide (e.p.size < 1152921504606846976) && decide (e.d.size < 1152921504606846976) && decide (e.l.size < 1152921504606846976)
theorem small_of {L : List Ent} (h : L.all smallB = true) : Small L := fun e he => by
  have := List.all_eq_true.1 h e he
  unfold smallB at this
  simp only [Bool.and_eq_true, decide_eq_true_eq] at this
  exact ⟨this.1.1, this.1.2, this.2⟩
theorem smallC_of {C : List Chg} (h : C.all (fun c => decide (c.p.size < 1152921504606846976) && smallB c.e) = true) : SmallC C := fun c hc => by
  have := List.all_eq_true.1 h c hc
  unfold smallB at this
  simp only [Bool.and_eq_true, decide_eq_true_eq] at this
  exact ⟨this.1, this.2.1.1, this.2.1.2, this.2.2⟩
/-- Diff of two trees -/
theorem diff_ok {A B : List Ent} {va vb : Value} {W : World} (ha : EntsAt W va A) (hb : EntsAt W vb B) (sa : Small A) (sb : Small B) (hg : Handle W) (ca : (checkL A).1 = 0) (cb : (checkL B).1 = 0) {M : List Chg} (hM : chgL A B = M) :
    Calls Tryz.prog 12 #[va, vb] W fun r W' => ∃ v, r = .returned (.tuple #[v, .nilIface]) ∧ W'.ownsRow W.heap.size 54 7 v M.length (M.flatMap chgC) ∧ Below W.heap.size W W' :=
  (diff_any va vb A B W ha hb sa sb (by have := (good_of_check ca).len; have := (good_of_check cb).len; omega) hg).mono fun r W' ⟨h1, v, e, h2, h3⟩ => by
    obtain ⟨rfl, h4, _⟩ := h3.c ca cb
    rw [hM] at h4
    exact ⟨v, h2, h4, h1⟩
theorem apply_ok {A L : List Ent} {C : List Chg} {va vl : Value} {W : World} (ha : EntsAt W va A) (hc : ChgsAt W vl C) (sa : Small A) (sc : SmallC C) (hA : A.length ≤ 1048576) (hC : C.length ≤ 1048576) (hg : Handle W) (h : applyL A C = .ok L) :
    Calls Tryz.prog 20 #[va, vl] W fun r W' => ∃ v, r = .returned (.tuple #[v, .nilIface]) ∧ RowE W' W.heap.size v L ∧ Below W.heap.size W W' :=
  (apply_any va vl A C W ha hc sa sc hA hC hg).mono fun r W' ⟨h1, v, e, h2, h3⟩ => by
    obtain ⟨rfl, h4⟩ := h3.ok L h
    exact ⟨v, h2, h4, h1⟩
theorem apply_no {A : List Ent} {C : List Chg} {va vl : Value} {W : World} (ha : EntsAt W va A) (hc : ChgsAt W vl C) (sa : Small A) (sc : SmallC C) (hA : A.length ≤ 1048576) (hC : C.length ≤ 1048576) (hg : Handle W) {n ln at_ : Nat} (h : applyL A C = .error (n, ln, at_)) :
    Calls Tryz.prog 20 #[va, vl] W fun r W' => r = .returned (.tuple #[.slice none 0 0, fltV (n : Int) (ln : Int) (at_ : Int)]) ∧ Below W.heap.size W W' :=
  (apply_any va vl A C W ha hc sa sc hA hC hg).mono fun r W' ⟨h1, v, e, h2, h3⟩ => by
    obtain ⟨rfl, rfl⟩ := h3.err _ _ _ h
    exact ⟨h2, h1⟩
theorem back_ok {A L : List Ent} {C M : List Chg} {va vl : Value} {W : World} (ha : EntsAt W va A) (hc : ChgsAt W vl C) (sa : Small A) (sc : SmallC C) (hA : A.length ≤ 1048576) (hC : C.length ≤ 1048576) (hg : Handle W) (h : applyL A C = .ok L) (hM : chgL L A = M) :
    Calls Tryz.prog 25 #[va, vl] W fun r W' => ∃ v, r = .returned (.tuple #[v, .nilIface]) ∧ W'.ownsRow W.heap.size 54 7 v M.length (M.flatMap chgC) ∧ Below W.heap.size W W' :=
  (back_any va vl A C W ha hc sa sc hA hC hg).mono fun r W' ⟨h1, v, e, h2, h3⟩ => by
    obtain ⟨rfl, h4, _⟩ := h3.ok L h
    rw [hM] at h4
    exact ⟨v, h2, h4, h1⟩
theorem back_no {A : List Ent} {C : List Chg} {va vl : Value} {W : World} (ha : EntsAt W va A) (hc : ChgsAt W vl C) (sa : Small A) (sc : SmallC C) (hA : A.length ≤ 1048576) (hC : C.length ≤ 1048576) (hg : Handle W) {n ln at_ : Nat} (h : applyL A C = .error (n, ln, at_)) :
    Calls Tryz.prog 25 #[va, vl] W fun r W' => r = .returned (.tuple #[.slice none 0 0, fltV (n : Int) (ln : Int) (at_ : Int)]) ∧ Below W.heap.size W W' :=
  (back_any va vl A C W ha hc sa sc hA hC hg).mono fun r W' ⟨h1, v, e, h2, h3⟩ => by
    obtain ⟨rfl, rfl⟩ := h3.err _ _ _ h
    exact ⟨h2, h1⟩
theorem eql_chg (x : Chg) (w : World) : (binOp .eql 54 (.agg #[.string x.p, .bool x.g, .string x.e.p, .int .i64 x.e.k, .int .i64 x.e.m, .string x.e.d, .string x.e.l]) (.agg #[.string x.p, .bool x.g, .string x.e.p, .int .i64 x.e.k, .int .i64 x.e.m, .string x.e.d, .string x.e.l])).run Tryz.prog w = .ok (.bool true) w := by
  have h := eqChg x.p x.g x.e.p x.e.k x.e.m x.e.d x.e.l x.p x.g x.e.p x.e.k x.e.m x.e.d x.e.l w
  rw [show chgEq ⟨x.p, x.g, ⟨x.e.p, x.e.k, x.e.m, x.e.d, x.e.l⟩⟩ ⟨x.p, x.g, ⟨x.e.p, x.e.k, x.e.m, x.e.d, x.e.l⟩⟩ = true from chgEq_iff.2 rfl] at h
  simp only [binOp]
  simp [Op.equal, Op.maxDepth, h]
theorem EntsAt.new {w : World} {v : Value} {L : List Ent} (h : EntsAt w v L) (o : Obj) : EntsAt (w.alloc o) v L := h.below ((Below.refl _ _).alloc (Nat.le_refl _) _) (Nat.le_refl _)
theorem RowE.chgs {w : World} {base : Nat} {v : Value} {C : List Chg} (h : w.ownsRow base 54 7 v C.length (C.flatMap chgC)) : ChgsAt w v C := items_of_row chgC_len h
theorem ChgsAt.new {w : World} {v : Value} {C : List Chg} (h : ChgsAt w v C) (o : Obj) : ChgsAt (w.alloc o) v C := ItemsAt.below h ((Below.refl _ _).alloc (Nat.le_refl _) _) (Nat.le_refl _)
set_option maxRecDepth 100000 in
set_option maxHeartbeats 8000000 in
theorem works10_any (w : World) (hg : Handle w) : Calls Tryz.prog 17 #[] w fun e w' => e = .returned (.bool true) ∧ Below w.heap.size w w' := by
  have HD := Lib.hid (fun W => dirD ⟨#[97]⟩ W)
  have HF1 := Lib.hid (fun W => fileD ⟨#[97, 47, 98]⟩ ⟨#[120]⟩ W)
  have HF2 := Lib.hid (fun W => fileD ⟨#[99]⟩ ⟨#[121]⟩ W)
  have HF3 := Lib.hid (fun W => fileD ⟨#[97, 47, 98]⟩ ⟨#[122]⟩ W)
  have HF4 := Lib.hid (fun W => fileD ⟨#[100]⟩ ⟨#[121]⟩ W)
  have Hg := Lib.hid hg
  clear hg
  go_enter Tryz.func17, Tryz.ntmps17
  go_wp2_with fail
  refine (HD.out _).mono ?_
  rintro r w1 ⟨rfl, hb⟩
  have B1 := Lib.hid hb
  clear hb
  go_wp2_with fail
  refine (HF1.out _).mono ?_
  rintro r w2 ⟨rfl, hb⟩
  have B2 := Lib.hid (B1.out.trans (hb.mono B1.out.size))
  clear hb B1
  go_wp2_with fail
  refine (HF2.out _).mono ?_
  rintro r w3 ⟨rfl, hb⟩
  have B3 := Lib.hid (B2.out.trans (hb.mono B2.out.size))
  clear hb B2
  go_wp2_with fail
  refine (HD.out _).mono ?_
  rintro r w4 ⟨rfl, hb⟩
  have A4 := Lib.hid ((three_ents w3 wA wB wC).below hb (Nat.le_refl _))
  have hl4 := hb.size
  have B4 := Lib.hid ((B3.out.alloc B3.out.size _).trans (hb.mono (by have := B3.out.size; simp; omega)))
  generalize w3.heap.size = ba at *
  clear hb B3
  go_wp2_with fail
  refine (HF3.out _).mono ?_
  rintro r w5 ⟨rfl, hb⟩
  have A5 := Lib.hid (A4.out.below hb (Nat.le_refl _))
  have B5 := Lib.hid (B4.out.trans (hb.mono B4.out.size))
  clear hb B4 A4
  go_wp2_with fail
  refine (HF4.out _).mono ?_
  rintro r w6 ⟨rfl, hb⟩
  have A6 := Lib.hid (A5.out.below hb (Nat.le_refl _))
  have B6 := Lib.hid (B5.out.trans (hb.mono B5.out.size))
  clear hb B5 A5
  go_wp2_with fail
  refine (diff_ok (W := w6.alloc _) (A6.out.new _) (three_ents w6 wA wB2 wD) (small_of (by decide)) (small_of (by decide)) (Hg.out.below (B6.out.alloc B6.out.size _) (Nat.le_refl _)) (by rw [wChk1]) (by rw [wChk2]) wDif).mono ?_
  rintro r w8 ⟨v3, rfl, hr, hb⟩
  have A8 := Lib.hid ((A6.out.new _).below hb (Nat.le_refl _))
  have E8 := Lib.hid ((three_ents w6 wA wB2 wD).below hb (Nat.le_refl _))
  have L8 := Lib.hid (RowE.chgs hr)
  have K8 := Lib.hid ((hb.block w6.heap.size (by simp)).trans (World.alloc_heap_new w6 _))
  have B8 := Lib.hid ((B6.out.alloc B6.out.size _).trans (hb.mono (by have := B6.out.size; simp; omega)))
  generalize w6.heap.size = bb at *
  clear hb hr A6 B6 HD HF1 HF2 HF3 HF4
  go_wp2_with fail
  have hS : ∀ W, Below w8.heap.size w8 W → W.cell? ⟨bb, 5, none⟩ = some (.string ⟨#[97, 47, 98]⟩) ∧ W.cell? ⟨bb, 6, none⟩ = some (.int .i64 2) ∧ W.cell? ⟨bb, 7, none⟩ = some (.int .i64 420) ∧ W.cell? ⟨bb, 8, none⟩ = some (.string ⟨#[122]⟩) ∧ W.cell? ⟨bb, 9, none⟩ = some (.string ⟨#[]⟩) ∧ W.cell? ⟨bb, 10, none⟩ = some (.string ⟨#[100]⟩) ∧ W.cell? ⟨bb, 11, none⟩ = some (.int .i64 2) ∧ W.cell? ⟨bb, 12, none⟩ = some (.int .i64 420) ∧ W.cell? ⟨bb, 13, none⟩ = some (.string ⟨#[121]⟩) ∧ W.cell? ⟨bb, 14, none⟩ = some (.string ⟨#[]⟩) := fun W hW => by
    have hb := (hW.block bb (heap_lt K8.out)).trans K8.out
    exact ⟨block_cell (j := 5) hb rfl, block_cell (j := 6) hb rfl, block_cell (j := 7) hb rfl, block_cell (j := 8) hb rfl, block_cell (j := 9) hb rfl, block_cell (j := 10) hb rfl, block_cell (j := 11) hb rfl, block_cell (j := 12) hb rfl, block_cell (j := 13) hb rfl, block_cell (j := 14) hb rfl⟩
  have hsd := hS w8.drew (below_drew (Below.refl _ _))
  have HS := Lib.hid hS
  clear hS
  go_region_held3 (fun W => W.cell? ⟨bb, 5, none⟩ = some (.string ⟨#[97, 47, 98]⟩) ∧ W.cell? ⟨bb, 6, none⟩ = some (.int .i64 2) ∧ W.cell? ⟨bb, 7, none⟩ = some (.int .i64 420) ∧ W.cell? ⟨bb, 8, none⟩ = some (.string ⟨#[122]⟩) ∧ W.cell? ⟨bb, 9, none⟩ = some (.string ⟨#[]⟩) ∧ W.cell? ⟨bb, 10, none⟩ = some (.string ⟨#[100]⟩) ∧ W.cell? ⟨bb, 11, none⟩ = some (.int .i64 2) ∧ W.cell? ⟨bb, 12, none⟩ = some (.int .i64 420) ∧ W.cell? ⟨bb, 13, none⟩ = some (.string ⟨#[121]⟩) ∧ W.cell? ⟨bb, 14, none⟩ = some (.string ⟨#[]⟩)) (first | assumption | go_keep)
    (first
    | (go_at_call 35; first
       | (refine (laidD wB2 _).mono ?_; rintro r w9 ⟨rfl, hb⟩
          have D9 := Lib.hid ((below_drew (Below.refl _ _) : Below w8.heap.size w8 w8.drew).trans hb)
          have hs9 := HS.out w9 D9.out
          clear hb hsd)
       | (refine (laidD wD _).mono ?_; rintro r w11 ⟨rfl, hb⟩
          have D11 := Lib.hid (D10.out.trans (hb.mono D10.out.size))
          have hs11 := HS.out w11 D11.out
          clear hb hs10))
    | (go_at_call 34; refine (goneD ⟨#[99]⟩ _).mono ?_; rintro r w10 ⟨rfl, hb⟩
       have D10 := Lib.hid (D9.out.trans (hb.mono D9.out.size))
       have hs10 := HS.out w10 D10.out
       clear hb hs9))
  have A11 := Lib.hid (A8.out.below D11.out (Nat.le_refl _))
  have E11 := Lib.hid (E8.out.below D11.out (Nat.le_refl _))
  have L11 := Lib.hid (ItemsAt.below L8.out D11.out (Nat.le_refl _))
  have B11 := Lib.hid (B8.out.trans (D11.out.mono B8.out.size))
  clear hs11 HS D9 D10 D11 A8 E8 L8 B8 K8
  go_wp2_with fail
  refine (apply_ok (W := w11.alloc _) (A11.out.new _) (three_chgs w11 (layOf wB2) (goneC ⟨#[99]⟩) (layOf wD)) (small_of (by decide)) (smallC_of (by decide)) (by decide) (by decide) (Hg.out.below (B11.out.alloc B11.out.size _) (Nat.le_refl _)) wApp).mono ?_
  rintro r w12 ⟨v6, rfl, hr, hb⟩
  have A12 := Lib.hid ((A11.out.new _).below hb (Nat.le_refl _))
  have E12 := Lib.hid ((E11.out.new _).below hb (Nat.le_refl _))
  have L12 := Lib.hid (ItemsAt.below (ChgsAt.new L11.out _) hb (Nat.le_refl _))
  have W12 := Lib.hid (ItemsAt.below (three_chgs w11 (layOf wB2) (goneC ⟨#[99]⟩) (layOf wD)) hb (Nat.le_refl _))
  have C12 := Lib.hid hr.ents
  have B12 := Lib.hid ((B11.out.alloc B11.out.size _).trans (hb.mono (by have := B11.out.size; simp; omega)))
  generalize w11.heap.size = bw at *
  clear hb hr A11 E11 L11 B11
  go_wp2_with fail
  refine (goneD ⟨#[99]⟩ _).mono ?_
  rintro r w13 ⟨rfl, hb⟩
  have A13 := Lib.hid (A12.out.below hb (Nat.le_refl _))
  have E13 := Lib.hid (E12.out.below hb (Nat.le_refl _))
  have L13 := Lib.hid (ItemsAt.below L12.out hb (Nat.le_refl _))
  have W13 := Lib.hid (ItemsAt.below W12.out hb (Nat.le_refl _))
  have C13 := Lib.hid (C12.out.below hb (Nat.le_refl _))
  have B13 := Lib.hid (B12.out.trans (hb.mono B12.out.size))
  clear hb A12 E12 L12 W12 C12 B12
  go_wp2_with fail
  refine (back_ok (W := w13.alloc _) (A13.out.new _) (one_chg w13 (goneC ⟨#[99]⟩)) (small_of (by decide)) (smallC_of (by decide)) (by decide) (by decide) (Hg.out.below (B13.out.alloc B13.out.size _) (Nat.le_refl _)) wApp2 wBk).mono ?_
  rintro r w14 ⟨v8, rfl, hr, hb⟩
  have A14 := Lib.hid ((A13.out.new _).below hb (Nat.le_refl _))
  have E14 := Lib.hid ((E13.out.new _).below hb (Nat.le_refl _))
  have L14 := Lib.hid (ItemsAt.below (ChgsAt.new L13.out _) hb (Nat.le_refl _))
  have W14 := Lib.hid (ItemsAt.below (ChgsAt.new W13.out _) hb (Nat.le_refl _))
  have C14 := Lib.hid ((C13.out.new _).below hb (Nat.le_refl _))
  have M14 := Lib.hid (RowE.chgs hr)
  have B14 := Lib.hid ((B13.out.alloc B13.out.size _).trans (hb.mono (by have := B13.out.size; simp; omega)))
  clear hb hr A13 E13 L13 W13 C13 B13
  go_wp2_with fail
  refine (goneD ⟨#[122]⟩ _).mono ?_
  rintro r w15 ⟨rfl, hb⟩
  have A15 := Lib.hid (A14.out.below hb (Nat.le_refl _))
  have E15 := Lib.hid (E14.out.below hb (Nat.le_refl _))
  have L15 := Lib.hid (ItemsAt.below L14.out hb (Nat.le_refl _))
  have W15 := Lib.hid (ItemsAt.below W14.out hb (Nat.le_refl _))
  have M15 := Lib.hid (ItemsAt.below M14.out hb (Nat.le_refl _))
  have C15 := Lib.hid (C14.out.below hb (Nat.le_refl _))
  have B15 := Lib.hid (B14.out.trans (hb.mono B14.out.size))
  clear hb A14 E14 L14 W14 C14 M14 B14
  go_wp2_with fail
  refine (apply_no (W := w15.alloc _) (A15.out.new _) (one_chg w15 (goneC ⟨#[122]⟩)) (small_of (by decide)) (smallC_of (by decide)) (by decide) (by decide) (Hg.out.below (B15.out.alloc B15.out.size _) (Nat.le_refl _)) wApp3).mono ?_
  rintro r w16 ⟨rfl, hb⟩
  have A16 := Lib.hid ((A15.out.new _).below hb (Nat.le_refl _))
  have E16 := Lib.hid ((E15.out.new _).below hb (Nat.le_refl _))
  have L16 := Lib.hid (ItemsAt.below (ChgsAt.new L15.out _) hb (Nat.le_refl _))
  have W16 := Lib.hid (ItemsAt.below (ChgsAt.new W15.out _) hb (Nat.le_refl _))
  have M16 := Lib.hid (ItemsAt.below (ChgsAt.new M15.out _) hb (Nat.le_refl _))
  have C16 := Lib.hid ((C15.out.new _).below hb (Nat.le_refl _))
  have B16 := Lib.hid ((B15.out.alloc B15.out.size _).trans (hb.mono (by have := B15.out.size; simp; omega)))
  clear hb A15 E15 L15 W15 C15 M15 B15
  unfold fltV
  go_wp2_with fail
  refine (at_fault 10 1 0 w16 (by decide) (by decide) (Hg.out.below B16.out (Nat.le_refl _))).mono ?_
  rintro r w17 ⟨rfl, hb⟩
  have A17 := Lib.hid (A16.out.below hb (Nat.le_refl _))
  have E17 := Lib.hid (E16.out.below hb (Nat.le_refl _))
  have L17 := Lib.hid (ItemsAt.below L16.out hb (Nat.le_refl _))
  have W17 := Lib.hid (ItemsAt.below W16.out hb (Nat.le_refl _))
  have M17 := Lib.hid (ItemsAt.below M16.out hb (Nat.le_refl _))
  have C17 := Lib.hid (C16.out.below hb (Nat.le_refl _))
  have B17 := Lib.hid (B16.out.trans (hb.mono B16.out.size))
  clear hb A16 E16 L16 W16 C16 M16 B16
  obtain ⟨om, cm, rfl, q1, q2, q3⟩ := M17.out
  obtain ⟨am, rfl, q4, q5⟩ := q3 0 _ rfl
  rw [Nat.zero_mul, show am.add 0 = am from if_pos rfl] at q5
  obtain ⟨oa, ca, ea, _, _, q6⟩ := A17.out
  injection ea with ea _ _
  obtain ⟨aa, ha, _, q7⟩ := q6 2 _ rfl
  rw [← ea] at ha
  injection ha with ha
  subst ha
  have Km := Lib.hid (show ∀ W, (∃ p : Regrown, W = grow (redrawn w17 p.d) p.os) → ∀ j x, (chgC (layOf wC))[j]? = some x → W.cell? (am.add j) = some x from fun W ⟨q, hq⟩ j x hj => by rw [hq]; exact cell_regrown (q5 j x hj) q.d q.os)
  have Ka := Lib.hid (show ∀ W, (∃ p : Regrown, W = grow (redrawn w17 p.d) p.os) → ∀ j x, (entC wC)[j]? = some x → W.cell? ((⟨ba, 10, none⟩ : Addr).add j) = some x from fun W ⟨q, hq⟩ j x hj => by
    rw [hq]
    have := q7 j x hj
    rw [show (⟨ba, 0, none⟩ : Addr).add (2 * 5) = ⟨ba, 10, none⟩ from if_neg (by decide)] at this
    exact cell_regrown this q.d q.os)
  have cS := fun d os => Calls.regrown_of ((same_chgs v3 (.slice (some ⟨bw, 0, none⟩) 3 3) [layOf wB2, goneC ⟨#[99]⟩, layOf wD] [layOf wB2, goneC ⟨#[99]⟩, layOf wD] (grow (redrawn w17 d) os) (ItemsAt.below L17.out (below_regrown w17 d os) (Nat.le_refl _)) (ItemsAt.below W17.out (below_regrown w17 d os) (Nat.le_refl _)) (by decide) (by decide)).mono (R' := fun e w' => e = .returned (.bool true) ∧ Below (grow (redrawn w17 d) os).heap.size (grow (redrawn w17 d) os) w') (fun e w' ⟨h1, q, h2, h3⟩ => ⟨by rw [h2, h3.2 rfl], h1⟩))
  have cE := fun d os => Calls.regrown_of ((same_ents v6 (.slice (some ⟨bb, 0, none⟩) 3 3) [wA, wB2, wD] [wA, wB2, wD] (grow (redrawn w17 d) os) (C17.out.below (below_regrown w17 d os) (Nat.le_refl _)) (E17.out.below (below_regrown w17 d os) (Nat.le_refl _)) (by decide) (by decide)).mono (R' := fun e w' => e = .returned (.bool true) ∧ Below (grow (redrawn w17 d) os).heap.size (grow (redrawn w17 d) os) w') (fun e w' ⟨h1, q, h2, h3⟩ => ⟨by rw [h2, h3.2 rfl], h1⟩))
  have cL := fun d os => Calls.regrown_of (laidD wC (grow (redrawn w17 d) os))
  have CS := Lib.hid cS
  have CE := Lib.hid cE
  have CL := Lib.hid cL
  clear cS cE cL q1 q2 q3 q4 q5 q6 q7 A17 E17 L17 W17 M17 C17 ea
  go_wp2_with fail
  refine wp_region_quiet_below (by kernel_rfl) (by kernel_rfl) ?_
  iterate 16 (quiet_step (first | exact CS.out _ _ | exact CE.out _ _))
  refine quiet_load_guard (by rfl) _ _ rfl am rfl [.string ⟨#[99]⟩, .bool false, .string ⟨#[99]⟩, .int .i64 2, .int .i64 420, .string ⟨#[121]⟩, .string ⟨#[]⟩] _ Km.out Tryz.underlying54 rfl (by kernel_rfl) ?_
  iterate 2 (quiet_step (fail))
  refine quiet_load_guard (by rfl) _ _ rfl ⟨ba, 10, none⟩ rfl [.string ⟨#[99]⟩, .int .i64 2, .int .i64 420, .string ⟨#[121]⟩, .string ⟨#[]⟩] _ Ka.out Tryz.underlying52 rfl (by kernel_rfl) ?_
  have heq : ∀ W, (binOp .eql 54 (.agg #[.string ⟨#[99]⟩, .bool false, .string ⟨#[99]⟩, .int .i64 2, .int .i64 420, .string ⟨#[121]⟩, .string ⟨#[]⟩]) (.agg #[.string wC.p, .bool false, .string wC.p, .int .i64 wC.k, .int .i64 wC.m, .string wC.d, .string wC.l])).run Tryz.prog W = .ok (.bool true) W := fun W => eql_chg (layOf wC) W
  repeat (quiet_step (exact CL.out _ _))
  refine wpQuiet_nil ?_
  intro wf hwf
  obtain ⟨⟨dq, oq⟩, hwf2⟩ := hwf
  subst hwf2
  have Bf := Lib.hid (B17.out.trans ((below_regrown w17 dq oq).mono B17.out.size))
  go_wp2_with fail
  go_ret
  exact ⟨rfl, Bf.out⟩
end Go.Proofs.YtipfccfjniglbaaGreatDoor
