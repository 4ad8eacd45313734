/- flate.coded: the code of lengths. -/
import Derived.Test.YtjielagabnkimaaDoorFSymbol
import Derived.Test.YtjielagabnkimaaDoorFShortA
import Derived.Laws.ResultCell
import Derived.Laws.Rows
import Derived.Laws.Tables
set_option linter.unusedSimpArgs false
set_option linter.unusedVariables false
namespace Go.Proofs.YtjielagabnkimaaDoor
open Go.RowKit
/-- a slice of numbers, wherever it lies -/
def IntsAt (w : World) (g off : Nat) (l : List Nat) : Prop := ∀ j, j < l.length → w.cell? ⟨g, off + j, none⟩ = some (.int .i64 ((l.getD j 0 : Nat) : Int))
/-- the value of a code -/
def codeCs (l : List Nat) (sv : Value) : List Value := ((List.range 16).map fun n => encI (cntN l n)) ++ [sv]
def codeV (l : List Nat) (sv : Value) : Value := .agg (codeCs l sv).toArray
/-- a code's variable, untouched -/
def zeroCode : Array Value := #[Value.int IntKind.i64 0, Value.int IntKind.i64 0, Value.int IntKind.i64 0, Value.int IntKind.i64 0, Value.int IntKind.i64 0, Value.int IntKind.i64 0, Value.int IntKind.i64 0, Value.int IntKind.i64 0, Value.int IntKind.i64 0, Value.int IntKind.i64 0, Value.int IntKind.i64 0, Value.int IntKind.i64 0, Value.int IntKind.i64 0, Value.int IntKind.i64 0, Value.int IntKind.i64 0, Value.int IntKind.i64 0, Value.slice none 0 0]
/-- the counts of these lengths, these symbols -/
def SymAt (w : World) (C base : Nat) (l ss : List Nat) : Prop := ∃ cur sv, w.heap[C]? = some (.cells cur 64 (0, 0)) ∧ cur.size = 17 ∧ (∀ n, n < 16 → cur[n]? = some (encI (cntN l n))) ∧ cur[16]? = some sv ∧ w.ownsRow base 3 1 sv ss.length (ss.map encI)
theorem symAt_zero (w : World) (C base : Nat) (h : w.heap[C]? = some (.cells zeroCode 64 (0, 0))) : SymAt w C base [] [] := by
  refine ⟨_, .slice none 0 0, h, rfl, fun n hn => ?_, rfl, World.ownsRow_nil _ _ _ _⟩
  have : ∀ n, n < 16 → zeroCode[n]? = some (Value.int IntKind.i64 0) := by
    intro n hn
    match n, hn with
    | 0, _ | 1, _ | 2, _ | 3, _ | 4, _ | 5, _ | 6, _ | 7, _ | 8, _ | 9, _ | 10, _ | 11, _ | 12, _ | 13, _ | 14, _ | 15, _ => rfl
    | n + 16, h => omega
  rw [this n hn]
  simp [encI, cntN, idxN]
theorem SymAt.count {w : World} {C base : Nat} {l ss : List Nat} (h : SymAt w C base l ss) (n : Nat) (hn : n < 16) : w.cell? ⟨C, n, none⟩ = some (.int .i64 ((cntN l n : Nat) : Int)) ∧ w.frozen? ⟨C, n, none⟩ = false := by
  obtain ⟨cur, sv, ho, _, h3, _⟩ := h
  exact ⟨by rw [cell_of_row _ _ _ _ _ _ ho]; exact h3 n hn, frozen_of_row _ _ _ _ _ ho⟩
theorem SymAt.more {w : World} {C base : Nat} {l ss : List Nat} (h : SymAt w C base l ss) (x : Nat) (hx : x < 16) (hx0 : 0 < x) : SymAt (w.setCell ⟨C, x, none⟩ (.int .i64 (((cntN l x : Nat) : Int) + 1))) C base (l ++ [x]) ss := by
  obtain ⟨cur, sv, ho, hz, h3, h4, h5⟩ := h
  refine ⟨_, sv, heap_setCell_same w C x cur _ _ ho, by rw [Array.size_setIfInBounds]; exact hz, fun n hn => ?_, ?_, ?_⟩
  · rw [cntN_snoc]
    by_cases hnx : x = n
    · subst hnx
      rw [Array.getElem?_setIfInBounds_self_of_lt (by omega), if_pos ⟨rfl, by omega⟩]
      rfl
    · rw [Array.getElem?_setIfInBounds_ne hnx, h3 n hn, if_neg (fun h => hnx h.1)]
      rfl
  · rw [Array.getElem?_setIfInBounds_ne (by omega)]; exact h4
  · refine h5.kept (grown_setCell w C x _) (.inr (fun e => ?_))
    have := notRow_row h5 ho (.inr (fun cs fz e2 => by cases e2))
    exact this e.symm
theorem SymAt.nought {w : World} {C base : Nat} {l ss : List Nat} (h : SymAt w C base l ss) : SymAt w C base (l ++ [0]) ss := by
  obtain ⟨cur, sv, ho, hz, h3, h4, h5⟩ := h
  refine ⟨cur, sv, ho, hz, fun n hn => ?_, h4, h5⟩
  rw [cntN_snoc, if_neg (fun h => h.2 h.1.symm)]
  exact h3 n hn

theorem SymAt.last {w : World} {C base : Nat} {l ss : List Nat} (h : SymAt w C base l ss) : ∃ p n c, w.cell? ⟨C, 16, none⟩ = some (.slice p n c) ∧ w.frozen? ⟨C, 16, none⟩ = false ∧ w.ownsRow base 3 1 (.slice p n c) ss.length (ss.map encI) := by
  obtain ⟨cur, sv, ho, hz, h3, h4, h5⟩ := h
  obtain ⟨p, n, c, rfl⟩ := ownsRow_slice h5
  exact ⟨p, n, c, by rw [cell_of_row _ _ _ _ _ _ ho]; exact h4, frozen_of_row _ _ _ _ _ ho, h5⟩
theorem SymAt.push {w w1 : World} {C base : Nat} {l ss : List Nat} (h : SymAt w C base l ss) {p : Option Addr} {n c j : Nat} {tmp : Obj} {v' : Value} (hc : w.cell? ⟨C, 16, none⟩ = some (.slice p n c)) (hr : w.ownsRow base 3 1 (.slice p n c) ss.length (ss.map encI))
    (hown : w1.ownsRow base 3 1 v' (ss.length + 1) (ss.map encI ++ [encI j])) (hg : (w.alloc tmp).grownBy w1 (Value.ownBlock (.slice p n c))) :
    w1.cell? ⟨C, 16, none⟩ = some (.slice p n c) ∧ w1.frozen? ⟨C, 16, none⟩ = false ∧ SymAt (w1.setCell ⟨C, 16, none⟩ v') C base l (ss ++ [j]) := by
  obtain ⟨cur, sv, ho, hz, h3, h4, h5⟩ := h
  have hoa : (w.alloc tmp).heap[C]? = some (.cells cur 64 (0, 0)) := (heap_alloc_old w tmp (heap_lt ho)).trans ho
  have ho1 : w1.heap[C]? = some (.cells cur 64 (0, 0)) := (hg.block C (heap_lt hoa) (notRow_row (hr.alloc tmp) hoa (.inr (fun cs fz e => by cases e)))).trans hoa
  rw [cell_of_row _ _ _ _ _ _ ho, h4] at hc
  refine ⟨by rw [cell_of_row _ _ _ _ _ _ ho1, h4]; exact hc, frozen_of_row _ _ _ _ _ ho1, _, v', heap_setCell_same w1 C 16 cur _ _ ho1, by rw [Array.size_setIfInBounds]; exact hz, fun n hn => ?_, ?_, ?_⟩
  · rw [Array.getElem?_setIfInBounds_ne (by omega)]; exact h3 n hn
  · rw [Array.getElem?_setIfInBounds_self_of_lt (by omega)]
  · rw [List.length_append, List.map_append]
    refine hown.kept (grown_setCell w1 C 16 _) (.inr (fun e => ?_))
    exact notRow_row hown ho1 (.inr (fun cs fz e2 => by cases e2)) e.symm
theorem SymAt.whole {w : World} {C base : Nat} {l ss : List Nat} (h : SymAt w C base l ss) : ∃ cc sv, cc = (codeCs l sv).toArray ∧ w.heap[C]? = some (.cells cc 64 (0, 0)) ∧ cc.all (·.oneCell') = true ∧ cc.size = 17 ∧ w.ownsRow base 3 1 sv ss.length (ss.map encI) := by
  obtain ⟨cur, sv, ho, hz, h3, h4, h5⟩ := h
  have hc : cur = (codeCs l sv).toArray := by
    apply Array.ext_getElem?
    intro i
    by_cases hi : i < 16
    · rw [h3 i hi]
      simp [codeCs, List.getElem?_append, hi]
    · by_cases hi2 : i = 16
      · subst hi2
        rw [h4]
        simp [codeCs]
      · rw [Array.getElem?_eq_none (by omega), Array.getElem?_eq_none (by simp [codeCs]; omega)]
  refine ⟨cur, sv, hc, ho, ?_, hz, h5⟩
  rw [hc]
  obtain ⟨p, n, c, rfl⟩ := ownsRow_slice h5
  rw [Array.all_eq_true_iff_forall_mem]
  intro x hx
  simp only [codeCs, List.mem_toArray, List.mem_append, List.mem_map, List.mem_singleton] at hx
  rcases hx with ⟨a, _, rfl⟩ | rfl <;> rfl
theorem belowC {w wr w' : World} {base : Nat} {e : TypeId} {size : Nat} {v : Value} {n : Nat} {xs : List Value} {tmp : Obj} (h : wr.ownsRow base e size v n xs) (hb : Below base w wr) (hB : base ≤ wr.heap.size) (hg : (wr.alloc tmp).grownBy w' v.ownBlock) : Below base w w' :=
  (hb.alloc hB tmp).trans ⟨hg.os, hg.tape, hg.output, hg.size, fun k hk => hg.block k (by simp only [World.size_alloc]; omega) (fun e => by have := (h.lt k e.symm).1; omega)⟩
theorem block_kept {w w1 : World} {B base : Nat} {e t : TypeId} {size : Nat} {v : Value} {n : Nat} {xs : List Value} {tmp : Obj} {cs : Array Value} (hB : w.heap[B]? = some (.cells cs t (0, 0))) (hr : w.ownsRow base e size v n xs) (hg : (w.alloc tmp).grownBy w1 v.ownBlock) (ht : t ≠ e) : w1.heap[B]? = some (.cells cs t (0, 0)) := by
  have hoa := (heap_alloc_old w tmp (heap_lt hB)).trans hB
  exact (hg.block B (heap_lt hoa) (notRow_row (hr.alloc tmp) hoa (.inr (fun cs fz e => by cases e; exact ht rfl)))).trans hoa

set_option maxRecDepth 100000 in
set_option maxHeartbeats 8000000 in
theorem coded_any (g off cap : Nat) (l : List Nat) (w : World) (hI : IntsAt w g off l) (hg : g < w.heap.size) (hll : l.length ≤ 400) (h15 : ∀ x ∈ l, x ≤ 15) :
    Calls Tryd.prog 65 #[.slice (some ⟨g, off, none⟩) l.length cap] w fun e w' => ∃ sv, e = .returned (.tuple #[codeV l sv, .int .i64 (32768 - ((kraft l : Nat) : Int))]) ∧ w'.ownsRow w.heap.size 3 1 sv (symsN l).length ((symsN l).map encI) ∧ Below w.heap.size w w' := by
  obtain ⟨i0, hi, hz0, hz1, hz2⟩ := info_parts Tryd.info_int
  obtain ⟨m, hm⟩ : ∃ m, m = l.length := ⟨_, rfl⟩
  rw [← hm]
  have hm400 : m ≤ 400 := by omega
  have hk : ∀ i, kraft (l.take i) ≤ 400 * 16384 := by
    intro i
    have hh : ∀ l : List Nat, kraft l ≤ l.length * 16384 := by
      intro l
      induction l with
      | nil => simp [kraft]
      | cons a t ih =>
        have : (if a = 0 then 0 else 2 ^ (15 - a)) ≤ 16384 := by
          split
          · omega
          · exact (Nat.pow_le_pow_right (by decide) (by omega) : 2 ^ (15 - a) ≤ 2 ^ 14)
        unfold kraft at ih ⊢
        rw [List.map_cons, List.sum_cons, List.length_cons]
        omega
    have := hh (l.take i)
    have : (l.take i).length ≤ 400 := by rw [List.length_take]; omega
    omega
  have Hi := Lib.hid hi
  have Hz0 := Lib.hid hz0
  have Hz1 := Lib.hid hz1
  have Hz2 := Lib.hid hz2
  have Hm := Lib.hid hm
  have HI := Lib.hid hI
  have H15 := Lib.hid h15
  have Hk := Lib.hid hk
  clear hi hz0 hz1 hz2 hI h15 hll hm hk
  go_enter Tryd.func65, Tryd.ntmps65
  go_wp2_with fail
  have hC0 : SymAt ((w.alloc (.cells zeroCode 64)).alloc (.cells zeroCode 64)) (w.heap.size + 1) w.heap.size [] [] := by
    refine symAt_zero _ _ _ ?_
    have h := World.alloc_heap_new (w.alloc (.cells zeroCode 64)) (.cells zeroCode 64)
    simp only [World.size_alloc] at h
    exact h
  have hB0 : ((w.alloc (.cells zeroCode 64)).alloc (.cells zeroCode 64)).heap[w.heap.size]? = some (.cells zeroCode 64 (0, 0)) := by
    rw [heap_alloc_old _ _ (by simp)]
    exact World.alloc_heap_new w _
  have hW0 : Below w.heap.size w ((w.alloc (.cells zeroCode 64)).alloc (.cells zeroCode 64)) := ((Below.refl _ _).alloc (Nat.le_refl _) _).alloc (by simp) _
  unfold zeroCode at hC0 hB0 hW0
  have HC0 := Lib.hid hC0
  have HB0 := Lib.hid hB0
  have HW0 := Lib.hid hW0
  clear hC0 hB0 hW0
  generalize hCC : w.heap.size + 1 = C at *
  generalize hBB : w.heap.size = B at *
  generalize hw0 : (w.alloc (.cells #[Value.int IntKind.i64 0, Value.int IntKind.i64 0, Value.int IntKind.i64 0, Value.int IntKind.i64 0, Value.int IntKind.i64 0, Value.int IntKind.i64 0, Value.int IntKind.i64 0, Value.int IntKind.i64 0, Value.int IntKind.i64 0, Value.int IntKind.i64 0, Value.int IntKind.i64 0, Value.int IntKind.i64 0, Value.int IntKind.i64 0, Value.int IntKind.i64 0, Value.int IntKind.i64 0, Value.int IntKind.i64 0, Value.slice none 0 0] 64)).alloc (.cells #[Value.int IntKind.i64 0, Value.int IntKind.i64 0, Value.int IntKind.i64 0, Value.int IntKind.i64 0, Value.int IntKind.i64 0, Value.int IntKind.i64 0, Value.int IntKind.i64 0, Value.int IntKind.i64 0, Value.int IntKind.i64 0, Value.int IntKind.i64 0, Value.int IntKind.i64 0, Value.int IntKind.i64 0, Value.int IntKind.i64 0, Value.int IntKind.i64 0, Value.int IntKind.i64 0, Value.int IntKind.i64 0, Value.slice none 0 0] 64) = w0 at *
  have HBB := Lib.hid hBB
  clear hw0 hBB
  go_loopw [5, 13] (fun lv iv wr => ∃ i : Nat, iv = .int .i64 (i : Int) ∧ i ≤ m ∧ lv = .int .i64 (32768 - ((kraft (l.take i) : Nat) : Int)) ∧ SymAt wr C B (l.take i) [] ∧ wr.heap[B]? = some (.cells #[Value.int IntKind.i64 0, Value.int IntKind.i64 0, Value.int IntKind.i64 0, Value.int IntKind.i64 0, Value.int IntKind.i64 0, Value.int IntKind.i64 0, Value.int IntKind.i64 0, Value.int IntKind.i64 0, Value.int IntKind.i64 0, Value.int IntKind.i64 0, Value.int IntKind.i64 0, Value.int IntKind.i64 0, Value.int IntKind.i64 0, Value.int IntKind.i64 0, Value.int IntKind.i64 0, Value.int IntKind.i64 0, Value.slice none 0 0] 64 (0, 0)) ∧ Below B w wr) (fun _ iv _ => m - (intOf iv).toNat)
  case atStart => exact ⟨0, rfl, by omega, by simp [kraft], by simpa using HC0.out, HB0.out, HW0.out⟩
  case round =>
    obtain ⟨i, rfl, him, rfl, hC, hB, hW⟩ := hrel
    have HC := Lib.hid hC
    have HB := Lib.hid hB
    have HW := Lib.hid hW
    clear hC hB hW
    by_cases hlt : (i : Int) < (m : Int)
    · have hil : i < l.length := by rw [← Hm.out]; omega
      obtain ⟨x, hx⟩ : ∃ x, x = l.getD i 0 := ⟨_, rfl⟩
      have hx15 : x ≤ 15 := by
        rw [hx, List.getD_eq_getElem?_getD, List.getElem?_eq_getElem hil]
        exact H15.out _ (List.getElem_mem hil)
      have cx : wr.cell? ⟨g, off + i, none⟩ = some (.int .i64 (x : Int)) := by
        rw [HW.out.cell (p := ⟨g, off + i, none⟩) (by show g < B; exact hg), hx]
        exact HI.out i hil
      obtain ⟨c1, c2⟩ := HC.out.count x (by omega)
      have hcn := cntN_le (l.take i) x
      rw [List.length_take] at hcn
      obtain ⟨cn, hcn2⟩ : ∃ c, c = cntN (l.take i) x := ⟨_, rfl⟩
      rw [← hcn2] at c1 hcn
      have htk := take_snoc hil
      rw [← hx] at htk
      have hkr := Hk.out i
      obtain ⟨kr, hkr2⟩ : ∃ k, k = kraft (l.take i) := ⟨_, rfl⟩
      rw [← hkr2] at hkr ⊢
      obtain ⟨ex, hex⟩ : ∃ e, e = 15 - x := ⟨_, rfl⟩
      have eS : (15 : Int) - (x : Int) = (ex : Int) := by omega
      obtain ⟨P, hP⟩ : ∃ P, P = 2 ^ ex := ⟨_, rfl⟩
      have eP : (2 : Int) ^ ex = (P : Int) := by rw [hP]; simp
      have hP1 : P ≤ 32768 := by rw [hP]; exact (Nat.pow_le_pow_right (by decide) (by omega) : 2 ^ ex ≤ 2 ^ 15)
      have Hx := Lib.hid hx
      have Hcn2 := Lib.hid hcn2
      have Htk := Lib.hid htk
      have Hkr2 := Lib.hid hkr2
      have Hex := Lib.hid hex
      have HP := Lib.hid hP
      clear hx hcn2 htk hkr2 hex hP
      by_cases hx0 : 0 < (x : Int)
      · go_wp2_with fail
        go_roundw
        case rel =>
          refine ⟨i + 1, by go_num, by omega, ?_, ?_, ?_, ?_⟩
          · rw [Htk.out, kraft_snoc, if_neg (by omega), ← Hkr2.out, ← Hex.out, ← HP.out]
            go_num
          · rw [Htk.out]
            have := HC.out.more x (by omega) (by omega)
            rw [← Hcn2.out] at this
            exact this
          · rw [heap_setCell_other _ _ _ _ (by show B ≠ C; omega)]
            exact HB.out
          · exact HW.out.setCell (p := ⟨C, x, none⟩) (by show B ≤ C; omega) _
        case measure => simp [intOf]; omega
      · have hx00 : x = 0 := by omega
        go_wp2_with fail
        go_roundw
        case rel =>
          refine ⟨i + 1, by go_num, by omega, ?_, ?_, HB.out, HW.out⟩
          · rw [Htk.out, kraft_snoc, if_pos hx00, ← Hkr2.out]; simp
          · rw [Htk.out, hx00]
            exact HC.out.nought
        case measure => simp [intOf]; omega
    · obtain rfl : i = m := by omega
      have hall : l.take i = l := List.take_of_length_le (by rw [← Hm.out]; exact Nat.le_refl _)
      rw [hall] at HC ⊢
      clear hall
      obtain ⟨kr, hkr2⟩ : ∃ k, k = kraft l := ⟨_, rfl⟩
      rw [← hkr2]
      have Hkr2 := Lib.hid hkr2
      clear hkr2
      go_wp2_with fail
      go_loopw [8] (fun nv wr => ∃ k : Nat, nv = .int .i64 ((k : Int) + 1) ∧ k ≤ 15 ∧ SymAt wr C B l (symsTo l k) ∧ wr.heap[B]? = some (.cells #[Value.int IntKind.i64 0, Value.int IntKind.i64 0, Value.int IntKind.i64 0, Value.int IntKind.i64 0, Value.int IntKind.i64 0, Value.int IntKind.i64 0, Value.int IntKind.i64 0, Value.int IntKind.i64 0, Value.int IntKind.i64 0, Value.int IntKind.i64 0, Value.int IntKind.i64 0, Value.int IntKind.i64 0, Value.int IntKind.i64 0, Value.int IntKind.i64 0, Value.int IntKind.i64 0, Value.int IntKind.i64 0, Value.slice none 0 0] 64 (0, 0)) ∧ Below B w wr) (fun nv _ => 17 - (intOf nv).toNat)
      case atStart => exact ⟨0, rfl, by omega, HC.out, HB.out, HW.out⟩
      case round =>
        obtain ⟨k, rfl, hk15, hC, hB, hW⟩ := hrel
        have HC := Lib.hid hC
        have HB := Lib.hid hB
        have HW := Lib.hid hW
        clear hC hB hW
        by_cases hkl : (k : Int) + 1 ≤ 15
        · go_wp2_with fail
          go_loopw [38] (fun jv wr => ∃ j : Nat, jv = .int .i64 (j : Int) ∧ j ≤ i ∧ SymAt wr C B l (symsTo l k ++ idxTo l (k + 1) j) ∧ wr.heap[B]? = some (.cells #[Value.int IntKind.i64 0, Value.int IntKind.i64 0, Value.int IntKind.i64 0, Value.int IntKind.i64 0, Value.int IntKind.i64 0, Value.int IntKind.i64 0, Value.int IntKind.i64 0, Value.int IntKind.i64 0, Value.int IntKind.i64 0, Value.int IntKind.i64 0, Value.int IntKind.i64 0, Value.int IntKind.i64 0, Value.int IntKind.i64 0, Value.int IntKind.i64 0, Value.int IntKind.i64 0, Value.int IntKind.i64 0, Value.slice none 0 0] 64 (0, 0)) ∧ Below B w wr) (fun jv _ => i - (intOf jv).toNat)
          case atStart => exact ⟨0, rfl, by omega, by simpa [idxTo] using HC.out, HB.out, HW.out⟩
          case round =>
            obtain ⟨j, rfl, hjm, hC, hB, hW⟩ := hrel
            have HC := Lib.hid hC
            have HB := Lib.hid hB
            have HW := Lib.hid hW
            clear hC hB hW
            by_cases hjl : (j : Int) < (i : Int)
            · have hil : j < l.length := by rw [← Hm.out]; omega
              obtain ⟨x, hx⟩ : ∃ x, x = l.getD j 0 := ⟨_, rfl⟩
              have hx15 : x ≤ 15 := by
                rw [hx, List.getD_eq_getElem?_getD, List.getElem?_eq_getElem hil]
                exact H15.out _ (List.getElem_mem hil)
              have cx : wr.cell? ⟨g, off + j, none⟩ = some (.int .i64 (x : Int)) := by
                rw [HW.out.cell (p := ⟨g, off + j, none⟩) (by show g < B; exact hg), hx]
                exact HI.out j hil
              have hstep := idxTo_succ l (k + 1) j
              rw [← hx] at hstep
              have Hx := Lib.hid hx
              clear hx
              by_cases hxk : x = k + 1
              · rw [if_pos hxk] at hstep
                have hxb : ((x : Int) == (k : Int) + 1) = true := beq_iff_eq.2 (by omega)
                obtain ⟨p, n, c, d1, d2, d3⟩ := HC.out.last
                obtain ⟨sl, hsl⟩ : ∃ s, s = symsTo l k ++ idxTo l (k + 1) j := ⟨_, rfl⟩
                have hslb : sl.length ≤ 400 * 16 := by
                  rw [hsl, List.length_append]
                  have h1 : (idxTo l (k + 1) j).length ≤ j := by
                    have := List.length_filter_le (fun i => l.getD i 0 == k + 1) (List.range j)
                    rwa [List.length_range] at this
                  have h2 : ∀ n, (symsTo l n).length ≤ n * 400 := by
                    intro n
                    induction n with
                    | zero => simp [symsTo]
                    | succ n ih => have := symsTo_cnt l n; have := cntN_le l (n + 1); rw [← Hm.out] at this; omega
                  have := h2 k
                  have : k * 400 ≤ 15 * 400 := Nat.mul_le_mul_right _ hk15
                  omega
                rw [← hsl] at d3
                have HC2 := HC.out
                rw [← hsl] at HC2
                have HC3 := Lib.hid HC2
                have Hstep := Lib.hid hstep
                have D3 := Lib.hid d3
                have Hsl := Lib.hid hsl
                clear HC2 hstep d3 hsl
                go_wp2_with (at_builtin; refine wpList_append_own_at _ rfl _ _ 52 rfl B 3 i0 (.int .i64 0) 1 8 Tryd.underlying52 Hi.out Hz0.out Hz1.out Hz2.out rfl (by decide) _ _ _ rfl (D3.out.alloc _) ⟨wr.heap.size, 0, none⟩ 1 1 [.int .i64 (j : Int)] rfl rfl (cell_one_new _ _ _) (by simp [Value.oneCell']) (by unfold maxLen; omega) (by omega) (by simp only [World.size_alloc]; have := heap_lt HB.out; omega) ?_; intro v' w1 hown' hgrow _ _
                             obtain ⟨p', n', c', rfl⟩ := ownsRow_slice hown'
                             obtain ⟨e1, e2, e3⟩ := HC3.out.push (j := j) d1 D3.out hown' hgrow
                             have hB1 := block_kept HB.out D3.out hgrow (by decide)
                             have hW1 := belowC D3.out HW.out (by have := heap_lt HB.out; omega) hgrow
                             have E3 := Lib.hid e3
                             have HB1 := Lib.hid hB1
                             have HW1 := Lib.hid hW1
                             clear e3 hB1 hW1 hown' hgrow)
                go_roundw
                case rel =>
                  refine ⟨j + 1, by go_num, by omega, ?_, ?_, ?_⟩
                  · rw [Hstep.out, ← List.append_assoc, ← Hsl.out]; exact E3.out
                  · rw [heap_setCell_other _ _ _ _ (by show B ≠ C; omega)]
                    exact HB1.out
                  · exact HW1.out.setCell (p := ⟨C, 16, none⟩) (by show B ≤ C; omega) _
                case measure => simp [intOf]; omega
              · rw [if_neg hxk, List.append_nil] at hstep
                have hxb : ((x : Int) == (k : Int) + 1) = false := beq_eq_false_iff_ne.2 (by omega)
                have Hstep := Lib.hid hstep
                clear hstep
                go_wp2_with fail
                go_roundw
                case rel => exact ⟨j + 1, by go_num, by omega, by rw [Hstep.out]; exact HC.out, HB.out, HW.out⟩
                case measure => simp [intOf]; omega
            · obtain rfl : j = i := by omega
              go_wp2_with fail
              go_roundw
              case rel => exact ⟨k + 1, by go_num, by omega, by rw [symsTo, ← idxTo_all, ← Hm.out]; exact HC.out, HB.out, HW.out⟩
              case measure => simp [intOf]; omega
        · obtain rfl : k = 15 := by omega
          obtain ⟨cc, sv, hcc, hrow, hone, hsz, hown⟩ := HC.out.whole
          have Hcc := Lib.hid hcc
          have Hown := Lib.hid hown
          clear hcc hown
          go_wp2_with (first
            | (refine wpList_load_row rfl _ _ rfl C rfl 64 cc (0, 0) _ hrow Tryd.underlying64 rfl (by rw [hsz]; kernel_rfl) ?_)
            | (refine wpList_store_row rfl _ _ _ rfl B cc rfl rfl 64 _ HB.out (by rw [hsz]; kernel_rfl) (by rw [hsz]; rfl) hone ?_))
          have hrow2 := setRow_heap wr B _ cc _ _ HB.out
          refine bodyPost_ret (v := .tuple #[.agg cc, .int .i64 (32768 - (kr : Int))]) ?_ rfl ⟨sv, ?_, ?_, ?_⟩
          · rw [results_cell_tmp rfl]
            show ((loadVar 64 ⟨B, 0, none⟩).run Tryd.prog _).andThen _ = _
            rw [run_loadVar_row _ B 64 64 cc (0, 0) _ hrow2 Tryd.underlying64 rfl (by rw [hsz]; kernel_rfl)]
            rfl
          · rw [Hkr2.out, Hcc.out]; rfl
          · rw [HBB.out]
            exact Hown.out.kept (row := some B) ⟨rfl, rfl, rfl, by simp, fun k _ hk => setRow_other wr B k cc (fun e => hk (by rw [e]))⟩ (.inr (fun e => notRow_row Hown.out HB.out (.inr (fun cs fz e2 => by cases e2)) e.symm))
          · rw [HBB.out]
            exact ⟨HW.out.os, HW.out.tape, HW.out.output, by simpa using HW.out.size, fun k hk => (setRow_other wr B k cc (by omega)).trans (HW.out.block k hk)⟩
end Go.Proofs.YtjielagabnkimaaDoor
