/- flate's source of bits: the codes of a block. -/
import Derived.Test.YtjielagabnkimaaDoorFFixed
import Derived.Test.YtjielagabnkimaaDoorFInf
import Derived.Deep.RegionWith
import Derived.Deep.DeepCutAuto
import Derived.Deep.CutBlock
set_option linter.unusedSimpArgs false
set_option linter.unusedVariables false
namespace Go.Proofs.YtjielagabnkimaaDoor
open Go.RowKit
/-- a whole row of numbers -/
def RowAt (w : World) (g : Nat) (l : List Nat) : Prop := w.heap[g]? = some (.cells (l.map encI).toArray 3 (0, 0))
theorem RowAt.cell {w : World} {g : Nat} {l : List Nat} (h : RowAt w g l) (j : Nat) (hj : j < l.length) : w.cell? ⟨g, j, none⟩ = some (.int .i64 ((l.getD j 0 : Nat) : Int)) ∧ w.frozen? ⟨g, j, none⟩ = false := by
  refine ⟨?_, frozen_of_row _ _ _ _ _ h⟩
  rw [cell_of_row _ _ _ _ _ _ h, List.getElem?_toArray, List.getElem?_map, List.getElem?_eq_getElem hj, List.getD_eq_getElem?_getD, List.getElem?_eq_getElem hj]
  rfl
theorem RowAt.set {w : World} {g : Nat} {l : List Nat} (h : RowAt w g l) (j x : Nat) : RowAt (w.setCell ⟨g, j, none⟩ (.int .i64 (x : Int))) g (l.set j x) := by
  unfold RowAt
  rw [heap_setCell_same w g j _ _ _ h, List.setIfInBounds_toArray, List.map_set]
  rfl
theorem RowAt.ints {w : World} {g : Nat} {l : List Nat} (h : RowAt w g l) : IntsAt w g 0 l := fun j hj => by rw [Nat.zero_add]; exact (h.cell j hj).1
/-- the table order -/
def OrdAt (w : World) : Prop := ∀ i, i < 19 → w.cell? ⟨3, i, none⟩ = some (.int .i64 ((ordT.getD i 0 : Nat) : Int))
theorem OrdAt.keeps {ok : Nat → Obj → Prop} {w w' : World} (h : OrdAt w) (hl : 3 < w.heap.size) (hk : Keeps ok w w') (hok : ∀ o, ok 3 o) : OrdAt w' := by
  intro i hi
  rw [World.cell?_of_block (w := w) (hk.block _ _ (Array.getElem?_eq_getElem hl) (hok _) |>.trans (Array.getElem?_eq_getElem hl).symm)]
  exact h i hi
theorem ownsRow_nn {w : World} {base : Nat} {e : TypeId} {size : Nat} {p : Option Addr} {m c n : Nat} {xs : List Value} (h : w.ownsRow base e size (.slice p m c) n xs) : m = n := by
  rcases h.2 with ⟨h1, h2⟩ | ⟨g, cap, cur, h1, _⟩
  · injection h1 with _ h3 _
    rw [h3, h2]
  · injection h1
def okC (B R : Nat) (k : Nat) (o : Obj) : Prop := k < B ∧ k ≠ R
def CodesOut (R : Nat) (s : ByteArray) (w : World) (o : Except Nat (List Nat × List Nat × List Bool)) (e : Ending) (w' : World) : Prop := match o with
  | .ok (la, lb, r') => ∃ sa sb, e = .returned (.tuple #[codeV la sa, codeV lb sb]) ∧ w'.ownsRow w.heap.size 3 1 sa (symsN la).length ((symsN la).map encI) ∧ w'.ownsRow w.heap.size 3 1 sb (symsN lb).length ((symsN lb).map encI) ∧ SrcAt w' R s r' ∧ Keeps (okC w.heap.size R) w w'
  | .error no => e = .panicked (stopC (no : Int)) ∧ Keeps (okC w.heap.size R) w w'
theorem madeCells_zero (n : Nat) : madeCells #[Value.int .i64 0] n = ((List.replicate n 0).map encI).toArray := by
  apply Array.ext
  · simp [madeCells]
  · intro i h1 h2
    simp only [madeCells, Array.getElem_map, Array.getElem_range, List.getElem_toArray, List.getElem_map, List.getElem_replicate]
    show #[Value.int .i64 0][i % 1]! = _
    rw [Nat.mod_one]
    rfl
theorem idxN_mem {l : List Nat} {n x : Nat} (h : x ∈ idxN l n) : x < l.length := by
  unfold idxN at h
  exact List.mem_range.1 (List.mem_filter.1 h).1
theorem symsTo_mem {l : List Nat} : ∀ {n x : Nat}, x ∈ symsTo l n → x < l.length
  | 0, x, h => by simp [symsTo] at h
  | n + 1, x, h => by
    rw [symsTo, List.mem_append] at h
    rcases h with h | h
    · exact symsTo_mem h
    · exact idxN_mem h
theorem getD_lt {l : List Nat} {m : Nat} (h : ∀ x ∈ l, x < m) (hm : 0 < m) (j : Nat) : l.getD j 0 < m := by
  rw [List.getD_eq_getElem?_getD]
  cases hj : l[j]? with
  | none => exact hm
  | some x => exact h x (List.mem_of_getElem? hj)
theorem symGo_lt {l : List Nat} (hl : 0 < l.length) : ∀ {f k x first : Nat} {r : List Bool} {y : Nat} {r' : List Bool}, symGo l f k x first r = .ok (y, r') → y < l.length
  | 0, k, x, first, r, y, r', h => by simp [symGo] at h
  | f + 1, k, x, first, [], y, r', h => by simp [symGo] at h
  | f + 1, k, x, first, b :: r, y, r', h => by
    rw [symGo] at h
    generalize (if b = true then 1 else 0) = c at h
    by_cases h1 : 2 * x + c < 2 * first + cntN l (k + 1)
    · rw [if_pos h1] at h
      injection h with h
      injection h with h3 _
      rw [← h3]
      exact getD_lt (fun x hx => symsTo_mem hx) hl _
    · rw [if_neg h1] at h
      by_cases h2 : (symsN l).length = 1
      · rw [if_pos h2] at h; cases h
      · rw [if_neg h2] at h; exact symGo_lt hl h
theorem symP_lt {l : List Nat} (hl : 0 < l.length) {r : List Bool} {y : Nat} {r' : List Bool} (h : symP l r = .ok (y, r')) : y < l.length := by
  unfold symP at h
  split at h
  · cases h
  · exact symGo_lt hl h
/-- the code stands while only young blocks and the source change -/
theorem CodeAt.low {w w' : World} {C base R : Nat} {s : ByteArray} {r : List Bool} {l : List Nat} (h : CodeAt w C base l) (hS : SrcAt w R s r) (hk : Keeps (okC w.heap.size R) w w') : CodeAt w' C base l := by
  obtain ⟨a, hh, v, hin, _⟩ := hS
  obtain ⟨cur, sv, ho, h3, h4, h5⟩ := h.o
  have hCR : C ≠ R := by rintro rfl; rw [hin.o] at ho; cases ho
  refine ⟨cur, sv, hk.block _ _ ho ⟨heap_lt ho, hCR⟩, h3, h4, ?_⟩
  refine ⟨h5.1, ?_⟩
  rcases h5.2 with h6 | ⟨g, cap, c2, rfl, hb, hg, h7⟩
  · exact .inl h6
  · refine .inr ⟨g, cap, c2, rfl, hb, hk.block g _ hg ⟨heap_lt hg, ?_⟩, h7⟩
    rintro rfl
    rw [hin.o] at hg; cases hg
theorem ints_cells {w : World} {base : Nat} {p : Option Addr} {n c : Nat} {l : List Nat} (h : w.ownsRow base 3 1 (.slice p n c) l.length (l.map encI)) (hl : 0 < l.length) : ∃ g, p = some ⟨g, 0, none⟩ ∧ base ≤ g ∧ ∀ j, j < l.length → w.cell? ⟨g, j, none⟩ = some (.int .i64 ((l.getD j 0 : Nat) : Int)) := by
  rcases h.2 with ⟨_, h0⟩ | ⟨g, cap, cur, h1, hb, hg, _, _, _, htk⟩
  · omega
  · injection h1 with h1 _ _
    refine ⟨g, h1, hb, fun j hj => ?_⟩
    rw [cell_of_row _ _ _ _ _ _ hg]
    have h8 := congrArg (fun x => x[j]?) htk
    simp only [Nat.mul_one, List.getElem?_take, hj, if_true, List.getElem?_map, List.getElem?_eq_getElem hj, Option.map_some] at h8
    rw [← Array.getElem?_toList, h8, List.getD_eq_getElem?_getD, List.getElem?_eq_getElem hj]
    rfl
/-- what stays below while codes goes on -/
structure CBase (w W : World) (B R : Nat) : Prop where
  ord : OrdAt W
  a : W.heap[B]? = some (.cells zeroCode 64 (0, 0))
  b : W.heap[B + 1]? = some (.cells zeroCode 64 (0, 0))
  k : Keeps (okC B R) w W
  o : 3 < B ∧ 3 ≠ R
  r : R < B
theorem CBase.keeps {w W W' : World} {B R : Nat} {ok : Nat → Obj → Prop} (h : CBase w W B R) (hk : Keeps ok W W') (hok : ∀ k o, k < B + 2 → k ≠ R → ok k o) : CBase w W' B R := by
  have hl := heap_lt h.b
  have ho := h.o
  have hr := h.r
  refine ⟨h.ord.keeps (by omega) hk (fun o => hok _ o (by omega) ho.2), hk.block _ _ h.a (hok _ _ (by omega) (by omega)), hk.block _ _ h.b (hok _ _ (by omega) (by omega)), h.k.trans (hk.mono fun k o hh => hok k o (by have := hh.1; omega) hh.2), h.o, h.r⟩
theorem takeB_ok {n : Nat} {r : List Bool} (h : n ≤ r.length) : takeB n r = .ok (num (r.take n), r.drop n) := if_pos h
theorem takeB_no {n : Nat} {r : List Bool} (h : ¬ n ≤ r.length) : takeB n r = .error 2 := if_neg h
theorem num_take_lt (n : Nat) (r : List Bool) : num (r.take n) < 2 ^ n := Nat.lt_of_lt_of_le (num_lt _) (Nat.pow_le_pow_right (by decide) (List.length_take_le n r))
theorem Keeps.notAtC {a b c : World} {B R : Nat} (h : Keeps (okC B R) a b) (k : Keeps (notAt R) b c) : Keeps (okC B R) a c := h.trans (k.mono fun _ _ ho => ho.2)

set_option maxRecDepth 100000 in
set_option maxHeartbeats 8000000 in
theorem codes_any (R : Nat) (s : ByteArray) (r : List Bool) (w : World) (hS : SrcAt w R s r) (hO : OrdAt w) (hs : s.size < 2 ^ 40) (hR : R < w.heap.size) (h3 : 3 < w.heap.size) (hR3 : 3 ≠ R) :
    Calls Tryd.prog 37 #[.pointer (some ⟨R, 0, none⟩)] w fun e w' => CodesOut R s w (codesP r) e w' := by
  obtain ⟨i0, hi, hz0, hz1, hz2⟩ := info_parts Tryd.info_int
  have Hi := Lib.hid hi
  have Hz0 := Lib.hid hz0
  have Hz1 := Lib.hid hz1
  have Hz2 := Lib.hid hz2
  clear hi hz0 hz1 hz2
  obtain ⟨out, hout⟩ : ∃ o, o = codesP r := ⟨_, rfl⟩
  rw [← hout]
  unfold codesP at hout
  obtain ⟨w0, hw0⟩ : ∃ x, x = (w.alloc (.cells zeroCode 64)).alloc (.cells zeroCode 64) := ⟨_, rfl⟩
  have hz0 : w0.heap.size = w.heap.size + 2 := by rw [hw0]; simp
  have hA0 : w0.heap[w.heap.size]? = some (.cells zeroCode 64 (0, 0)) := by
    rw [hw0, heap_alloc_old _ _ (by simp only [World.size_alloc]; omega)]
    exact World.alloc_heap_new w _
  have hB0 : w0.heap[w.heap.size + 1]? = some (.cells zeroCode 64 (0, 0)) := by
    rw [hw0]
    have h := World.alloc_heap_new (w.alloc (.cells zeroCode 64)) (.cells zeroCode 64)
    simp only [World.size_alloc] at h
    exact h
  have hk0 : Keeps (okC w.heap.size R) w w0 := by rw [hw0]; exact ((Keeps.refl _ _).alloc _).alloc _
  have hS0 : SrcAt w0 R s r := hS.keeps (ok := fun _ _ => True) (by rw [hw0]; exact ((Keeps.refl _ _).alloc _).alloc _) (fun _ => trivial)
  have hO0 : OrdAt w0 := by
    intro i hi
    rw [hw0, World.cell?_alloc_lt _ _ ⟨3, i, none⟩ (by show 3 < _; simp only [World.size_alloc]; omega), World.cell?_alloc_lt _ _ ⟨3, i, none⟩ h3]
    exact hO i hi
  unfold zeroCode at hw0 hA0 hB0
  have Hw0 := Lib.hid hw0
  have HA0 := Lib.hid hA0
  have HB0 := Lib.hid hB0
  have Hk0 := Lib.hid hk0
  have HS0 := Lib.hid hS0
  have HO0 := Lib.hid hO0
  clear hw0 hA0 hB0 hk0 hS0 hO0 hS hO
  by_cases h5 : 5 ≤ r.length
  · rw [takeB_ok h5] at hout
    obtain ⟨r1, hr1⟩ : ∃ x, x = r.drop 5 := ⟨_, rfl⟩
    obtain ⟨x, hx⟩ : ∃ x, x = num (r.take 5) := ⟨_, rfl⟩
    have hx32 : x < 32 := by rw [hx]; exact num_take_lt 5 r
    have hb1 := bits_ok R s r 5 w0 HS0.out (by decide) hs h5
    rw [← hr1, ← hx] at hb1 hout
    simp only [] at hout
    have Hb1 := Lib.hid hb1
    clear hb1 hr1 hx
    by_cases h6 : 5 ≤ r1.length
    · rw [takeB_ok h6] at hout
      obtain ⟨r2, hr2⟩ : ∃ x, x = r1.drop 5 := ⟨_, rfl⟩
      obtain ⟨y, hy⟩ : ∃ y, y = num (r1.take 5) := ⟨_, rfl⟩
      have hy32 : y < 32 := by rw [hy]; exact num_take_lt 5 r1
      have hb2 := fun W (hW : SrcAt W R s r1) => bits_ok R s r1 5 W hW (by decide) hs h6
      rw [← hr2, ← hy] at hb2 hout
      simp only [] at hout
      have Hb2 := Lib.hid hb2
      clear hb2 hr2 hy
      by_cases h7 : 4 ≤ r2.length
      · rw [takeB_ok h7] at hout
        obtain ⟨r3, hr3⟩ : ∃ x, x = r2.drop 4 := ⟨_, rfl⟩
        obtain ⟨z, hz⟩ : ∃ z, z = num (r2.take 4) := ⟨_, rfl⟩
        have hz16 : z < 16 := by rw [hz]; exact num_take_lt 4 r2
        have hb3 := fun W (hW : SrcAt W R s r2) => bits_ok R s r2 4 W hW (by decide) hs h7
        rw [← hr3, ← hz] at hb3 hout
        simp only [] at hout
        have Hb3 := Lib.hid hb3
        have Hout := Lib.hid hout
        rw [Hw0.out] at Hb1
        clear hb3 hr3 hz hout h5 h6 h7
        by_cases c1 : 286 < 257 + x
        · have hout := Hout.out
          rw [if_pos (.inl c1)] at hout
          have Hout2 := Lib.hid hout
          have c1z : (286 : Int) < 257 + (x : Int) := by omega
          clear hout
          go_enter Tryd.func37, Tryd.ntmps37
          go_wp2_with (first
            | (go_at_call 35; refine (Hb1.out).mono ?_; rintro e w1 ⟨rfl, hS1, hk1⟩
               clear Hb1
               rw [← Hw0.out] at hk1
               have hK1 := Hk0.out.notAtC hk1
               have HS1 := Lib.hid hS1
               have Hk1 := Lib.hid hk1
               have HK1 := Lib.hid hK1
               clear hS1 hk1 hK1)
            | (go_at_call 35; refine (Hb2.out _ HS1.out).mono ?_; rintro e w2 ⟨rfl, hS2, hk2⟩
               clear Hb2
               have hK2 := HK1.out.notAtC hk2
               have hk02 := Hk1.out.trans hk2
               have HS2 := Lib.hid hS2
               have Hk2 := Lib.hid hk02
               have HK2 := Lib.hid hK2
               clear hS2 hk2 hK2 hk02)
            | (go_at_call 35; refine (Hb3.out _ HS2.out).mono ?_; rintro e w3 ⟨rfl, hS3, hk3⟩
               clear Hb3
               have hK3 := HK2.out.notAtC hk3
               have hk03 := Hk2.out.trans hk3
               have HS3 := Lib.hid hS3
               have Hk3 := Lib.hid hk03
               have HK3 := Lib.hid hK3
               clear hS3 hk3 hK3 hk03))
          rw [Hout2.out]
          exact ⟨rfl, rfl, HK3.out⟩
        · have c1d : decide ((286 : Int) < 257 + (x : Int)) = false := by simp; omega
          have c1z : ¬ (286 : Int) < 257 + (x : Int) := by omega
          by_cases c2 : 30 < 1 + y
          · have hout := Hout.out
            rw [if_pos (.inr c2)] at hout
            have Hout2 := Lib.hid hout
            have c2z : (30 : Int) < 1 + (y : Int) := by omega
            clear hout
            go_enter Tryd.func37, Tryd.ntmps37
            go_wp2_with (first
              | (go_at_call 35; refine (Hb1.out).mono ?_; rintro e w1 ⟨rfl, hS1, hk1⟩
                 clear Hb1
                 rw [← Hw0.out] at hk1
                 have hK1 := Hk0.out.notAtC hk1
                 have HS1 := Lib.hid hS1
                 have Hk1 := Lib.hid hk1
                 have HK1 := Lib.hid hK1
                 clear hS1 hk1 hK1)
              | (go_at_call 35; refine (Hb2.out _ HS1.out).mono ?_; rintro e w2 ⟨rfl, hS2, hk2⟩
                 clear Hb2
                 have hK2 := HK1.out.notAtC hk2
                 have hk02 := Hk1.out.trans hk2
                 have HS2 := Lib.hid hS2
                 have Hk2 := Lib.hid hk02
                 have HK2 := Lib.hid hK2
                 clear hS2 hk2 hK2 hk02)
              | (go_at_call 35; refine (Hb3.out _ HS2.out).mono ?_; rintro e w3 ⟨rfl, hS3, hk3⟩
                 clear Hb3
                 have hK3 := HK2.out.notAtC hk3
                 have hk03 := Hk2.out.trans hk3
                 have HS3 := Lib.hid hS3
                 have Hk3 := Lib.hid hk03
                 have HK3 := Lib.hid hK3
                 clear hS3 hk3 hK3 hk03))
            rw [Hout2.out]
            exact ⟨rfl, rfl, HK3.out⟩
          · have hout := Hout.out
            rw [if_neg (by omega)] at hout
            have Hout2 := Lib.hid hout
            have c2z : ¬ (30 : Int) < 1 + (y : Int) := by omega
            have c2d : decide ((30 : Int) < 1 + (y : Int)) = false := by simp; omega
            have hmk : ∀ W : World, (Instr.makeSlice 52 (.int .i64 19) (.int .i64 19)).run Tryd.prog W = .ok (.slice (some ⟨W.heap.size, 0, none⟩) 19 19) (W.alloc (.cells (madeCells #[.int .i64 0] 19) 3)) := run_make_row' (P := Tryd.prog) 52 3 (.int .i64 0) 8 Tryd.underlying52 Tryd.info_int rfl .i64 .i64 19 (by decide) (by decide)
            clear hout Hout
            go_enter Tryd.func37, Tryd.ntmps37
            go_wp2_with (first
              | (go_at_call 35; refine (Hb1.out).mono ?_; rintro e w1 ⟨rfl, hS1, hk1⟩
                 clear Hb1
                 rw [← Hw0.out] at hk1
                 have hK1 := Hk0.out.notAtC hk1
                 have HS1 := Lib.hid hS1
                 have Hk1 := Lib.hid hk1
                 have HK1 := Lib.hid hK1
                 clear hS1 hk1 hK1)
              | (go_at_call 35; refine (Hb2.out _ HS1.out).mono ?_; rintro e w2 ⟨rfl, hS2, hk2⟩
                 clear Hb2
                 have hK2 := HK1.out.notAtC hk2
                 have hk02 := Hk1.out.trans hk2
                 have HS2 := Lib.hid hS2
                 have Hk2 := Lib.hid hk02
                 have HK2 := Lib.hid hK2
                 clear hS2 hk2 hK2 hk02)
              | (go_at_call 35; refine (Hb3.out _ HS2.out).mono ?_; rintro e w3 ⟨rfl, hS3, hk3⟩
                 clear Hb3
                 have hK3 := HK2.out.notAtC hk3
                 have hk03 := Hk2.out.trans hk3
                 have HS3 := Lib.hid hS3
                 have Hk3 := Lib.hid hk03
                 have HK3 := Lib.hid hK3
                 clear hS3 hk3 hK3 hk03))
            clear hmk
            have hcb3 : CBase w w3 w.heap.size R := ⟨HO0.out.keeps (by omega) Hk3.out (fun _ => hR3), Hk3.out.block _ _ HA0.out (by show w.heap.size ≠ R; omega), Hk3.out.block _ _ HB0.out (by show w.heap.size + 1 ≠ R; omega), HK3.out, ⟨h3, hR3⟩, hR⟩
            have hz3 := Hk3.out.size
            have hcb4 : CBase w (w3.alloc (.cells (madeCells #[.int .i64 0] 19) 3)) w.heap.size R := hcb3.keeps (ok := fun _ _ => True) ((Keeps.refl _ _).alloc _) (fun _ _ _ _ => trivial)
            have hS4 : SrcAt (w3.alloc (.cells (madeCells #[.int .i64 0] 19) 3)) R s r3 := HS3.out.keeps (ok := fun _ _ => True) ((Keeps.refl _ _).alloc _) (fun _ => trivial)
            have hrow4 : RowAt (w3.alloc (.cells (madeCells #[.int .i64 0] 19) 3)) w3.heap.size (List.replicate 19 0) := by
              unfold RowAt
              rw [← madeCells_zero]
              exact World.alloc_heap_new w3 _
            obtain ⟨T, hT⟩ : ∃ T, T = shortGo (4 + z) 0 (List.replicate 19 0) r3 := ⟨_, rfl⟩
            rw [← hT] at Hout2
            have Hcb4 := Lib.hid hcb4
            have HS4 := Lib.hid hS4
            have Hrow4 := Lib.hid hrow4
            have HT := Lib.hid hT
            clear hcb3 hcb4 hS4 hrow4 hT Hk3 HK3 HS3 HS1 HS2 HK1 HK2 Hk1 Hk2 HS0 HO0 HA0 HB0 Hk0
            generalize hD : w3.heap.size = D at *
            generalize hw4 : w3.alloc (.cells (madeCells #[.int .i64 0] 19) 3) = w4 at *
            clear hw4 hD
            go_loopw [37] (fun iv wr => ∃ (i : Nat) (l : List Nat) (r' : List Bool), iv = .int .i64 (i : Int) ∧ i ≤ 4 + z ∧ l.length = 19 ∧ (∀ v ∈ l, v ≤ 7) ∧ RowAt wr D l ∧ SrcAt wr R s r' ∧ CBase w wr w.heap.size R ∧ shortGo (4 + z - i) i l r' = T) (fun iv _ => 4 + z - (intOf iv).toNat)
            case atStart => exact ⟨0, List.replicate 19 0, r3, rfl, by omega, by simp, (by intro v hv; have := List.eq_of_mem_replicate hv; omega), Hrow4.out, HS4.out, Hcb4.out, HT.out.symm⟩
            case round =>
              obtain ⟨i, l, r', rfl, hi, hl19, hl7, hrow, hSr, hcb, hgo⟩ := hrel
              have Hl7 := Lib.hid hl7
              have Hrow := Lib.hid hrow
              have HSr := Lib.hid hSr
              have Hcb := Lib.hid hcb
              clear hl7 hrow hSr hcb
              by_cases hin : (i : Int) < 4 + (z : Int)
              · obtain ⟨f, hf⟩ : ∃ f, 4 + z - i = f + 1 := ⟨3 + z - i, by omega⟩
                rw [hf, shortGo] at hgo
                have hi19 : i < 19 := by omega
                have hi19z : (i : Int) < 19 := by omega
                have cO := Hcb.out.ord i hi19
                obtain ⟨od, hod⟩ : ∃ o, o = ordT.getD i 0 := ⟨_, rfl⟩
                have hod19 : od < 19 := by rw [hod]; exact (by decide : ∀ i, i < 19 → ordT.getD i 0 < 19) i hi19
                have hod19z : (od : Int) < 19 := by omega
                rw [← hod] at cO hgo
                obtain ⟨cL, fL⟩ := Hrow.out.cell od (by omega)
                by_cases h3b : 3 ≤ r'.length
                · rw [takeB_ok h3b] at hgo
                  obtain ⟨r4, hr4⟩ : ∃ x, x = r'.drop 3 := ⟨_, rfl⟩
                  obtain ⟨v, hv⟩ : ∃ v, v = num (r'.take 3) := ⟨_, rfl⟩
                  have hv8 : v < 8 := by rw [hv]; exact num_take_lt 3 r'
                  have hbv := fun W (hW : SrcAt W R s r') => bits_ok R s r' 3 W hW (by decide) hs h3b
                  rw [← hr4, ← hv] at hbv hgo
                  simp only [] at hgo
                  have Hbv := Lib.hid hbv
                  have Hgo := Lib.hid hgo
                  have Hod := Lib.hid hod
                  have Hf := Lib.hid hf
                  clear hbv hgo hod hf hr4 hv h3b
                  go_wp2_with fail
                  go_region_with (go_at_call 35; refine (Hbv.out _ HSr.out.drew).mono ?_; rintro e w5 ⟨rfl, hS5, hk5⟩
                                  have hcb5 : CBase w w5 w.heap.size R := Hcb.out.keeps ((Keeps.refl (notAt R) wr).drew.trans hk5) (fun k o _ h => h)
                                  have hrow5 : RowAt w5 D l := hk5.block _ _ Hrow.out (by show D ≠ R; omega)
                                  have cO5 := hcb5.ord i hi19
                                  rw [← Hod.out] at cO5
                                  obtain ⟨cL5, fL5⟩ := hrow5.cell od (by omega)
                                  have HS5 := Lib.hid hS5
                                  have Hcb5 := Lib.hid hcb5
                                  have Hrow5 := Lib.hid hrow5
                                  clear hS5 hcb5 hrow5 hk5)
                  all_goals
                    go_wp2_with fail
                    go_roundw
                    case rel =>
                      refine ⟨i + 1, l.set od v, r4, by go_num, by omega, by rw [List.length_set]; exact hl19, ?_, Hrow5.out.set od v, HS5.out.keeps ((Keeps.refl (notAt D) w5).setAt od _) (fun _ => by show R ≠ D; omega), Hcb5.out.keeps ((Keeps.refl (notAt D) w5).setAt od _) (fun k o h _ => by show k ≠ D; omega), by rw [show 4 + z - (i + 1) = f by have := Hf.out; omega]; exact Hgo.out⟩
                      intro u hu
                      rcases List.mem_or_eq_of_mem_set hu with h | h
                      · exact Hl7.out u h
                      · omega
                    case measure => simp [intOf]; omega
                · rw [takeB_no h3b] at hgo
                  simp only [] at hgo
                  have hbv := fun W (hW : SrcAt W R s r') => bits_short R s r' 3 W hW (by decide) hs (by omega)
                  have hout2 := Hout2.out
                  rw [← hgo] at hout2
                  simp only [] at hout2
                  have Hbv := Lib.hid hbv
                  have Hout3 := Lib.hid hout2
                  have Hod := Lib.hid hod
                  clear hbv hgo hf h3b hout2 hod
                  go_wp2_with fail
                  have hcall : ∀ W, Keeps (notAt R) wr W → SrcAt W R s r' → Calls Tryd.prog 35 #[.pointer (some ⟨R, 0, none⟩), .int .i64 3] W fun e w' => e = .panicked (stopC 2) ∧ Keeps (okC w.heap.size R) w w' := by
                    intro W hW hSW
                    refine (Hbv.out W hSW).mono ?_
                    rintro e w5 ⟨rfl, hk5⟩
                    exact ⟨rfl, (Hcb.out.keeps (hW.trans hk5) (fun k o _ h => h)).k⟩
                  have Hcall := Lib.hid hcall
                  clear hcall Hbv
                  refine wp_region_any (by kernel_rfl) ?_
                  change wpAny _ _ _ _ _ _ _ (World.drew _)
                  refine wpAny_take (i := 0) (v := .slice (some ⟨D, 0, none⟩) 19 19) rfl (by kernel_rfl) (by kernel_rfl) (by kernel_rfl) (fun _ _ _ h => h) (Or.inl ⟨by rfl, fun w => by go_simp⟩) ?_
                  refine wpAny_take (i := 1) (v := .int .i64 (i : Int)) rfl (by kernel_rfl) (by kernel_rfl) (by kernel_rfl) (fun _ _ _ h => h) (Or.inl ⟨by rfl, fun w => by go_simp⟩) ?_
                  refine wpAny_take (i := 2) (v := .pointer (some ⟨3, i, none⟩)) rfl (by kernel_rfl) (by kernel_rfl) (by kernel_rfl) (fun _ _ _ h => h) (Or.inl ⟨by rfl, fun w => by go_simp⟩) ?_
                  refine wpAny_take (i := 4) (v := .pointer (some ⟨R, 0, none⟩)) rfl (by kernel_rfl) (by kernel_rfl) (by kernel_rfl) (fun _ _ _ h => h) (Or.inl ⟨by rfl, fun w => by go_simp⟩) ?_
                  refine wpAny_ready (rs := [3, 5]) (by kernel_rfl) (by simp) ?_
                  refine AllReady.cons rfl (fun J hJ => ?_) (AllReady.cons rfl (fun J hJ => ?_) AllReady.nil)
                  · go_simp
                    refine hJ _ _ ?_
                    clear hJ J
                    refine wpAny_ready (rs := [5]) (by kernel_rfl) (by simp) ?_
                    refine AllReady.cons rfl (fun J hJ => ?_) AllReady.nil
                    go_simp
                    go_wp2_with (go_at_call 35; refine (Hcall.out _ ((Keeps.refl _ wr).drew) HSr.out.drew).mono ?_; rintro e w5 ⟨rfl, hk5⟩; clear Hcall)
                    rw [Hout3.out]
                    exact ⟨rfl, rfl, hk5⟩
                  · go_simp
                    go_wp2_with (go_at_call 35; refine (Hcall.out _ ((Keeps.refl _ wr).drew) HSr.out.drew).mono ?_; rintro e w5 ⟨rfl, hk5⟩; clear Hcall)
                    rw [Hout3.out]
                    exact ⟨rfl, rfl, hk5⟩
              · obtain rfl : i = 4 + z := by omega
                rw [Nat.sub_self, shortGo] at hgo
                have hout2 := Hout2.out
                rw [← hgo] at hout2
                simp only [] at hout2
                have Hout3 := Lib.hid hout2
                clear hgo hout2 HT Hout2
                have hcd := coded_any D 0 19 l wr Hrow.out.ints (heap_lt Hrow.out) (by omega) (fun v hv => by have := Hl7.out v hv; omega)
                rw [hl19] at hcd
                have hR2 : R ≠ wr.heap.size := by have := heap_lt Hrow.out; have := Hcb.out.r; have := heap_lt Hcb.out.b; omega
                obtain ⟨lf, hlf⟩ : ∃ x, x = kraft l := ⟨_, rfl⟩
                rw [← hlf] at hcd
                have Hcd := Lib.hid hcd
                have Hlf := Lib.hid hlf
                clear hcd hlf
                go_upto_if 54 with (first
                  | (go_at_call 65; refine (Hcd.out).mono ?_; rintro e w5 ⟨sc, rfl, hsc, hb5⟩
                     clear Hcd
                     obtain ⟨ca, hca⟩ : ∃ c, c = (codeCs l sc).toArray := ⟨_, rfl⟩
                     rw [show codeV l sc = .agg ca from by rw [hca]; rfl]
                     have hca1 := codeCs_one l hsc
                     rw [← hca] at hca1
                     have hcaz := codeCs_size l sc
                     rw [← hca] at hcaz
                     have hz5 := hb5.size
                     have Hca := Lib.hid hca
                     have Hca1 := Lib.hid hca1
                     have Hsc := Lib.hid hsc
                     have Hb5 := Lib.hid hb5
                     clear hca hca1 hsc hb5)
                  | (refine wpList_store_row rfl _ _ _ rfl w5.heap.size ca rfl rfl 64 _ (World.alloc_heap_new w5 _) (by rw [hcaz]; kernel_rfl) (by rw [hcaz]; rfl) Hca1.out ?_))
                obtain ⟨w6, hw6⟩ : ∃ x, x = (w5.alloc (.cells zeroCode 64)).setRow w5.heap.size ca := ⟨_, rfl⟩
                unfold zeroCode at hw6
                rw [← hw6]
                have hk6 : w6.heap[w5.heap.size]? = some (.cells ca 64 (0, 0)) := by rw [hw6]; exact setRow_heap _ _ _ _ _ _ (World.alloc_heap_new w5 _)
                have hb6 : Below w5.heap.size w5 w6 := by
                  rw [hw6]
                  exact ⟨rfl, rfl, rfl, by simp, fun k hk => (setRow_other _ _ k _ (by omega)).trans (heap_alloc_old w5 _ hk)⟩
                have hz6 : w6.heap.size = w5.heap.size + 1 := by rw [hw6]; simp
                have hb46 : Below wr.heap.size wr w6 := Hb5.out.trans (hb6.mono hz5)
                have hcb6 : CBase w w6 w.heap.size R := Hcb.out.keeps (ok := fun k _ => k < wr.heap.size) (Keeps.of_below hb46 (fun k o h _ => heap_lt h)) (fun k o h _ => by have := heap_lt Hcb.out.b; omega)
                have hS6 : SrcAt w6 R s r' := HSr.out.keeps (ok := fun k _ => k < wr.heap.size) (Keeps.of_below hb46 (fun k o h _ => heap_lt h)) (fun _ => by have := Hcb.out.r; have := heap_lt Hcb.out.b; omega)
                have hcode6 : CodeAt w6 w5.heap.size 0 l := by
                  refine ⟨ca, sc, hk6, fun n hn => ?_, ?_, ownsRow_mono (ownsRow_below Hsc.out hb6 (Nat.le_refl _)) (Nat.zero_le _)⟩
                  · rw [Hca.out]; simp [codeCs, List.getElem?_append, hn]
                  · rw [Hca.out]; simp [codeCs]
                have Hcb6 := Lib.hid hcb6
                have HS6 := Lib.hid hS6
                have Hcode6 := Lib.hid hcode6
                generalize hG : w5.heap.size = G at *
                clear hcb6 hS6 hcode6 hk6 hb6 hb46 hw6 Hrow Hl7 HSr Hcb Hb5 Hsc Hca Hca1 hR2
                by_cases hleft : lf = 32768
                · have hout3 := Hout3.out
                  rw [if_neg (by rw [← Hlf.out]; omega)] at hout3
                  have hlb : ((32768 : Int) - (lf : Int) != 0) = false := by rw [hleft]; rfl
                  have Hout4 := Lib.hid hout3
                  clear hout3 Hout3
                  rw [hlb]
                  go_wp2_with fail
                  obtain ⟨many, hmany⟩ : ∃ m, m = 257 + x + (1 + y) := ⟨_, rfl⟩
                  rw [← hmany] at Hout4
                  obtain ⟨T2, hT2⟩ : ∃ T, T = lensGo l many (many + 1) [] r' := ⟨_, rfl⟩
                  rw [← hT2] at Hout4
                  have HT2 := Lib.hid hT2
                  have hN : G < w6.heap.size := by omega
                  have hRN : R < w6.heap.size := by have := Hcb6.out.r; have := heap_lt Hcb6.out.b; omega
                  clear hT2
                  go_loopw [11] (fun lv wr => ∃ (l2 : List Nat) (r2 : List Bool) (f : Nat), wr.ownsRow w6.heap.size 3 1 lv l2.length (l2.map encI) ∧ l2.length ≤ many ∧ (∀ v ∈ l2, v ≤ 15) ∧ SrcAt wr R s r2 ∧ Keeps (okC w6.heap.size R) w6 wr ∧ many - l2.length < f ∧ lensGo l many f l2 r2 = T2) (fun lv _ => many + 1 - (match lv with | .slice _ n _ => n | _ => 0))
                  case atStart => exact ⟨[], r', many + 1, World.ownsRow_nil _ _ _ _, by simp, (by intro v hv; cases hv), HS6.out, Keeps.refl _ _, by simp, HT2.out.symm⟩
                  case round =>
                    obtain ⟨l2, r2, f, hown, hlm, hl15, hSr, hKl, hff, hgo⟩ := hrel
                    obtain ⟨pp, nn, pc, rfl⟩ := ownsRow_slice hown
                    obtain rfl : nn = l2.length := by
                      rcases hown.2 with ⟨h1, h2⟩ | ⟨g, cap, cur, h1, _⟩
                      · injection h1 with _ h3 _
                        rw [h3, h2]
                      · injection h1
                    obtain ⟨f, rfl⟩ : ∃ g, f = g + 1 := ⟨f - 1, by omega⟩
                    rw [lensGo] at hgo
                    have hcode := Hcode6.out.low HS6.out hKl
                    have hwB := heap_lt Hcb6.out.b
                    have hKw : Keeps (okC w.heap.size R) w wr := Hcb6.out.k.trans (hKl.mono fun k o h => ⟨by have := h.1; omega, h.2⟩)
                    have hsym := fsymbol_any R G 0 s r2 l wr hSr hcode hs (by omega)
                    have Hown := Lib.hid hown
                    have Hl15 := Lib.hid hl15
                    have HSr := Lib.hid hSr
                    have HKl := Lib.hid hKl
                    have Hcode := Lib.hid hcode
                    have HKw := Lib.hid hKw
                    clear hown hl15 hSr hKl hcode hKw
                    by_cases hlt : (l2.length : Int) < 257 + (x : Int) + (1 + (y : Int))
                    · rw [if_pos (by omega)] at hgo
                      cases hsp : symP l r2 with
                      | error no =>
                        have hl1 : lenOne l l2 r2 = .error no := by unfold lenOne; rw [hsp]
                        rw [hl1] at hgo
                        simp only [] at hgo
                        rw [hsp] at hsym
                        have hout4 := Hout4.out
                        rw [← hgo] at hout4
                        simp only [] at hout4
                        have Hsym := Lib.hid hsym
                        have Hout5 := Lib.hid hout4
                        clear hsym hout4 hgo hl1 hsp
                        go_wp2_with (go_at_call 38; refine (Hsym.out).mono ?_; rintro e w7 ⟨rfl, hk7⟩; clear Hsym)
                        rw [Hout5.out]
                        exact ⟨rfl, rfl, HKw.out.notAtC hk7⟩
                      | ok v =>
                        obtain ⟨xs, r3'⟩ := v
                        have hxs19 : xs < 19 := by have := symP_lt (by omega) hsp; omega
                        rw [hsp] at hsym
                        obtain ⟨lo, hlo⟩ : ∃ o, o = lenOne l l2 r2 := ⟨_, rfl⟩
                        rw [← hlo] at hgo
                        unfold lenOne at hlo
                        rw [hsp] at hlo
                        simp only [] at hlo
                        have Hsym := Lib.hid hsym
                        have Hlo := Lib.hid hlo
                        have Hgo := Lib.hid hgo
                        clear hsym hlo hgo hsp
                        go_upto_block 4 with (go_at_call 38; refine (Hsym.out).mono ?_; rintro e w7 ⟨rfl, hS7, hk7⟩
                                              clear Hsym
                                              have hKw7 := HKw.out.notAtC hk7
                                              have hKl7 : Keeps (okC w6.heap.size R) w6 w7 := HKl.out.notAtC hk7
                                              have hrow7 : w7.ownsRow w6.heap.size 3 1 (.slice pp l2.length pc) l2.length (l2.map encI) := ownsRow_keeps Hown.out hk7 (fun k cs e => by have := (Hown.out.lt k e).1; show k ≠ R; omega)
                                              have HS7 := Lib.hid hS7
                                              have HKw7 := Lib.hid hKw7
                                              have HKl7 := Lib.hid hKl7
                                              have Hrow7 := Lib.hid hrow7
                                              clear hS7 hKw7 hKl7 hrow7 hk7)
                        go_cut [12, 13] (fun xv tv wx => ∃ (tt xx : Nat) (r4' : List Bool), xv = .int .i64 (xx : Int) ∧ tv = .int .i64 (tt : Int) ∧ lo = .ok (tt, xx, r4') ∧ (1 ≤ tt ∧ tt < 200) ∧ xx ≤ 15 ∧ SrcAt wx R s r4' ∧ Keeps (okC w.heap.size R) w wx ∧ Keeps (okC w6.heap.size R) w6 wx ∧ wx.ownsRow w6.heap.size 3 1 (.slice pp l2.length pc) l2.length (l2.map encI))
                        case first =>
                          have herr : ∀ e, lo = .error e → out = .error e := by
                            intro e he
                            have hgo := Hgo.out
                            rw [he] at hgo
                            simp only [] at hgo
                            have h4 := Hout4.out
                            rw [← hgo] at h4
                            simp only [] at h4
                            exact h4
                          have Herr := Lib.hid herr
                          clear herr
                          by_cases hx16 : xs = 16
                          · subst hx16
                            have hlo := Hlo.out
                            rw [if_pos rfl] at hlo
                            by_cases hb : 2 ≤ r3'.length
                            · rw [takeB_ok hb] at hlo
                              simp only [] at hlo
                              have hbits := bits_ok R s r3' 2 w7 HS7.out (by decide) hs hb
                              obtain ⟨tn, htn⟩ : ∃ t, t = num (r3'.take 2) := ⟨_, rfl⟩
                              have htn2 : tn < 2 ^ 2 := by rw [htn]; exact num_take_lt 2 r3'
                              rw [← htn] at hbits hlo
                              have Hbits := Lib.hid hbits
                              clear hbits htn hb
                              by_cases h0 : l2.length = 0
                              · rw [if_pos h0] at hlo
                                have hout5 := Herr.out 4 hlo
                                have Hout5 := Lib.hid hout5
                                have h0b : ((l2.length : Int) == 0) = true := by rw [h0]; rfl
                                clear hout5 hlo
                                go_wp2_with (go_at_call 35; refine (Hbits.out).mono ?_; rintro e w8 ⟨rfl, hS8, hk8⟩
                                             clear Hbits
                                             have hKw8 := HKw7.out.notAtC hk8
                                             have hKl8 : Keeps (okC w6.heap.size R) w6 w8 := HKl7.out.notAtC hk8
                                             have hrow8 : w8.ownsRow w6.heap.size 3 1 (.slice pp l2.length pc) l2.length (l2.map encI) := ownsRow_keeps Hrow7.out hk8 (fun k cs e => by have := (Hrow7.out.lt k e).1; show k ≠ R; omega)
                                             have HS8 := Lib.hid hS8
                                             have HKw8 := Lib.hid hKw8
                                             have HKl8 := Lib.hid hKl8
                                             have Hrow8 := Lib.hid hrow8
                                             clear hS8 hKw8 hKl8 hrow8 hk8)
                                rw [Hout5.out]
                                exact ⟨rfl, rfl, HKw8.out⟩
                              · rw [if_neg h0] at hlo
                                have Hlo2 := Lib.hid hlo
                                have h0b : ((l2.length : Int) == 0) = false := beq_eq_false_iff_ne.2 (by omega)
                                have hlast : l2.getD (l2.length - 1) 0 ≤ 15 := by
                                  have := getD_lt (l := l2) (m := 16) (fun v hv => by have := Hl15.out v hv; omega) (by decide) (l2.length - 1)
                                  omega
                                obtain ⟨lst, hlst⟩ : ∃ v, v = l2.getD (l2.length - 1) 0 := ⟨_, rfl⟩
                                rw [← hlst] at hlast
                                have Hlst := Lib.hid hlst
                                obtain ⟨ln, hln⟩ : ∃ n, n = l2.length - 1 := ⟨_, rfl⟩
                                have eln : (l2.length : Int) - 1 = (ln : Int) := by omega
                                have hlnlt : ln < l2.length := by omega
                                have hlnz : (ln : Int) < (l2.length : Int) := by omega
                                have Hln := Lib.hid hln
                                clear hlo hlst hln
                                go_wp2_with (go_at_call 35; refine (Hbits.out).mono ?_; rintro e w8 ⟨rfl, hS8, hk8⟩
                                             clear Hbits
                                             have hKw8 := HKw7.out.notAtC hk8
                                             have hKl8 : Keeps (okC w6.heap.size R) w6 w8 := HKl7.out.notAtC hk8
                                             have hrow8 : w8.ownsRow w6.heap.size 3 1 (.slice pp l2.length pc) l2.length (l2.map encI) := ownsRow_keeps Hrow7.out hk8 (fun k cs e => by have := (Hrow7.out.lt k e).1; show k ≠ R; omega)
                                             obtain ⟨gg, rfl, hgg, hcells⟩ := ints_cells hrow8 (by omega)
                                             have cL8 := hcells ln hlnlt
                                             rw [Hln.out, ← Hlst.out] at cL8
                                             rw [← Hln.out] at cL8
                                             clear hcells
                                             have HS8 := Lib.hid hS8
                                             have HKw8 := Lib.hid hKw8
                                             have HKl8 := Lib.hid hKl8
                                             have Hrow8 := Lib.hid hrow8
                                             clear hS8 hKw8 hKl8 hrow8 hk8)
                                go_meet
                                exact ⟨3 + tn, lst, _, rfl, by congr 1, by rw [Hlst.out]; exact Hlo2.out, by omega, hlast, HS8.out, HKw8.out, HKl8.out, Hrow8.out⟩
                            · rw [takeB_no hb] at hlo
                              simp only [] at hlo
                              have hbits := bits_short R s r3' 2 w7 HS7.out (by decide) hs (by omega)
                              have hout5 := Herr.out 2 hlo
                              have Hout5 := Lib.hid hout5
                              have Hbits := Lib.hid hbits
                              clear hbits hout5 hlo hb
                              go_wp2_with (go_at_call 35; refine (Hbits.out).mono ?_; rintro e w8 ⟨rfl, hk8⟩; clear Hbits)
                              rw [Hout5.out]
                              exact ⟨rfl, rfl, HKw7.out.notAtC hk8⟩
                          · by_cases hx17 : xs = 17
                            · subst hx17
                              have hlo := Hlo.out
                              rw [if_neg (by decide), if_pos rfl] at hlo
                              by_cases hb : 3 ≤ r3'.length
                              · rw [takeB_ok hb] at hlo
                                simp only [] at hlo
                                have hbits := bits_ok R s r3' 3 w7 HS7.out (by decide) hs hb
                                obtain ⟨tn, htn⟩ : ∃ t, t = num (r3'.take 3) := ⟨_, rfl⟩
                                have htn2 : tn < 2 ^ 3 := by rw [htn]; exact num_take_lt 3 r3'
                                rw [← htn] at hbits hlo
                                have Hbits := Lib.hid hbits
                                clear hbits htn hb
                                have Hlo2 := Lib.hid hlo
                                clear hlo
                                go_wp2_with (go_at_call 35; refine (Hbits.out).mono ?_; rintro e w8 ⟨rfl, hS8, hk8⟩
                                             clear Hbits
                                             have hKw8 := HKw7.out.notAtC hk8
                                             have hKl8 : Keeps (okC w6.heap.size R) w6 w8 := HKl7.out.notAtC hk8
                                             have hrow8 : w8.ownsRow w6.heap.size 3 1 (.slice pp l2.length pc) l2.length (l2.map encI) := ownsRow_keeps Hrow7.out hk8 (fun k cs e => by have := (Hrow7.out.lt k e).1; show k ≠ R; omega)
                                             have HS8 := Lib.hid hS8
                                             have HKw8 := Lib.hid hKw8
                                             have HKl8 := Lib.hid hKl8
                                             have Hrow8 := Lib.hid hrow8
                                             clear hS8 hKw8 hKl8 hrow8 hk8)
                                go_meet
                                exact ⟨3 + tn, 0, _, rfl, by congr 1, Hlo2.out, by omega, by omega, HS8.out, HKw8.out, HKl8.out, Hrow8.out⟩
                              · rw [takeB_no hb] at hlo
                                simp only [] at hlo
                                have hbits := bits_short R s r3' 3 w7 HS7.out (by decide) hs (by omega)
                                have hout5 := Herr.out 2 hlo
                                have Hout5 := Lib.hid hout5
                                have Hbits := Lib.hid hbits
                                clear hbits hout5 hlo hb
                                go_wp2_with (go_at_call 35; refine (Hbits.out).mono ?_; rintro e w8 ⟨rfl, hk8⟩; clear Hbits)
                                rw [Hout5.out]
                                exact ⟨rfl, rfl, HKw7.out.notAtC hk8⟩
                            · by_cases hx18 : xs = 18
                              · subst hx18
                                have hlo := Hlo.out
                                rw [if_neg (by decide), if_neg (by decide), if_pos rfl] at hlo
                                by_cases hb : 7 ≤ r3'.length
                                · rw [takeB_ok hb] at hlo
                                  simp only [] at hlo
                                  have hbits := bits_ok R s r3' 7 w7 HS7.out (by decide) hs hb
                                  obtain ⟨tn, htn⟩ : ∃ t, t = num (r3'.take 7) := ⟨_, rfl⟩
                                  have htn2 : tn < 2 ^ 7 := by rw [htn]; exact num_take_lt 7 r3'
                                  rw [← htn] at hbits hlo
                                  have Hbits := Lib.hid hbits
                                  clear hbits htn hb
                                  have Hlo2 := Lib.hid hlo
                                  clear hlo
                                  go_wp2_with (go_at_call 35; refine (Hbits.out).mono ?_; rintro e w8 ⟨rfl, hS8, hk8⟩
                                               clear Hbits
                                               have hKw8 := HKw7.out.notAtC hk8
                                               have hKl8 : Keeps (okC w6.heap.size R) w6 w8 := HKl7.out.notAtC hk8
                                               have hrow8 : w8.ownsRow w6.heap.size 3 1 (.slice pp l2.length pc) l2.length (l2.map encI) := ownsRow_keeps Hrow7.out hk8 (fun k cs e => by have := (Hrow7.out.lt k e).1; show k ≠ R; omega)
                                               have HS8 := Lib.hid hS8
                                               have HKw8 := Lib.hid hKw8
                                               have HKl8 := Lib.hid hKl8
                                               have Hrow8 := Lib.hid hrow8
                                               clear hS8 hKw8 hKl8 hrow8 hk8)
                                  go_meet
                                  exact ⟨11 + tn, 0, _, rfl, by congr 1, Hlo2.out, by omega, by omega, HS8.out, HKw8.out, HKl8.out, Hrow8.out⟩
                                · rw [takeB_no hb] at hlo
                                  simp only [] at hlo
                                  have hbits := bits_short R s r3' 7 w7 HS7.out (by decide) hs (by omega)
                                  have hout5 := Herr.out 2 hlo
                                  have Hout5 := Lib.hid hout5
                                  have Hbits := Lib.hid hbits
                                  clear hbits hout5 hlo hb
                                  go_wp2_with (go_at_call 35; refine (Hbits.out).mono ?_; rintro e w8 ⟨rfl, hk8⟩; clear Hbits)
                                  rw [Hout5.out]
                                  exact ⟨rfl, rfl, HKw7.out.notAtC hk8⟩
                              · have hlo := Hlo.out
                                rw [if_neg hx16, if_neg hx17, if_neg hx18] at hlo
                                have b16 : ((xs : Int) == 16) = false := beq_eq_false_iff_ne.2 (by omega)
                                have b17 : ((xs : Int) == 17) = false := beq_eq_false_iff_ne.2 (by omega)
                                have b18 : ((xs : Int) == 18) = false := beq_eq_false_iff_ne.2 (by omega)
                                have Hlo2 := Lib.hid hlo
                                clear hlo
                                go_wp2_with fail
                                go_meet
                                exact ⟨1, xs, _, rfl, rfl, Hlo2.out, by omega, by omega, HS7.out, HKw7.out, HKl7.out, Hrow7.out⟩
                        case rest =>
                          obtain ⟨tt, xx, r4', rfl, rfl, hlo, ht200, hxx, hSx, hKx, hKlx, hrowx⟩ := hcut
                          have hgo2 := Hgo.out
                          rw [hlo] at hgo2
                          simp only [] at hgo2
                          have HSx := Lib.hid hSx
                          have HKx := Lib.hid hKx
                          have HKlx := Lib.hid hKlx
                          have Hrowx := Lib.hid hrowx
                          obtain ⟨ht1, ht2⟩ := ht200
                          clear hSx hKx hKlx hrowx hlo Hgo Hlo HSr HKl HKw Hown
                          by_cases hov : 257 + (x : Int) + (1 + (y : Int)) - (l2.length : Int) < (tt : Int)
                          · rw [if_pos (by omega)] at hgo2
                            have hout4 := Hout4.out
                            rw [← hgo2] at hout4
                            simp only [] at hout4
                            have Hout5 := Lib.hid hout4
                            clear hout4 hgo2
                            go_wp2_with fail
                            rw [Hout5.out]
                            exact ⟨rfl, rfl, HKx.out⟩
                          · rw [if_neg (by omega)] at hgo2
                            have Hgo2 := Lib.hid hgo2
                            clear hgo2
                            go_wp2_with fail
                            go_loopw [11, 103] (fun lv kv wr2 => ∃ k : Nat, kv = .int .i64 (k : Int) ∧ k ≤ tt ∧ wr2.ownsRow w6.heap.size 3 1 lv (l2.length + k) ((l2 ++ List.replicate k xx).map encI) ∧ Keeps (fun k _ => k < w6.heap.size) wc wr2) (fun _ kv _ => tt - (intOf kv).toNat)
                            case atStart => exact ⟨0, rfl, Nat.zero_le _, by rw [List.replicate_zero, List.append_nil]; exact Hrowx.out, Keeps.refl _ _⟩
                            case round =>
                              obtain ⟨k, rfl, hk, hown2, hK2⟩ := hrel
                              obtain ⟨pp2, nn2, pc2, rfl⟩ := ownsRow_slice hown2
                              have Hown2 := Lib.hid hown2
                              have HK2 := Lib.hid hK2
                              clear hown2 hK2
                              by_cases hkt : (k : Int) < (tt : Int)
                              · go_wp2_with (at_builtin; refine wpList_append_own_at _ rfl _ _ 52 rfl w6.heap.size 3 i0 (.int .i64 0) 1 8 Tryd.underlying52 Hi.out Hz0.out Hz1.out Hz2.out rfl (by decide) _ _ _ rfl (Hown2.out.alloc _) ⟨wr.heap.size, 0, none⟩ 1 1 [.int .i64 (xx : Int)] rfl rfl (cell_one_new _ _ _) (by simp [Value.oneCell']) (by unfold maxLen; omega) (by omega) (by simp only [World.size_alloc]; have := HKlx.out.size; have := HK2.out.size; omega) ?_; intro v' w9 hown' hgrow _ _
                                             obtain ⟨p', n', c', rfl⟩ := ownsRow_slice hown'
                                             have hK9 : Keeps (fun k _ => k < w6.heap.size) wc w9 := (HK2.out.alloc _).grown hgrow (fun k o _ h1 h2 => notRow_row (Hown2.out.alloc _) h1 (.inl h2))
                                             have Hown9 := Lib.hid hown'
                                             have HK9 := Lib.hid hK9
                                             clear hown' hK9 hgrow)
                                go_roundw
                                case rel =>
                                  refine ⟨k + 1, by go_num, by omega, ?_, HK9.out⟩
                                  have h := Hown9.out
                                  rw [show l2.length + k + 1 = l2.length + (k + 1) from rfl] at h
                                  rw [List.replicate_succ', ← List.append_assoc, List.map_append]
                                  exact h
                                case measure => simp [intOf]; omega
                              · obtain rfl : k = tt := by omega
                                go_wp2_with fail
                                go_roundw
                                case rel =>
                                  rw [← hz6, ← hmany]
                                  refine ⟨l2 ++ List.replicate k xx, ?_, ?_, ?_, r4', HSx.out.keeps HK2.out (fun _ => by show R < w6.heap.size; omega), HKlx.out.trans (HK2.out.mono fun _ _ h => h.1), f, ?_, Hgo2.out⟩
                                  · rw [List.length_append, List.length_replicate]; exact Hown2.out
                                  · rw [List.length_append, List.length_replicate]; omega
                                  · intro v hv
                                    rcases List.mem_append.1 hv with h | h
                                    · exact Hl15.out v h
                                    · have := List.eq_of_mem_replicate h; omega
                                  · rw [List.length_append, List.length_replicate]; omega
                                case measure =>
                                  have e := ownsRow_nn Hown2.out
                                  omega
                    · have hlen : l2.length = many := by omega
                      rw [if_neg (by omega)] at hgo
                      have hout4 := Hout4.out
                      rw [← hgo] at hout4
                      simp only [] at hout4
                      obtain ⟨gl, rfl, hgl, hcl⟩ := ints_cells Hown.out (by omega)
                      obtain ⟨hglt, hcap⟩ : gl < wr.heap.size ∧ l2.length ≤ pc := by
                        rcases Hown.out.2 with ⟨_, h0⟩ | ⟨g, cap, cur, h1, _, hg, hs1, hs2, _, _⟩
                        · omega
                        · injection h1 with h1 _ h2
                          injection h1 with h1
                          injection h1 with h1
                          subst h1 h2
                          refine ⟨heap_lt hg, ?_⟩
                          omega
                      have hcapz : 257 + (x : Int) ≤ (pc : Int) := by omega
                      have hI1 : IntsAt wr gl 0 (l2.take (257 + x)) := fun j hj => by
                        rw [List.length_take] at hj
                        rw [Nat.zero_add, hcl j (by omega), List.getD_eq_getElem?_getD, List.getD_eq_getElem?_getD, List.getElem?_take_of_lt (by omega)]
                      have hc1 := coded_any gl 0 pc (l2.take (257 + x)) wr hI1 hglt (by rw [List.length_take]; omega) (fun v hv => Hl15.out v (List.mem_of_mem_take hv))
                      rw [List.length_take, Nat.min_eq_left (by omega)] at hc1
                      have Hc1 := Lib.hid hc1
                      have Hcl := Lib.hid hcl
                      have Hout5 := Lib.hid hout4
                      clear hc1 hI1 hcl hout4 hgo Hout4
                      have hcbr : CBase w wr w.heap.size R := Hcb6.out.keeps HKl.out (fun k o h1 h2 => ⟨by omega, h2⟩)
                      have hRr : R < wr.heap.size := by have := HKl.out.size; omega
                      have Hcbr := Lib.hid hcbr
                      clear hcbr
                      obtain ⟨la, hla⟩ : ∃ l, l = l2.take (257 + x) := ⟨_, rfl⟩
                      obtain ⟨lb, hlb2⟩ : ∃ l, l = l2.drop (257 + x) := ⟨_, rfl⟩
                      rw [← hla] at Hc1
                      obtain ⟨ka, hka⟩ : ∃ k, k = kraft la := ⟨_, rfl⟩
                      rw [← hka] at Hc1
                      have Hla := Lib.hid hla
                      have Hlb := Lib.hid hlb2
                      have Hka := Lib.hid hka
                      clear hla hlb2 hka
                      go_wp2_with (first
                        | (go_at_call 65; refine (Hc1.out).mono ?_; rintro e wa ⟨sa, rfl, hsa, hba⟩
                           clear Hc1
                           obtain ⟨ca, hca⟩ : ∃ c, c = (codeCs la sa).toArray := ⟨_, rfl⟩
                           rw [show codeV la sa = .agg ca from by rw [hca]; rfl]
                           have hca1 := codeCs_one la hsa
                           rw [← hca] at hca1
                           have hcaz2 := codeCs_size la sa
                           rw [← hca] at hcaz2
                           have hza := hba.size
                           have Hca := Lib.hid hca
                           have Hca1 := Lib.hid hca1
                           have Hsa := Lib.hid hsa
                           have Hba := Lib.hid hba
                           clear hca hca1 hsa hba)
                        | (refine wpList_store_row rfl _ _ _ rfl wa.heap.size ca rfl rfl 64 _ (World.alloc_heap_new wa _) (by rw [hcaz2]; kernel_rfl) (by rw [hcaz2]; rfl) Hca1.out ?_))
                      obtain ⟨w7, hw7⟩ : ∃ x, x = (wa.alloc (.cells zeroCode 64)).setRow wa.heap.size ca := ⟨_, rfl⟩
                      unfold zeroCode at hw7
                      rw [← hw7]
                      have hk7 : w7.heap[wa.heap.size]? = some (.cells ca 64 (0, 0)) := by rw [hw7]; exact setRow_heap _ _ _ _ _ _ (World.alloc_heap_new wa _)
                      have hb7 : Below wa.heap.size wa w7 := by
                        rw [hw7]
                        exact ⟨rfl, rfl, rfl, by simp, fun k hk => (setRow_other _ _ k _ (by omega)).trans (heap_alloc_old wa _ hk)⟩
                      have hz7 : w7.heap.size = wa.heap.size + 1 := by rw [hw7]; simp
                      have hbr7 : Below wr.heap.size wr w7 := Hba.out.trans (hb7.mono hza)
                      have hI2 : IntsAt w7 gl (257 + x) lb := fun j hj => by
                        have hj2 : j < l2.length - (257 + x) := by rw [Hlb.out, List.length_drop] at hj; exact hj
                        rw [hbr7.cell (p := ⟨gl, 257 + x + j, none⟩) hglt, Hcl.out (257 + x + j) (by omega), Hlb.out, List.getD_eq_getElem?_getD, List.getD_eq_getElem?_getD, List.getElem?_drop]
                      have hlbl : lb.length = 1 + y := by rw [Hlb.out, List.length_drop]; omega
                      have hc2 := coded_any gl (257 + x) (pc - (257 + x)) lb w7 hI2 (by omega) (by omega) (fun v hv => Hl15.out v (List.mem_of_mem_drop (by rw [← Hlb.out]; exact hv)))
                      obtain ⟨kb, hkb⟩ : ∃ k, k = kraft lb := ⟨_, rfl⟩
                      rw [← hkb, hlbl] at hc2
                      have Hc2 := Lib.hid hc2
                      have Hk7 := Lib.hid hk7
                      have Hb7 := Lib.hid hb7
                      have Hbr7 := Lib.hid hbr7
                      have Hkb := Lib.hid hkb
                      clear hc2 hk7 hb7 hbr7 hI2 hw7 hkb
                      go_upto_region 34 with (first
                        | (go_at_call 65; refine (Hc2.out).mono ?_; rintro e wb ⟨sb, rfl, hsb, hbb⟩
                           clear Hc2
                           obtain ⟨pb, nb, qb, rfl⟩ := ownsRow_slice hsb
                           obtain ⟨cb, hcb⟩ : ∃ c, c = (codeCs lb (.slice pb nb qb)).toArray := ⟨_, rfl⟩
                           rw [show codeV lb (.slice pb nb qb) = .agg cb from by rw [hcb]; rfl]
                           have hcb1 := codeCs_one lb hsb
                           rw [← hcb] at hcb1
                           have hcbz := codeCs_size lb (.slice pb nb qb)
                           rw [← hcb] at hcbz
                           have hzb := hbb.size
                           have Hcb := Lib.hid hcb
                           have Hcb1 := Lib.hid hcb1
                           have Hsb := Lib.hid hsb
                           have Hbb := Lib.hid hbb
                           clear hcb hcb1 hsb hbb)
                        | (refine wpList_store_row rfl _ _ _ rfl wb.heap.size cb rfl rfl 64 _ (World.alloc_heap_new wb _) (by rw [hcbz]; kernel_rfl) (by rw [hcbz]; rfl) Hcb1.out ?_))
                      obtain ⟨w8, hw8⟩ : ∃ x, x = (wb.alloc (.cells zeroCode 64)).setRow wb.heap.size cb := ⟨_, rfl⟩
                      unfold zeroCode at hw8
                      rw [← hw8]
                      have hk8 : w8.heap[wb.heap.size]? = some (.cells cb 64 (0, 0)) := by rw [hw8]; exact setRow_heap _ _ _ _ _ _ (World.alloc_heap_new wb _)
                      have hb8 : Below wb.heap.size wb w8 := by
                        rw [hw8]
                        exact ⟨rfl, rfl, rfl, by simp, fun k hk => (setRow_other _ _ k _ (by omega)).trans (heap_alloc_old wb _ hk)⟩
                      have hb78 : Below w7.heap.size w7 w8 := Hbb.out.trans (hb8.mono hzb)
                      have hba8 : Below wa.heap.size wa w8 := Hb7.out.trans (hb78.mono (by omega))
                      have hbr8 : Below wr.heap.size wr w8 := Hba.out.trans (hba8.mono hza)
                      have hj8 : w8.heap[wa.heap.size]? = some (.cells ca 64 (0, 0)) := (hb78.block _ (by omega)).trans Hk7.out
                      have hBr := heap_lt Hcbr.out.b
                      have hA8 : w8.heap[w.heap.size]? = some (.cells #[Value.int IntKind.i64 0, Value.int IntKind.i64 0, Value.int IntKind.i64 0, Value.int IntKind.i64 0, Value.int IntKind.i64 0, Value.int IntKind.i64 0, Value.int IntKind.i64 0, Value.int IntKind.i64 0, Value.int IntKind.i64 0, Value.int IntKind.i64 0, Value.int IntKind.i64 0, Value.int IntKind.i64 0, Value.int IntKind.i64 0, Value.int IntKind.i64 0, Value.int IntKind.i64 0, Value.int IntKind.i64 0, Value.slice none 0 0] 64 (0, 0)) := (hbr8.block _ (by omega)).trans Hcbr.out.a
                      have hB8 : w8.heap[w.heap.size + 1]? = some (.cells #[Value.int IntKind.i64 0, Value.int IntKind.i64 0, Value.int IntKind.i64 0, Value.int IntKind.i64 0, Value.int IntKind.i64 0, Value.int IntKind.i64 0, Value.int IntKind.i64 0, Value.int IntKind.i64 0, Value.int IntKind.i64 0, Value.int IntKind.i64 0, Value.int IntKind.i64 0, Value.int IntKind.i64 0, Value.int IntKind.i64 0, Value.int IntKind.i64 0, Value.int IntKind.i64 0, Value.int IntKind.i64 0, Value.slice none 0 0] 64 (0, 0)) := (hbr8.block _ hBr).trans Hcbr.out.b
                      have hsa8 := ownsRow_below Hsa.out hba8 (Nat.le_refl _)
                      have hsb8 := ownsRow_below Hsb.out hb8 (Nat.le_refl _)
                      have hS8 : SrcAt w8 R s r2 := HSr.out.keeps (ok := fun k _ => k < wr.heap.size) (Keeps.of_below hbr8 (fun k o _ h => h)) (fun _ => hRr)
                      have hk08 : Keeps (okC w.heap.size R) w w8 := Hcbr.out.k.trans (Keeps.of_below hbr8 (fun k o h _ => heap_lt h))
                      have cS8 : w8.cell? ⟨wb.heap.size, 16, none⟩ = some (.slice pb nb qb) := by rw [cell_of_row _ _ _ _ _ _ hk8, Hcb.out]; simp [codeCs]
                      obtain ⟨cc1, hcc1⟩ : ∃ n, n = cntN lb 1 := ⟨_, rfl⟩
                      have cC8 : w8.cell? ⟨wb.heap.size, 1, none⟩ = some (.int .i64 (cc1 : Int)) := by rw [cell_of_row _ _ _ _ _ _ hk8, Hcb.out, hcc1]; simp [codeCs, encI]
                      obtain ⟨z256, hz256⟩ : ∃ n, n = l2.getD 256 0 := ⟨_, rfl⟩
                      have cZ8 : w8.cell? ⟨gl, 256, none⟩ = some (.int .i64 (z256 : Int)) := by rw [hbr8.cell (p := ⟨gl, 256, none⟩) hglt, Hcl.out 256 (by omega), hz256]
                      have hnb := ownsRow_nn Hsb.out
                      obtain ⟨one, hone⟩ : ∃ b : Bool, b = (nb == 1 && cc1 == 1) := ⟨_, rfl⟩
                      obtain ⟨bad, hbad0⟩ : ∃ b : Bool, b = badCodes l2 (257 + x) := ⟨_, rfl⟩
                      have hbad : bad = (z256 == 0 || ka != 32768 || (kb != 32768 && decide (0 < nb) && !one)) := by
                        rw [hbad0, badCodes, ← Hla.out, ← Hlb.out, ← Hka.out, ← Hkb.out, ← hnb, ← hcc1, ← hz256, ← hone]
                      rw [← hbad0, ← Hla.out, ← Hlb.out] at Hout5
                      have Hk8 := Lib.hid hk8
                      have Hj8 := Lib.hid hj8
                      have HA8 := Lib.hid hA8
                      have HB8 := Lib.hid hB8
                      have Hsa8 := Lib.hid hsa8
                      have Hsb8 := Lib.hid hsb8
                      have HS8 := Lib.hid hS8
                      have Hk08 := Lib.hid hk08
                      have Hone := Lib.hid hone
                      have Hbad := Lib.hid hbad
                      clear hw8 hk8 hb8 hb78 hba8 hbr8 hj8 hA8 hB8 hsa8 hsb8 hS8 hk08 hone hbad hcc1 hz256 hnb hbad0
                      clear Hsa Hsb Hba Hbb Hb7 Hbr7 Hk7 Hcl HSr HKl HKw Hown Hcode Hcb6 HS6 Hcode6 Hlb Hla Hka Hkb Hl15
                      go_cut [17] (fun ov wx => ov = .bool one ∧ wx = w8)
                      case first =>
                        by_cases n1 : nb = 1
                        · have n1b : ((nb : Int) == 1) = true := by rw [n1]; rfl
                          by_cases k1 : cc1 = 1
                          · have k1b : ((cc1 : Int) == 1) = true := by rw [k1]; rfl
                            go_wp2_with fail
                            go_meet
                            exact ⟨by rw [Hone.out, n1, k1]; rfl, rfl⟩
                          · have k1b : ((cc1 : Int) == 1) = false := beq_eq_false_iff_ne.2 (by omega)
                            have k1c : (cc1 == 1) = false := beq_eq_false_iff_ne.2 k1
                            go_wp2_with fail
                            go_meet
                            exact ⟨by rw [Hone.out, n1, k1c]; rfl, rfl⟩
                        · have n1b : ((nb : Int) == 1) = false := beq_eq_false_iff_ne.2 (by omega)
                          have n1c : (nb == 1) = false := beq_eq_false_iff_ne.2 n1
                          go_wp2_with fail
                          go_meet
                          exact ⟨by rw [Hone.out, n1c]; rfl, rfl⟩
                      case rest =>
                        obtain ⟨rfl, rfl⟩ := hcut
                        go_upto_region 35 with fail
                        go_cut [155] (fun bv wx => bv = .bool bad ∧ wx = wc)
                        case first =>
                          have hone2 := Hone
                          by_cases z0 : z256 = 0
                          · have z0b : ((z256 : Int) == 0) = true := by rw [z0]; rfl
                            go_wp2_with fail
                            go_meet
                            exact ⟨by rw [Hbad.out, z0]; rfl, rfl⟩
                          · have z0b : ((z256 : Int) == 0) = false := beq_eq_false_iff_ne.2 (by omega)
                            have z0c : (z256 == 0) = false := beq_eq_false_iff_ne.2 z0
                            by_cases k0 : ka = 32768
                            · have k0b : ((32768 : Int) - (ka : Int) != 0) = false := by rw [k0]; rfl
                              have k0c : (ka != 32768) = false := by rw [k0]; rfl
                              clear k0
                              by_cases q0 : kb = 32768
                              · have q0b : ((32768 : Int) - (kb : Int) != 0) = false := by rw [q0]; rfl
                                have q0c : (kb != 32768) = false := by rw [q0]; rfl
                                clear q0
                                go_wp2_with fail
                                go_meet
                                exact ⟨by rw [Hbad.out, z0c, k0c, q0c]; rfl, rfl⟩
                              · have q0b : ((32768 : Int) - (kb : Int) != 0) = true := by simp; omega
                                have q0c : (kb != 32768) = true := by simp [q0]
                                by_cases n0 : 0 < nb
                                · have n0z : (0 : Int) < (nb : Int) := by omega
                                  have n0d : decide (0 < (nb : Int)) = true := decide_eq_true n0z
                                  have n0c : decide (0 < nb) = true := decide_eq_true n0
                                  cases hone3 : one with
                                  | true =>
                                    subst hone3
                                    go_wp2_with fail
                                    go_meet
                                    exact ⟨by rw [Hbad.out, z0c, k0c, q0c, n0c]; rfl, rfl⟩
                                  | false =>
                                    subst hone3
                                    go_wp2_with fail
                                    go_meet
                                    exact ⟨by rw [Hbad.out, z0c, k0c, q0c, n0c]; rfl, rfl⟩
                                · have n0z : ¬ (0 : Int) < (nb : Int) := by omega
                                  have n0d : decide (0 < (nb : Int)) = false := decide_eq_false n0z
                                  have n0c : decide (0 < nb) = false := decide_eq_false n0
                                  go_wp2_with fail
                                  go_meet
                                  exact ⟨by rw [Hbad.out, z0c, k0c, q0c, n0c]; rfl, rfl⟩
                            · have k0b : ((32768 : Int) - (ka : Int) != 0) = true := by simp; omega
                              have k0c : (ka != 32768) = true := by simp [k0]
                              go_wp2_with fail
                              go_meet
                              exact ⟨by rw [Hbad.out, z0c, k0c]; rfl, rfl⟩
                        case rest =>
                          obtain ⟨rfl, rfl⟩ := hcut
                          have hout6 := Hout5.out
                          clear Hbad Hone
                          cases hbb2 : bad with
                          | true =>
                            subst hbb2
                            rw [if_pos rfl] at hout6
                            have Hout6 := Lib.hid hout6
                            clear hout6
                            go_wp2_with fail
                            rw [Hout6.out]
                            exact ⟨rfl, rfl, Hk08.out⟩
                          | false =>
                            subst hbb2
                            rw [if_neg (by decide)] at hout6
                            have Hout6 := Lib.hid hout6
                            clear hout6
                            go_wp2_with fail
                            have hj8 := Hj8.out
                            have hk8 := Hk8.out
                            have hA8 := HA8.out
                            have hB8 := HB8.out
                            have hsa8 := Hsa8.out
                            have hsb8 := Hsb8.out
                            obtain ⟨B, hBB⟩ : ∃ n, n = w.heap.size := ⟨_, rfl⟩
                            obtain ⟨B1, hB1⟩ : ∃ n, n = w.heap.size + 1 := ⟨_, rfl⟩
                            rw [← hBB] at hA8
                            rw [← hB1] at hB8
                            rw [← hB1, ← hBB]
                            have hlt1 : B < B1 := by omega
                            have hlt2 : B1 < wr.heap.size := by omega
                            have HBB := Lib.hid hBB
                            have HB1 := Lib.hid hB1
                            clear hBB hB1
                            have q1 : ((wc.drew.setRow B ca).setRow B1 cb).heap[B]? = some (.cells ca 64 (0, 0)) := (setRow_other _ B1 B cb (by omega)).trans (setRow_heap wc.drew B _ ca _ _ hA8)
                            have q2 : ((wc.drew.setRow B ca).setRow B1 cb).heap[B1]? = some (.cells cb 64 (0, 0)) := setRow_heap _ B1 _ cb _ _ ((setRow_other wc.drew B B1 ca (by omega)).trans hB8)
                            have q3 : ∀ k, k ≠ B → k ≠ B1 → ((wc.drew.setRow B ca).setRow B1 cb).heap[k]? = wc.heap[k]? := fun k h1 h2 => (setRow_other _ B1 k cb h2).trans (setRow_other wc.drew B k ca h1)
                            have q4 : ((wc.drew.setRow B ca).setRow B1 cb).heap.size = wc.heap.size := by simp
                            have qk : Keeps (fun k _ => k ≠ B ∧ k ≠ B1) wc ((wc.drew.setRow B ca).setRow B1 cb) := ⟨rfl, rfl, rfl, by rw [q4]; exact Nat.le_refl _, fun k o hk ho => (q3 k ho.1 ho.2).trans hk⟩
                            have fin : CodesOut R s w out (Ending.returned (.tuple #[.agg ca, .agg cb])) ((wc.drew.setRow B ca).setRow B1 cb) := by
                              rw [Hout6.out]
                              have e1 := HBB.out
                              have e2 := HB1.out
                              refine ⟨sa, .slice pb nb qb, by rw [Hca.out, Hcb.out]; rfl, ?_, ?_, ?_, ?_⟩
                              · exact ownsRow_mono (ownsRow_keeps hsa8 qk (fun k cs e => by have := (hsa8.lt k e).1; constructor <;> omega)) (by omega)
                              · exact ownsRow_mono (ownsRow_keeps hsb8 qk (fun k cs e => by have := (hsb8.lt k e).1; constructor <;> omega)) (by omega)
                              · exact HS8.out.keeps qk (fun _ => ⟨by omega, by omega⟩)
                              · exact Hk08.out.trans (qk.mono fun k o h => ⟨by have := h.1; omega, by have := h.1; omega⟩)
                            have Fin := Lib.hid fin
                            clear fin q3 q4 qk hsa8 hsb8
                            have ql1 := run_loadVar_row (P := Tryd.prog) _ B 64 64 ca (0, 0) _ q1 Tryd.underlying64 rfl (by rw [hcaz2]; kernel_rfl)
                            have ql2 := run_loadVar_row (P := Tryd.prog) _ B1 64 64 cb (0, 0) _ q2 Tryd.underlying64 rfl (by rw [hcbz]; kernel_rfl)
                            refine wp_region_any (by kernel_rfl) ?_
                            change wpAny _ _ _ _ _ _ _ (World.drew _)
                            refine wpAny_ready (rs := [0, 1]) (by kernel_rfl) (by simp) ?_
                            refine AllReady.cons rfl (fun J hJ => ?_) (AllReady.cons rfl (fun J hJ => ?_) AllReady.nil)
                            · refine Eq.mpr (if_pos (wanted_plain rfl)) ?_
                              refine wp_load_row _ _ rfl wa.heap.size rfl 64 ca (0, 0) _ (hj8) Tryd.underlying64 rfl (by rw [hcaz2]; kernel_rfl) ?_
                              refine hJ _ _ ?_
                              clear hJ J
                              refine wpAny_ready (rs := [1, 2]) (by kernel_rfl) (by simp) ?_
                              refine AllReady.cons rfl (fun J hJ => ?_) (AllReady.cons rfl (fun J hJ => ?_) AllReady.nil)
                              · refine Eq.mpr (if_pos (wanted_plain rfl)) ?_
                                refine wp_load_row _ _ rfl wb.heap.size rfl 64 cb (0, 0) _ (hk8) Tryd.underlying64 rfl (by rw [hcbz]; kernel_rfl) ?_
                                refine hJ _ _ ?_
                                clear hJ J
                                refine wpAny_ready (rs := [2]) (by kernel_rfl) (by simp) ?_
                                refine AllReady.cons rfl (fun J hJ => ?_) AllReady.nil
                                refine Eq.mpr (if_pos (wanted_plain rfl)) ?_
                                refine wp_store_row _ _ _ rfl B ca rfl rfl 64 _ (show wc.drew.heap[B]? = _ from hA8) (by rw [hcaz2]; kernel_rfl) (by rw [hcaz2]; rfl) Hca1.out ?_
                                refine hJ _ _ ?_
                                clear hJ J
                                refine wpAny_ready (rs := [3]) (by kernel_rfl) (by simp) ?_
                                refine AllReady.cons rfl (fun J hJ => ?_) AllReady.nil
                                refine Eq.mpr (if_pos (wanted_plain rfl)) ?_
                                refine wp_store_row _ _ _ rfl B1 cb rfl rfl 64 _ ((setRow_other wc.drew B B1 ca (by omega)).trans (show wc.drew.heap[B1]? = _ from hB8)) (by rw [hcbz]; kernel_rfl) (by rw [hcbz]; rfl) Hcb1.out ?_
                                refine hJ _ _ ?_
                                clear hJ J
                                refine wpAny_done (by kernel_rfl) ?_ _
                                go_wp2_with fail
                                refine bodyPost_ret (v := .tuple #[.agg ca, .agg cb]) (results_cell_cell rfl _ _ B B1 ca cb rfl rfl ql1 ql2) rfl ?_
                                exact Fin.out
                              · refine Eq.mpr (if_pos (wanted_plain rfl)) ?_
                                refine wp_store_row _ _ _ rfl B ca rfl rfl 64 _ (show wc.drew.heap[B]? = _ from hA8) (by rw [hcaz2]; kernel_rfl) (by rw [hcaz2]; rfl) Hca1.out ?_
                                refine hJ _ _ ?_
                                clear hJ J
                                refine wpAny_ready (rs := [1]) (by kernel_rfl) (by simp) ?_
                                refine AllReady.cons rfl (fun J hJ => ?_) AllReady.nil
                                refine Eq.mpr (if_pos (wanted_plain rfl)) ?_
                                refine wp_load_row _ _ rfl wb.heap.size rfl 64 cb (0, 0) _ ((setRow_other wc.drew B wb.heap.size ca (by omega)).trans hk8) Tryd.underlying64 rfl (by rw [hcbz]; kernel_rfl) ?_
                                refine hJ _ _ ?_
                                clear hJ J
                                refine wpAny_ready (rs := [3]) (by kernel_rfl) (by simp) ?_
                                refine AllReady.cons rfl (fun J hJ => ?_) AllReady.nil
                                refine Eq.mpr (if_pos (wanted_plain rfl)) ?_
                                refine wp_store_row _ _ _ rfl B1 cb rfl rfl 64 _ ((setRow_other wc.drew B B1 ca (by omega)).trans (show wc.drew.heap[B1]? = _ from hB8)) (by rw [hcbz]; kernel_rfl) (by rw [hcbz]; rfl) Hcb1.out ?_
                                refine hJ _ _ ?_
                                clear hJ J
                                refine wpAny_done (by kernel_rfl) ?_ _
                                go_wp2_with fail
                                refine bodyPost_ret (v := .tuple #[.agg ca, .agg cb]) (results_cell_cell rfl _ _ B B1 ca cb rfl rfl ql1 ql2) rfl ?_
                                exact Fin.out
                            · refine Eq.mpr (if_pos (wanted_plain rfl)) ?_
                              refine wp_load_row _ _ rfl wb.heap.size rfl 64 cb (0, 0) _ (hk8) Tryd.underlying64 rfl (by rw [hcbz]; kernel_rfl) ?_
                              refine hJ _ _ ?_
                              clear hJ J
                              refine wpAny_ready (rs := [0]) (by kernel_rfl) (by simp) ?_
                              refine AllReady.cons rfl (fun J hJ => ?_) AllReady.nil
                              refine Eq.mpr (if_pos (wanted_plain rfl)) ?_
                              refine wp_load_row _ _ rfl wa.heap.size rfl 64 ca (0, 0) _ (hj8) Tryd.underlying64 rfl (by rw [hcaz2]; kernel_rfl) ?_
                              refine hJ _ _ ?_
                              clear hJ J
                              refine wpAny_ready (rs := [2]) (by kernel_rfl) (by simp) ?_
                              refine AllReady.cons rfl (fun J hJ => ?_) AllReady.nil
                              refine Eq.mpr (if_pos (wanted_plain rfl)) ?_
                              refine wp_store_row _ _ _ rfl B ca rfl rfl 64 _ (show wc.drew.heap[B]? = _ from hA8) (by rw [hcaz2]; kernel_rfl) (by rw [hcaz2]; rfl) Hca1.out ?_
                              refine hJ _ _ ?_
                              clear hJ J
                              refine wpAny_ready (rs := [3]) (by kernel_rfl) (by simp) ?_
                              refine AllReady.cons rfl (fun J hJ => ?_) AllReady.nil
                              refine Eq.mpr (if_pos (wanted_plain rfl)) ?_
                              refine wp_store_row _ _ _ rfl B1 cb rfl rfl 64 _ ((setRow_other wc.drew B B1 ca (by omega)).trans (show wc.drew.heap[B1]? = _ from hB8)) (by rw [hcbz]; kernel_rfl) (by rw [hcbz]; rfl) Hcb1.out ?_
                              refine hJ _ _ ?_
                              clear hJ J
                              refine wpAny_done (by kernel_rfl) ?_ _
                              go_wp2_with fail
                              refine bodyPost_ret (v := .tuple #[.agg ca, .agg cb]) (results_cell_cell rfl _ _ B B1 ca cb rfl rfl ql1 ql2) rfl ?_
                              exact Fin.out
                · have hout3 := Hout3.out
                  rw [if_pos (by rw [← Hlf.out]; omega)] at hout3
                  have hlb : ((32768 : Int) - (lf : Int) != 0) = true := by simp; omega
                  have Hout4 := Lib.hid hout3
                  clear hout3 Hout3
                  go_wp2_with fail
                  rw [Hout4.out]
                  exact ⟨rfl, rfl, Hcb6.out.k⟩
      · rw [takeB_no h7] at hout
        simp only [] at hout
        have hb3 := fun W (hW : SrcAt W R s r2) => bits_short R s r2 4 W hW (by decide) hs (by omega)
        have Hb3 := Lib.hid hb3
        have Hout := Lib.hid hout
        rw [Hw0.out] at Hb1
        clear hb3 hout h5 h6 h7
        go_enter Tryd.func37, Tryd.ntmps37
        go_wp2_with (first
          | (go_at_call 35; refine (Hb1.out).mono ?_; rintro e w1 ⟨rfl, hS1, hk1⟩
             clear Hb1
             rw [← Hw0.out] at hk1
             have hK1 := Hk0.out.notAtC hk1
             have HS1 := Lib.hid hS1
             have HK1 := Lib.hid hK1
             clear hS1 hk1 hK1)
          | (go_at_call 35; refine (Hb2.out _ HS1.out).mono ?_; rintro e w2 ⟨rfl, hS2, hk2⟩
             clear Hb2
             have hK2 := HK1.out.notAtC hk2
             have HS2 := Lib.hid hS2
             have HK2 := Lib.hid hK2
             clear hS2 hk2 hK2)
          | (go_at_call 35; refine (Hb3.out _ HS2.out).mono ?_; rintro e w3 ⟨rfl, hk3⟩
             clear Hb3))
        rw [Hout.out]
        exact ⟨rfl, rfl, HK2.out.notAtC hk3⟩
    · rw [takeB_no h6] at hout
      simp only [] at hout
      have hb2 := fun W (hW : SrcAt W R s r1) => bits_short R s r1 5 W hW (by decide) hs (by omega)
      have Hb2 := Lib.hid hb2
      have Hout := Lib.hid hout
      rw [Hw0.out] at Hb1
      clear hb2 hout h5 h6
      go_enter Tryd.func37, Tryd.ntmps37
      go_wp2_with (first
        | (go_at_call 35; refine (Hb1.out).mono ?_; rintro e w1 ⟨rfl, hS1, hk1⟩
           clear Hb1
           rw [← Hw0.out] at hk1
           have hK1 := Hk0.out.notAtC hk1
           have HS1 := Lib.hid hS1
           have HK1 := Lib.hid hK1
           clear hS1 hk1 hK1)
        | (go_at_call 35; refine (Hb2.out _ HS1.out).mono ?_; rintro e w2 ⟨rfl, hk2⟩
           clear Hb2))
      rw [Hout.out]
      exact ⟨rfl, rfl, HK1.out.notAtC hk2⟩
  · rw [takeB_no h5] at hout
    simp only [] at hout
    have Hout := Lib.hid hout
    have hb1 := bits_short R s r 5 w0 HS0.out (by decide) hs (by omega)
    rw [Hw0.out] at hb1
    have Hb1 := Lib.hid hb1
    clear hout hb1
    go_enter Tryd.func37, Tryd.ntmps37
    go_wp2_with (go_at_call 35; refine (Hb1.out).mono ?_; rintro e w1 ⟨rfl, hk1⟩; clear Hb1)
    rw [Hout.out]
    refine ⟨rfl, rfl, ?_⟩
    rw [← Hw0.out] at hk1
    exact Hk0.out.notAtC hk1
end Go.Proofs.YtjielagabnkimaaDoor
