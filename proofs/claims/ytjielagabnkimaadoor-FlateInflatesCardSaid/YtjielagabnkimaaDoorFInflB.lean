/- flate.Inflate: its frames by what they hold; its ways out through the deferred closure. -/
import Derived.Test.YtjielagabnkimaaDoorFInflA
set_option linter.unusedSimpArgs false
set_option linter.unusedVariables false
namespace Go.Proofs.YtjielagabnkimaaDoor
open Go.RowKit
/-- the closure put -/
def putIV (M O : Nat) : Value := .func (.func 34) #[] #[.pointer (some ⟨O, 0, none⟩), .pointer (some ⟨M, 0, none⟩)]
/-- a frame of Inflate -/
def IFr (tm : Array Value) (M T K E R O : Nat) : Prop := tm.size = 156 ∧ tm.getD 3 undef = .pointer (some ⟨M, 0, none⟩) ∧ tm.getD 4 undef = .pointer (some ⟨T, 0, none⟩) ∧ tm.getD 5 undef = .pointer (some ⟨K, 0, none⟩) ∧ tm.getD 6 undef = .pointer (some ⟨E, 0, none⟩) ∧ tm.getD 7 undef = .pointer (some ⟨R, 0, none⟩) ∧ tm.getD 8 undef = .pointer (some ⟨O, 0, none⟩) ∧ tm.getD 9 undef = putIV M O
theorem arr156 (tm : Array Value) (h : tm.size = 156) : ∃ x : Nat → Value, tm = #[x 0, x 1, x 2, x 3, x 4, x 5, x 6, x 7, x 8, x 9, x 10, x 11, x 12, x 13, x 14, x 15, x 16, x 17, x 18, x 19, x 20, x 21, x 22, x 23, x 24, x 25, x 26, x 27, x 28, x 29, x 30, x 31, x 32, x 33, x 34, x 35, x 36, x 37, x 38, x 39, x 40, x 41, x 42, x 43, x 44, x 45, x 46, x 47, x 48, x 49, x 50, x 51, x 52, x 53, x 54, x 55, x 56, x 57, x 58, x 59, x 60, x 61, x 62, x 63, x 64, x 65, x 66, x 67, x 68, x 69, x 70, x 71, x 72, x 73, x 74, x 75, x 76, x 77, x 78, x 79, x 80, x 81, x 82, x 83, x 84, x 85, x 86, x 87, x 88, x 89, x 90, x 91, x 92, x 93, x 94, x 95, x 96, x 97, x 98, x 99, x 100, x 101, x 102, x 103, x 104, x 105, x 106, x 107, x 108, x 109, x 110, x 111, x 112, x 113, x 114, x 115, x 116, x 117, x 118, x 119, x 120, x 121, x 122, x 123, x 124, x 125, x 126, x 127, x 128, x 129, x 130, x 131, x 132, x 133, x 134, x 135, x 136, x 137, x 138, x 139, x 140, x 141, x 142, x 143, x 144, x 145, x 146, x 147, x 148, x 149, x 150, x 151, x 152, x 153, x 154, x 155] ∧ ∀ i, x i = tm.getD i undef := by
  refine ⟨fun i => tm.getD i undef, ?_, fun _ => rfl⟩
  have e : tm = ((List.range 156).map fun i => tm.getD i undef).toArray := by
    apply Array.ext
    · simp [h]
    · intro i h1 h2
      simp [Array.getD, h1]
  exact e
theorem IFr.open {tm : Array Value} {M T K E R O : Nat} (h : IFr tm M T K E R O) : ∃ x : Nat → Value, tm = #[x 0, x 1, x 2, .pointer (some ⟨M, 0, none⟩), .pointer (some ⟨T, 0, none⟩), .pointer (some ⟨K, 0, none⟩), .pointer (some ⟨E, 0, none⟩), .pointer (some ⟨R, 0, none⟩), .pointer (some ⟨O, 0, none⟩), putIV M O, x 10, x 11, x 12, x 13, x 14, x 15, x 16, x 17, x 18, x 19, x 20, x 21, x 22, x 23, x 24, x 25, x 26, x 27, x 28, x 29, x 30, x 31, x 32, x 33, x 34, x 35, x 36, x 37, x 38, x 39, x 40, x 41, x 42, x 43, x 44, x 45, x 46, x 47, x 48, x 49, x 50, x 51, x 52, x 53, x 54, x 55, x 56, x 57, x 58, x 59, x 60, x 61, x 62, x 63, x 64, x 65, x 66, x 67, x 68, x 69, x 70, x 71, x 72, x 73, x 74, x 75, x 76, x 77, x 78, x 79, x 80, x 81, x 82, x 83, x 84, x 85, x 86, x 87, x 88, x 89, x 90, x 91, x 92, x 93, x 94, x 95, x 96, x 97, x 98, x 99, x 100, x 101, x 102, x 103, x 104, x 105, x 106, x 107, x 108, x 109, x 110, x 111, x 112, x 113, x 114, x 115, x 116, x 117, x 118, x 119, x 120, x 121, x 122, x 123, x 124, x 125, x 126, x 127, x 128, x 129, x 130, x 131, x 132, x 133, x 134, x 135, x 136, x 137, x 138, x 139, x 140, x 141, x 142, x 143, x 144, x 145, x 146, x 147, x 148, x 149, x 150, x 151, x 152, x 153, x 154, x 155] := by
  obtain ⟨hz, h3, h4, h5, h6, h7, h8, h9⟩ := h
  obtain ⟨x, hx, hg⟩ := arr156 tm hz
  refine ⟨x, ?_⟩
  rw [← hg 3] at h3
  rw [← hg 4] at h4
  rw [← hg 5] at h5
  rw [← hg 6] at h6
  rw [← hg 7] at h7
  rw [← hg 8] at h8
  rw [← hg 9] at h9
  rw [h3, h4, h5, h6, h7, h8, h9] at hx
  exact hx
theorem IFr.open2 {tm : Array Value} {M T K E R O A B : Nat} (h : IFr tm M T K E R O) (hA : tm.getD 11 undef = .pointer (some ⟨A, 0, none⟩)) (hB : tm.getD 12 undef = .pointer (some ⟨B, 0, none⟩)) : ∃ x : Nat → Value, tm = #[x 0, x 1, x 2, .pointer (some ⟨M, 0, none⟩), .pointer (some ⟨T, 0, none⟩), .pointer (some ⟨K, 0, none⟩), .pointer (some ⟨E, 0, none⟩), .pointer (some ⟨R, 0, none⟩), .pointer (some ⟨O, 0, none⟩), putIV M O, x 10, .pointer (some ⟨A, 0, none⟩), .pointer (some ⟨B, 0, none⟩), x 13, x 14, x 15, x 16, x 17, x 18, x 19, x 20, x 21, x 22, x 23, x 24, x 25, x 26, x 27, x 28, x 29, x 30, x 31, x 32, x 33, x 34, x 35, x 36, x 37, x 38, x 39, x 40, x 41, x 42, x 43, x 44, x 45, x 46, x 47, x 48, x 49, x 50, x 51, x 52, x 53, x 54, x 55, x 56, x 57, x 58, x 59, x 60, x 61, x 62, x 63, x 64, x 65, x 66, x 67, x 68, x 69, x 70, x 71, x 72, x 73, x 74, x 75, x 76, x 77, x 78, x 79, x 80, x 81, x 82, x 83, x 84, x 85, x 86, x 87, x 88, x 89, x 90, x 91, x 92, x 93, x 94, x 95, x 96, x 97, x 98, x 99, x 100, x 101, x 102, x 103, x 104, x 105, x 106, x 107, x 108, x 109, x 110, x 111, x 112, x 113, x 114, x 115, x 116, x 117, x 118, x 119, x 120, x 121, x 122, x 123, x 124, x 125, x 126, x 127, x 128, x 129, x 130, x 131, x 132, x 133, x 134, x 135, x 136, x 137, x 138, x 139, x 140, x 141, x 142, x 143, x 144, x 145, x 146, x 147, x 148, x 149, x 150, x 151, x 152, x 153, x 154, x 155] := by
  obtain ⟨hz, h3, h4, h5, h6, h7, h8, h9⟩ := h
  obtain ⟨x, hx, hg⟩ := arr156 tm hz
  refine ⟨x, ?_⟩
  rw [← hg 3] at h3
  rw [← hg 4] at h4
  rw [← hg 5] at h5
  rw [← hg 6] at h6
  rw [← hg 7] at h7
  rw [← hg 8] at h8
  rw [← hg 9] at h9
  rw [← hg 11] at hA
  rw [← hg 12] at hB
  rw [h3, h4, h5, h6, h7, h8, h9, hA, hB] at hx
  exact hx
/-- the results have been laid: an error -/
def InfRet (w W : World) (M T K E no : Nat) : Prop := Boxed W T 9 (.string ⟨#[]⟩) ∧ Boxed W K 3 (.int .i64 0) ∧ Boxed W E 30 (.iface 55 (.int .i64 (no : Int))) ∧ Below M w W
/-- what the ways out want -/
structure InfQ (w : World) (M T K E R O : Nat) (most : Int) (res : Except Nat (List UInt8 × Nat)) (Q : Exit → Act → World → Prop) : Prop where
  pan : ∀ (no : Nat) (tm : Array Value) (W : World), IFr tm M T K E R O → InfLow w W M T K E most → res = .error no → Q (.panic (stopC (no : Int))) ⟨tm, infD T K E⟩ W
  ret : ∀ (no : Nat) (tm : Array Value) (W : World), IFr tm M T K E R O → InfRet w W M T K E no → res = .error no → Q .ret ⟨tm, infD T K E⟩ W
  fr : ∀ (c : List PanicEntry) (a : Act) (i : Nat) (v : Value) (W : World), 10 ≤ i → Q (.panic c) (a.put (some i) v) W → Q (.panic c) a W
theorem leave_ret {w W : World} {R : Ending → World → Prop} {tm : Array Value} {T K E : Nat} {vt vk ve : Value} (h4 : tm.getD 4 undef = .pointer (some ⟨T, 0, none⟩)) (h5 : tm.getD 5 undef = .pointer (some ⟨K, 0, none⟩)) (h6 : tm.getD 6 undef = .pointer (some ⟨E, 0, none⟩))
    (ht : Boxed W T 9 vt) (hk : Boxed W K 3 vk) (he : Boxed W E 30 ve) (hR : R (.returned (.tuple #[vt, vk, ve])) W) : bodyPostD Tryd.prog Tryd.f16 R .ret { tmps := tm, defers := infD T K E } W := by
  show Leaves Tryd.prog Tryd.f16 tm R (infD T K E) .returning W
  unfold infD
  refine leaves_cons (f := 33) (args := #[.pointer (some ⟨T, 0, none⟩), .pointer (some ⟨K, 0, none⟩), .pointer (some ⟨E, 0, none⟩)]) (by simp) (by simp [go_sem]) ?_
  refine (catch_idle T K E W).mono ?_
  rintro e u' w'' ⟨rfl, rfl, rfl⟩
  exact ⟨_, inf_results tm T K E w'' vt vk ve h4 h5 h6 ht hk he, hR⟩
theorem leave_pan {w W : World} {R : Ending → World → Prop} {tm : Array Value} {M T K E no : Nat} {most : Int} (h4 : tm.getD 4 undef = .pointer (some ⟨T, 0, none⟩)) (h5 : tm.getD 5 undef = .pointer (some ⟨K, 0, none⟩)) (h6 : tm.getD 6 undef = .pointer (some ⟨E, 0, none⟩))
    (hl : InfLow w W M T K E most) (hR : ∀ w', Below M w w' → R (.returned (.tuple #[.string ⟨#[]⟩, .int .i64 0, .iface 55 (.int .i64 (no : Int))])) w') : bodyPostD Tryd.prog Tryd.f16 R (.panic (stopC (no : Int))) { tmps := tm, defers := infD T K E } W := by
  show Leaves Tryd.prog Tryd.f16 tm R (infD T K E) (.panicking (stopC (no : Int))) W
  unfold infD
  refine leaves_cons (f := 33) (args := #[.pointer (some ⟨T, 0, none⟩), .pointer (some ⟨K, 0, none⟩), .pointer (some ⟨E, 0, none⟩)]) (by simp) (by simp [go_sem]) ?_
  refine (catch_stop (no : Int) T K E W hl.t hl.k hl.e hl.o.2.1 hl.o.2.2).mono ?_
  rintro e u' w'' ⟨rfl, rfl, ht, hk, he, hb⟩
  exact ⟨_, inf_results tm T K E w'' _ _ _ h4 h5 h6 ht hk he, hR w'' (hl.low.trans (hb.mono (by have := hl.o.1; omega)))⟩
theorem leaves_congr {P : Program} {fn : Func} {t1 t2 : Array Value} {R : Ending → World → Prop} (h : results fn t1 = results fn t2) : ∀ (ds : List Deferred) (u : FrameMode) (w : World), Leaves P fn t1 R ds u w → Leaves P fn t2 R ds u w
  | [], .returning, w, hh => by unfold Leaves at hh ⊢; rw [← h]; exact hh
  | [], .panicking _, _, hh => hh
  | [], .run, _, hh => hh
  | d :: ds, u, w, hh => by
    obtain ⟨h1, fv, cap, f, args, h2, h3, h4⟩ := hh
    refine ⟨h1, fv, cap, f, args, h2, h3, h4.mono ?_⟩
    intro e u' w' hr
    cases e with
    | returned v => exact leaves_congr h ds _ _ hr
    | panicked ch => exact leaves_congr h ds _ _ hr
    | outgrown => exact hr
theorem inf_frame (R : Ending → World → Prop) (c : List PanicEntry) (a : Act) (i : Nat) (v : Value) (W : World) (hi : 10 ≤ i) (h : bodyPostD Tryd.prog Tryd.f16 R (.panic c) (a.put (some i) v) W) : bodyPostD Tryd.prog Tryd.f16 R (.panic c) a W := by
  refine leaves_congr ?_ a.defers (.panicking c) W h
  have g : ∀ j, j < 10 → (a.tmps.setIfInBounds i v).getD j undef = a.tmps.getD j undef := fun j hj => by
    rw [Array.getD_eq_getD_getElem?, Array.getD_eq_getD_getElem?, Array.getElem?_setIfInBounds_ne (by omega)]
  have g4 := g 4 (by decide)
  have g5 := g 5 (by decide)
  have g6 := g 6 (by decide)
  simp only [Array.getD_eq_getD_getElem?] at g4 g5 g6
  simp [results, Tryd.results16, Act.put, g4, g5, g6]
/-- the block n of a code -/
def findBlock (n : Nat) : Code → Option Code
  | .seq a b => match findBlock n a with
    | some c => some c
    | none => findBlock n b
  | .block m c => if m = n then some (.block m c) else findBlock n c
  | .scope c => findBlock n c
  | .loop c => findBlock n c
  | .cond _ a b => match findBlock n a with
    | some c => some c
    | none => findBlock n b
  | _ => none
end Go.Proofs.YtjielagabnkimaaDoor
