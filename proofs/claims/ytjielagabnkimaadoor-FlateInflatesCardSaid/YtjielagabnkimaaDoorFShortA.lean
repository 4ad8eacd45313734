/- What flate.short holds while it goes through the text; its closures as it meets them. -/
import Derived.Test.YtjielagabnkimaaDoorFNote
import Derived.Test.YtjielagabnkimaaDoorFPure
import Derived.Laws.EntriesVeiled
import Derived.Deep.OwnRows
import Derived.Deep.DeepCutAuto
import Derived.Laws.MakeOwn
set_option linter.unusedSimpArgs false
set_option linter.unusedVariables false
namespace Go.Proofs.YtjielagabnkimaaDoor
open Go.RowKit Go.Maps

theorem Tryd.info_int : (Tryd.prog.info? 3).map (fun i => (i.zero, i.size, i.bytes)) = some (some (.int .i64 0), 1, 8) := by kernel_rfl
/-- where the variables of short lie -/
structure Rooms (B O H V P M Fb X Nb : Nat) : Prop where
  o : O = B + 1
  h : H = B + 1 + 1
  v : V = B + 1 + 1 + 1
  p : P = B + 1 + 1 + 1 + 1
  m : B + 5 ≤ M
  fb : Fb = M + 1
  x : X = M + 1 + 1
  nb : Nb = M + 1 + 1 + 1
theorem Rooms.putNe {B O H V P M Fb X Nb : Nat} (h : Rooms B O H V P M Fb X Nb) : H ≠ V ∧ H ≠ O ∧ V ≠ O ∧ (B ≤ H ∧ B ≤ V ∧ B ≤ O) := by
  have r1 := h.o
  have r2 := h.h
  have r3 := h.v
  omega
theorem Rooms.noteNe {B O H V P M Fb X Nb : Nat} (h : Rooms B O H V P M Fb X Nb) : M ≠ X ∧ Fb ≠ X ∧ Nb ≠ X ∧ B ≠ X ∧ Fb ≠ M ∧ Nb ≠ M ∧ B ≠ M := by
  have r5 := h.m
  have r6 := h.fb
  have r7 := h.x
  have r8 := h.nb
  omega
/-- what short holds when it stands at place i -/
structure ShortAt (w0 wr : World) (s : ByteArray) (B O H V P M Fb X Nb : Nat) (i : Nat) (bits : List Bool) : Prop where
  wrote : Wrote wr H V O B bits
  note : NoteAt wr s B Fb Nb M X i
  put : Boxed wr P 87 (putV H V O)
  below : Below B w0 wr
theorem ShortAt.putted {w0 wr w' : World} {s : ByteArray} {B O H V P M Fb X Nb i : Nat} {bits bits' : List Bool} (h : ShortAt w0 wr s B O H V P M Fb X Nb i bits) (hr : Rooms B O H V P M Fb X Nb)
    (hw : Wrote w' H V O B bits') (hk : Keeps (okPut H V O B) wr w') : ShortAt w0 w' s B O H V P M Fb X Nb i bits' := by
  have r1 := hr.o
  have r2 := hr.h
  have r3 := hr.v
  have r4 := hr.p
  have r5 := hr.m
  have r6 := hr.fb
  have r7 := hr.x
  have r8 := hr.nb
  have hlt : B ≤ wr.heap.size := by have := h.put.lt; omega
  refine ⟨hw, h.note.keeps hk ?_ ?_ ?_ ?_ ?_, hk.boxed h.put ⟨by omega, by omega, by omega, .inr (notRow_box (by decide))⟩, h.below.trans (hk.below hlt (fun k o hk => ⟨by omega, by omega, by omega, .inl hk⟩))⟩
  · exact ⟨by omega, by omega, by omega, .inr (notRow_box (by decide))⟩
  · exact ⟨by omega, by omega, by omega, .inr (notRow_box (by decide))⟩
  · exact ⟨by omega, by omega, by omega, .inr (notRow_box (by decide))⟩
  · exact fun es c => ⟨by omega, by omega, by omega, .inr (fun cs fz e => by cases e)⟩
  · exact fun cur => ⟨by omega, by omega, by omega, .inr (fun cs fz e => by cases e)⟩
theorem ShortAt.noted {w0 wr w' : World} {s : ByteArray} {B O H V P M Fb X Nb i j : Nat} {bits : List Bool} (h : ShortAt w0 wr s B O H V P M Fb X Nb i bits) (hr : Rooms B O H V P M Fb X Nb)
    (hn : NoteAt w' s B Fb Nb M X j) (hk : Keeps (okNote M X) wr w') : ShortAt w0 w' s B O H V P M Fb X Nb j bits := by
  have r1 := hr.o
  have r2 := hr.h
  have r3 := hr.v
  have r4 := hr.p
  have r5 := hr.m
  have r6 := hr.fb
  have r7 := hr.x
  have r8 := hr.nb
  have hlt : B ≤ wr.heap.size := by have := h.put.lt; omega
  obtain ⟨out, hold, hv, hp, h8, e⟩ := h.wrote
  obtain ⟨ov, ho, hrow⟩ := hp.o
  refine ⟨⟨out, hold, hv, ⟨hk.boxed hp.h ⟨by omega, by omega⟩, hk.boxed hp.v ⟨by omega, by omega⟩, ⟨ov, hk.boxed ho ⟨by omega, by omega⟩, ?_⟩, hp.lt⟩, h8, e⟩, hn, hk.boxed h.put ⟨by omega, by omega⟩, h.below.trans (hk.below hlt (fun k o hk => ⟨by omega, by omega⟩))⟩
  refine ⟨hrow.1, ?_⟩
  rcases hrow.2 with h2 | ⟨g, cap, cur, rfl, hb, hg, h3⟩
  · exact .inl h2
  · obtain ⟨D, n, ⟨es, c, hM, hD⟩, hn, hat⟩ := h.note.map
    obtain ⟨cu, hX, hcur⟩ := h.note.row
    refine .inr ⟨g, cap, cur, rfl, hb, hk.block g _ hg ⟨?_, ?_⟩, h3⟩
    · rintro rfl
      rw [hM] at hg; cases hg
    · rintro rfl
      rw [hX] at hg; cases hg
theorem ShortAt.same {w0 wr w' : World} {s : ByteArray} {B O H V P M Fb X Nb i : Nat} {bits : List Bool} (h : ShortAt w0 wr s B O H V P M Fb X Nb i bits) (hs : Same wr w') : ShortAt w0 w' s B O H V P M Fb X Nb i bits := by
  obtain ⟨n, rfl⟩ := hs
  obtain ⟨out, hold, hv, hp, h8, e⟩ := h.wrote
  exact ⟨⟨out, hold, hv, ⟨hp.h, hp.v, hp.o, hp.lt⟩, h8, e⟩, h.note.drewN n, h.put, below_drewN h.below n⟩
theorem ShortAt.drew {w0 wr : World} {s : ByteArray} {B O H V P M Fb X Nb i : Nat} {bits : List Bool} (h : ShortAt w0 wr s B O H V P M Fb X Nb i bits) : ShortAt w0 wr.drew s B O H V P M Fb X Nb i bits := ⟨h.wrote.drew, h.note.drewN 1, h.put, below_drew h.below⟩
set_option maxRecDepth 100000 in
theorem NoteAt.look {w : World} {s : ByteArray} {Sb Fb Nb M X i : Nat} (h : NoteAt w s Sb Fb Nb M X i) (hi : i + 3 ≤ s.size) (n : Nat) :
    (Instr.lookup 89 (.map (some M)) (.int .u32 ((threeN s.data.toList i : Nat) : Int)) false).run Tryd.prog (w.drewN n) = .ok (.int .i64 ((firstOf s.data.toList (threeN s.data.toList i) i : Nat) : Int)) (w.drewN n) := by
  obtain ⟨D, k, hown, _, hat⟩ := (h.drewN n).map
  obtain ⟨c, hrun, hc, _⟩ := hown.lookup_int Tryd.keyed_u32 Tryd.underlying89 Tryd.underlying3 (Tryd.zero_int _) (keyOf_int_mk Tryd.underlying25 (WalkArith.wf_u32 (by have := threeN_lt s.data.toList i; omega) : (Lit.int .u32 ((threeN s.data.toList i : Nat) : Int)).wf = true))
  have h1 := (hat (threeN s.data.toList i)).symm.trans hc
  rw [show min i (s.size - 2) = i by omega] at h1
  injection h1 with h2
  injection h2 with _ h3
  rw [h3]
  exact hrun
theorem NoteAt.back {w : World} {s : ByteArray} {Sb Fb Nb M X i : Nat} (h : NoteAt w s Sb Fb Nb M X i) (j : Nat) (hj : j < i) (hi : i + 3 ≤ s.size) : w.cell? ⟨X, j, none⟩ = some (.int .i64 ((firstOf s.data.toList (threeN s.data.toList j) j : Nat) : Int)) := by
  obtain ⟨cur, hX, _, hcur⟩ := h.row
  rw [cell_of_row w X j cur _ _ hX]
  exact hcur j (by omega)
theorem first_head (s : List UInt8) (k j : Nat) : (firstOf s k j = 0 ∧ chain s k j = []) ∨ ∃ a, firstOf s k j = a + 1 ∧ a < j ∧ threeN s a = k ∧ chain s k j = a :: chain s k a := by
  unfold firstOf
  rcases chain_head s k j with h | ⟨a, h1, h2, h3⟩
  · rw [h]; exact .inl ⟨rfl, rfl⟩
  · rw [h3]; exact .inr ⟨a, rfl, h1, h2, rfl⟩
theorem TabAt.below {w w' : World} {b B : Nat} {T : List (Nat × Nat)} (h : TabAt w b T) (hb : Below B w w') (hB : b < B) : TabAt w' b T :=
  fun k hk => ⟨(hb.cell (p := ⟨b, k * 2, none⟩) hB).trans (h k hk).1, (hb.cell (p := ⟨b, k * 2 + 1, none⟩) hB).trans (h k hk).2⟩
/-- the tables -/
def Tabs (w : World) : Prop := TabAt w 0 lensT ∧ TabAt w 1 distT ∧ 3 < w.heap.size
/-- a slice of bytes, with the block it lies in -/
def BytesAt (w : World) (base : Nat) (v : Value) (l : List UInt8) : Prop := ∃ g cur, v = .slice (some ⟨g, 0, none⟩) l.length l.length ∧ base ≤ g ∧ w.heap[g]? = some (.cells cur 5 (0, 0)) ∧ l.length ≤ cur.size ∧ cur.toList.take l.length = l.map encB

theorem clip_any (g n cap : Nat) (w : World) (h : n ≤ cap) : Calls Tryd.prog 54 #[.slice (some ⟨g, 0, none⟩) n cap] w fun e w' => e = .returned (.slice (some ⟨g, 0, none⟩) n n) ∧ w = w' := by
  go_enter Tryd.func54, Tryd.ntmps54
  go_wp2_with fail
  go_ret
  exact ⟨rfl, rfl⟩
/-- the closures, as ShortAt has them -/
theorem ShortAt.sym {w0 wr : World} {s : ByteArray} {B O H V P M Fb X Nb i : Nat} {bits : List Bool} (h : ShortAt w0 wr s B O H V P M Fb X Nb i bits) (hr : Rooms B O H V P M Fb X Nb) (hl : bits.length < 2 ^ 40) (x : Nat) (hx : x < 288) (v : Int) (hv : v = (x : Int)) :
    Calls Tryd.prog 48 #[.int .i64 v, .pointer (some ⟨P, 0, none⟩)] wr fun e w' => e = .returned (.tuple #[]) ∧ ShortAt w0 w' s B O H V P M Fb X Nb i (bits ++ litBits x) := by
  subst hv
  obtain ⟨h1, h2, h3, h4⟩ := hr.putNe
  exact (symbol_any x H V O P B bits wr h1 h2 h3 h4 h.wrote h.put hx hl).mono fun e w' ⟨a, b, c⟩ => ⟨a, h.putted hr b c⟩
theorem ShortAt.puts {w0 wr : World} {s : ByteArray} {B O H V P M Fb X Nb i : Nat} {bits : List Bool} (h : ShortAt w0 wr s B O H V P M Fb X Nb i bits) (hr : Rooms B O H V P M Fb X Nb) (hl : bits.length < 2 ^ 40) (x n : Nat) (hn : n ≤ 16) (hx : x < 2 ^ n) (v u : Int) (hv : v = (x : Int)) (hu : u = (n : Int)) :
    Calls Tryd.prog 47 #[.int .i64 v, .int .i64 u, .pointer (some ⟨H, 0, none⟩), .pointer (some ⟨V, 0, none⟩), .pointer (some ⟨O, 0, none⟩)] wr fun e w' => e = .returned (.tuple #[]) ∧ ShortAt w0 w' s B O H V P M Fb X Nb i (bits ++ low x n) := by
  subst hv
  subst hu
  obtain ⟨h1, h2, h3, h4⟩ := hr.putNe
  exact (put_any x n H V O B bits wr h1 h2 h3 h4 h.wrote hn hx hl).mono fun e w' ⟨a, b, c⟩ => ⟨a, h.putted hr b c⟩
theorem ShortAt.notes {w0 wr : World} {s : ByteArray} {B O H V P M Fb X Nb i : Nat} {bits : List Bool} (h : ShortAt w0 wr s B O H V P M Fb X Nb i bits) (hr : Rooms B O H V P M Fb X Nb) (hi : i < s.size) (hs : s.size < 2 ^ 40) (v : Int) (hv : v = (i : Int)) :
    Calls Tryd.prog 50 #[.int .i64 v, .pointer (some ⟨B, 0, none⟩), .pointer (some ⟨Fb, 0, none⟩), .pointer (some ⟨Nb, 0, none⟩)] wr fun e w' => e = .returned (.tuple #[]) ∧ ShortAt w0 w' s B O H V P M Fb X Nb (i + 1) bits := by
  subst hv
  obtain ⟨h1, h2, h3, h4, h5, h6, h7⟩ := hr.noteNe
  exact (note_any s B Fb Nb M X i wr h.note h1 h2 h3 h4 h5 h6 h7 hi hs).mono fun e w' ⟨a, b, c⟩ => ⟨a, h.noted hr b c⟩
theorem lens_last (w : World) (hT : TabAt w 0 lensT) (n : Nat) (h1 : 3 ≤ n) (h2 : n ≤ 258) (v : Int) (hv : v = (n : Int)) :
    Calls Tryd.prog 53 #[.slice (some ⟨0, 0, none⟩) 29 29, .int .i64 v] w fun e w' => e = .returned (.int .i64 ((lenAt n : Nat) : Int)) ∧ w = w' := by
  subst hv
  exact last_any 0 lensT n w hT (by decide) (by decide) (by simpa [lensT] using h1) (by omega) (by decide)
theorem dist_last (w : World) (hT : TabAt w 1 distT) (n : Nat) (h1 : 1 ≤ n) (h2 : n ≤ 32768) (v : Int) (hv : v = (n : Int)) :
    Calls Tryd.prog 53 #[.slice (some ⟨1, 0, none⟩) 30 30, .int .i64 v] w fun e w' => e = .returned (.int .i64 ((distAt n : Nat) : Int)) ∧ w = w' := by
  subst hv
  exact last_any 1 distT n w hT (by decide) (by decide) (by simpa [distT] using h1) (by omega) (by decide)

end Go.Proofs.YtjielagabnkimaaDoor
