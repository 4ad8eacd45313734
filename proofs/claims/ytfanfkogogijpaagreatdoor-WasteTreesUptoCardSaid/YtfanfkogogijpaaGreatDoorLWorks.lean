/- What each statement asks first. -/
import Derived.Test.YtfanfkogogijpaaGreatDoorLLook
import Derived.Test.YtfanfkogogijpaaGreatDoorLMake
set_option linter.unusedSimpArgs false
set_option linter.unusedVariables false
set_option exponentiation.threshold 3000
namespace Go.Proofs.YtfanfkogogijpaaGreatDoor
open Go.RowKit Go.Maps
open Go.Lib hiding intOf size_eq
def sA : ByteArray := ⟨#[97]⟩
def sB : ByteArray := ⟨#[98]⟩
def wksL : List (List WChg) := [[mkLaid sA 6], [mkLaid sA 2, mkLaid sB 0]]
theorem wks_t : totalR (flatC wksL) = 8 := by decide +kernel
theorem wks_l : leastR (flatC wksL) = 2 := by decide +kernel
theorem wks_s : wksL.map sizeC = [6, 2] := by decide +kernel
theorem wks_f : flatC wksL = [⟨[97], false, 6⟩, ⟨[97], false, 2⟩, ⟨[98], false, 0⟩] := rfl
theorem wks_w : worstR (flatC wksL) = [⟨[97], 2, 6⟩] := by rw [wks_f]; rfl
theorem wks_v {sc me sp : Nat} (h : LookV 8 2 [6, 2] sc me sp) : sc = 4598175219545276416 ∧ me = 4616189618054758400 ∧ sp = 4611686018427387904 := by
  have h1 := h.sc1 (by decide)
  have h2 := h.me1 (by decide)
  obtain ⟨q, h3, h4⟩ := h.sp1 (by decide)
  have e1 : Fl.F.div (Fl.fl 2) (Fl.fl 8) = some 4598175219545276416 := by decide +kernel
  have e2 : Fl.F.div (Fl.fl 8) (Fl.fl [6, 2].length) = some 4616189618054758400 := by decide +kernel
  rw [e1] at h1
  rw [e2] at h2
  injection h1 with h1
  injection h2 with h2
  subst h1 h2
  have e3 : Fl.F.div (sumF 4616189618054758400 [6, 2]) (Fl.fl [6, 2].length) = some 4616189618054758400 := by decide +kernel
  rw [e3] at h3
  injection h3 with h3
  subst h3
  have e4 : Fl.F.sqrt 4616189618054758400 = some 4611686018427387904 := by decide +kernel
  rw [e4] at h4
  injection h4 with h4
  exact ⟨rfl, rfl, h4.symm⟩
theorem cell_grown_B {w w' : World} (hb : Below w.heap.size w w') {b : Nat} {o : Obj} (h : w.heap[b]? = some o) : w'.heap[b]? = some o := (hb.block b (heap_lt h)).trans h
theorem works_look (v : Value) (W : World) (h : DeltasAt W v wksL) : Calls Tryz.prog 6 #[v] W fun r w' => ∃ (g c : Nat), r = .returned (.agg #[.int .i64 8, .int .i64 2, .float .f64 4598175219545276416, .float .f64 4616189618054758400, .float .f64 4611686018427387904, .slice (some ⟨g, 0, none⟩) 1 c]) ∧ 1 ≤ c ∧ c ≤ maxLen ∧
    w'.cell? ⟨g, 0, none⟩ = some (.string ⟨#[97]⟩) ∧ w'.cell? ⟨g, 1, none⟩ = some (.int .i64 2) ∧ w'.cell? ⟨g, 2, none⟩ = some (.int .i64 6) ∧ Below W.heap.size W w' := by
  refine (look_any v wksL W h (by decide) (by decide) (by rw [wks_t]; decide) (by decide)).mono ?_
  rintro r w' ⟨vw, sc, me, sp, rfl, hv, hrow, hb⟩
  rw [wks_t, wks_l, wks_s] at hv
  obtain ⟨rfl, rfl, rfl⟩ := wks_v hv
  rw [wks_w] at hrow
  have hit := items_of_row (L := [⟨⟨#[97]⟩, 2, 6⟩]) (enc := lostC) (sz := 3) lostC_len hrow
  obtain ⟨o, c, rfl, h1, h2, h3⟩ := hit
  obtain ⟨_, h4⟩ := hrow
  rcases h4 with ⟨e, _⟩ | ⟨g, cap, cur, e, hg, _⟩
  · cases e
  · injection e with e1 e2 e3
    subst e1
    obtain ⟨a, ha, hal, hc⟩ := h3 0 _ rfl
    injection ha with ha
    subst ha
    have c0 := hc 0 _ rfl
    have c1 := hc 1 _ rfl
    have c2 := hc 2 _ rfl
    refine ⟨g, c, ?_, h1, h2, c0, c1, c2, hb⟩
    rw [wks_t, wks_l]
    rfl
set_option maxRecDepth 100000 in
set_option maxHeartbeats 2000000 in
theorem works_any (w : World) : Calls Tryz.prog 7 #[] w fun r w' => r = .returned (.bool true) ∧ Below w.heap.size w w' := by
  obtain ⟨z6, hz6⟩ : ∃ y, y = bs (zer 6) := ⟨_, rfl⟩
  obtain ⟨z2, hz2⟩ : ∃ y, y = bs (zer 2) := ⟨_, rfl⟩
  obtain ⟨z0, hz0⟩ : ∃ y, y = bs (zer 0) := ⟨_, rfl⟩
  have h1 : ∀ W, Calls Tryz.prog 18 #[.string ⟨#[97]⟩, .int .i64 6] W fun r w' => r = .returned (.agg #[.string ⟨#[97]⟩, .bool false, .string ⟨#[97]⟩, .int .i64 2, .int .i64 420, .string z6, .string ⟨#[]⟩]) ∧ Below W.heap.size W w' := by rw [hz6]; exact laid_any sA 6 (by decide)
  have h2 : ∀ W, Calls Tryz.prog 18 #[.string ⟨#[97]⟩, .int .i64 2] W fun r w' => r = .returned (.agg #[.string ⟨#[97]⟩, .bool false, .string ⟨#[97]⟩, .int .i64 2, .int .i64 420, .string z2, .string ⟨#[]⟩]) ∧ Below W.heap.size W w' := by rw [hz2]; exact laid_any sA 2 (by decide)
  have h3 : ∀ W, Calls Tryz.prog 18 #[.string ⟨#[98]⟩, .int .i64 0] W fun r w' => r = .returned (.agg #[.string ⟨#[98]⟩, .bool false, .string ⟨#[98]⟩, .int .i64 2, .int .i64 420, .string z0, .string ⟨#[]⟩]) ∧ Below W.heap.size W w' := by rw [hz0]; exact laid_any sB 0 (by decide)
  have hD : ∀ (W : World) (b1 b2 b3 : Nat), W.heap[b1]? = some (.cells #[.string ⟨#[97]⟩, .bool false, .string ⟨#[97]⟩, .int .i64 2, .int .i64 420, .string z6, .string ⟨#[]⟩] 49 (0, 0)) → W.heap[b2]? = some (.cells #[.string ⟨#[97]⟩, .bool false, .string ⟨#[97]⟩, .int .i64 2, .int .i64 420, .string z2, .string ⟨#[]⟩, .string ⟨#[98]⟩, .bool false, .string ⟨#[98]⟩, .int .i64 2, .int .i64 420, .string z0, .string ⟨#[]⟩] 49 (0, 0)) →
      W.heap[b3]? = some (.cells #[.slice (some ⟨b1, 0, none⟩) 1 1, .slice (some ⟨b2, 0, none⟩) 2 2] 28 (0, 0)) → DeltasAt W (.slice (some ⟨b3, 0, none⟩) 2 2) wksL := fun W b1 b2 b3 k1 k2 k3 => by
    have i1 : ItemsAt wchgC 7 W (.slice (some ⟨b1, 0, none⟩) 1 1) [mkLaid sA 6] := items_of_block (L := [mkLaid sA 6]) (T := 49) wchgC_len (by rw [k1, hz6]; rfl) (by unfold maxLen; decide)
    have i2 : ItemsAt wchgC 7 W (.slice (some ⟨b2, 0, none⟩) 2 2) [mkLaid sA 2, mkLaid sB 0] := items_of_block (L := [mkLaid sA 2, mkLaid sB 0]) (T := 49) wchgC_len (by rw [k2, hz2, hz0]; rfl) (by unfold maxLen; decide)
    refine lists_of_block (T := 28) (vs := [.slice (some ⟨b1, 0, none⟩) 1 1, .slice (some ⟨b2, 0, none⟩) 2 2]) (LL := wksL) k3 rfl (by unfold maxLen; decide) fun i v L hv hL => ?_
    match i with
    | 0 => injection hv with hv; injection hL with hL; subst hv hL; exact i1
    | 1 => injection hv with hv; injection hL with hL; subst hv hL; exact i2
    | i + 2 => cases hv
  have H1 := Lib.hid h1
  have H2 := Lib.hid h2
  have H3 := Lib.hid h3
  have HD := Lib.hid hD
  clear h1 h2 h3 hD hz6 hz2 hz0
  go_enter Tryz.func7, Tryz.ntmps7
  go_wp2_with fail
  refine (H1.out _).mono ?_
  rintro r w1 ⟨rfl, hb1⟩
  have B1 := Lib.hid hb1
  clear hb1
  go_wp2_with fail
  refine (H2.out _).mono ?_
  rintro r w2 ⟨rfl, hb2⟩
  have n1 := World.alloc_heap_new w1 (.cells #[.string ⟨#[97]⟩, .bool false, .string ⟨#[97]⟩, .int .i64 2, .int .i64 420, .string z6, .string ⟨#[]⟩] 49)
  have B2 := Lib.hid ((B1.out.alloc B1.out.size _).trans (hb2.mono (by have := B1.out.size; simp; omega)))
  have K2 := Lib.hid (cell_grown_B hb2 n1)
  clear hb2 n1
  go_wp2_with fail
  refine (H3.out _).mono ?_
  rintro r w3 ⟨rfl, hb3⟩
  have B3 := Lib.hid (B2.out.trans (hb3.mono B2.out.size))
  have K3 := Lib.hid (cell_grown_B hb3 K2.out)
  clear hb3
  go_wp2_with fail
  obtain ⟨C6, hC6⟩ : ∃ y, y = Obj.cells #[.string ⟨#[97]⟩, .bool false, .string ⟨#[97]⟩, .int .i64 2, .int .i64 420, .string z2, .string ⟨#[]⟩, .string ⟨#[98]⟩, .bool false, .string ⟨#[98]⟩, .int .i64 2, .int .i64 420, .string z0, .string ⟨#[]⟩] 49 := ⟨_, rfl⟩
  obtain ⟨C7, hC7⟩ : ∃ y, y = Obj.cells #[.slice (some ⟨w1.heap.size, 0, none⟩) 1 1, .slice (some ⟨w3.heap.size, 0, none⟩) 2 2] 28 := ⟨_, rfl⟩
  have e1 := ((gheap_old (w3.alloc C6) C7 (by have := heap_lt K3.out; simp; omega)).trans (gheap_old w3 C6 (heap_lt K3.out))).trans K3.out
  have e2 : ((w3.alloc C6).alloc C7).heap[w3.heap.size]? = some C6 := (gheap_old (w3.alloc C6) C7 (by simp)).trans (World.alloc_heap_new _ _)
  have e3 : ((w3.alloc C6).alloc C7).heap[w3.heap.size + 1]? = some C7 := by
    have := World.alloc_heap_new (w3.alloc C6) C7
    rwa [show (w3.alloc C6).heap.size = w3.heap.size + 1 by simp] at this
  have B7 := Lib.hid ((B3.out.alloc B3.out.size C6).alloc (by have := B3.out.size; simp; omega) C7)
  have HD7 := HD.out _ _ _ _ e1 (by rw [e2, hC6]) (by rw [e3, hC7])
  rw [hC6, hC7] at HD7 B7
  clear e1 e2 e3 hC6 hC7
  refine (works_look _ _ HD7).mono ?_
  rintro r w4 ⟨g, c, rfl, hc1, hc2, c0, c1, c2, hb4⟩
  have B8 := Lib.hid (B7.out.trans (hb4.mono B7.out.size))
  clear hb4 HD7 HD
  have o1 : Fl.F.order 4598175219545276416 4598175219545276416 = some .eq := by decide +kernel
  have o2 : Fl.F.order 4616189618054758400 4616189618054758400 = some .eq := by decide +kernel
  have o3 : Fl.F.order 4611686018427387904 4611686018427387904 = some .eq := by decide +kernel
  have hsf := fun (x : Addr) (b : Nat) (m : Mode) (W : World) => run_store Tryz.prog W x (.float .f64 b) m rfl
  have hgl : g < w4.heap.size := World.block_lt_of_cell? w4 ⟨g, 0, none⟩ c0
  go_wp2_with fail
  go_ret
  exact ⟨rfl, B8.out.alloc B8.out.size _⟩
end Go.Proofs.YtfanfkogogijpaaGreatDoor
