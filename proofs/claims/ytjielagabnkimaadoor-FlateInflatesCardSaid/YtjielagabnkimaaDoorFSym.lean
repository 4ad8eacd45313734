/- flate.short's closure symbol: the bits of a symbol of the fixed code. Printed by gsym.py. -/
import Derived.Test.YtjielagabnkimaaDoorFPut
set_option linter.unusedSimpArgs false
set_option linter.unusedVariables false
namespace Go.Proofs.YtjielagabnkimaaDoor
open Go.RowKit
theorem flop {P : Program} {f : FuncId} {args : Array Value} {w : World} {x : Ending} (h : Calls P f args w fun e w' => e = x ∧ w = w') : Calls P f args w fun e w' => e = x ∧ w' = w :=
  h.mono fun _ _ ⟨a, b⟩ => ⟨a, b.symm⟩
/-- the closure put -/
def putV (H V O : Nat) : Value := .func (.func 47) #[] #[.pointer (some ⟨H, 0, none⟩), .pointer (some ⟨V, 0, none⟩), .pointer (some ⟨O, 0, none⟩)]
theorem Wrote.drew {w : World} {H V O base : Nat} {bits : List Bool} (h : Wrote w H V O base bits) : Wrote w.drew H V O base bits := by
  obtain ⟨out, hold, hv, hp, h8, e⟩ := h
  exact ⟨out, hold, hv, ⟨hp.h, hp.v, hp.o, hp.lt⟩, h8, e⟩

set_option maxRecDepth 100000 in
set_option maxHeartbeats 4000000 in
theorem symbol_any (x H V O P base : Nat) (bits : List Bool) (w : World) (hHV : H ≠ V) (hHO : H ≠ O) (hVO : V ≠ O) (hb : base ≤ H ∧ base ≤ V ∧ base ≤ O) (hW : Wrote w H V O base bits) (hP : Boxed w P 87 (putV H V O)) (hx : x < 288) (hl : bits.length < 2 ^ 40) :
    Calls Tryd.prog 48 #[.int .i64 (x : Int), .pointer (some ⟨P, 0, none⟩)] w fun e w' =>
      e = .returned (.tuple #[]) ∧ Wrote w' H V O base (bits ++ litBits x) ∧ Keeps (okPut H V O base) w w' := by
  unfold putV at hP
  have c1 := hP.cell
  have HP := Lib.hid hP
  have HW := Lib.hid hW
  clear hW hP
  by_cases h1 : (x : Int) < 144
  · have ht : Calls Tryd.prog 49 #[.int .i64 (IntKind.i64.wrap (48 + (x : Int))), .int .i64 8] w.drew fun e w' => e = .returned (.int .i64 ((turnN 0 (48 + x) 8 : Nat) : Int)) ∧ w' = w.drew := by
      rw [show IntKind.i64.wrap (48 + (x : Int)) = ((48 + x : Nat) : Int) from by simp only [IntKind.wrap_i64]; omega]
      exact flop (turned_any (48 + x) 8 w.drew (by decide) (by omega))
    have hlit : litBits x = high (48 + x) 8 := by unfold litBits; rw [if_pos (by omega)]
    have Ht := Lib.hid ht
    have Hlit := Lib.hid hlit
    clear ht hlit
    go_enter Tryd.func48, Tryd.ntmps48
    go_wp2_with fail
    go_still_tail 4, (by kernel_rfl)
    still_call Ht.out
    refine wpStill_nil ?_
    change wpList _ _ _ _ _ w.drew
    obtain ⟨w2, hw2⟩ : ∃ y, y = w.drew := ⟨_, rfl⟩
    rw [← hw2]
    have hp := put_any (turnN 0 (48 + x) 8) 8 H V O base bits w2 hHV hHO hVO hb (by rw [hw2]; exact HW.out.drew) (by decide) (low_turnN 8 (48 + x)).1 hl
    have hk2 : Keeps (okPut H V O base) w w2 := by subst hw2; exact (Keeps.refl _ _).drew
    have Hp := Lib.hid hp
    have Hk2 := Lib.hid hk2
    clear hp hk2 hw2
    go_wp2_with (go_at_call 47; refine (Hp.out).mono ?_; rintro e w3 ⟨rfl, hW3, hk3⟩)
    go_end0
    exact ⟨rfl, by rw [Hlit.out, ← (low_turnN 8 (48 + x)).2]; exact hW3, Hk2.out.trans hk3⟩
  · by_cases h2 : (x : Int) < 256
    · have ht : Calls Tryd.prog 49 #[.int .i64 (IntKind.i64.wrap (IntKind.i64.wrap (400 + (x : Int)) - 144)), .int .i64 9] w.drew fun e w' => e = .returned (.int .i64 ((turnN 0 (400 + (x - 144)) 9 : Nat) : Int)) ∧ w' = w.drew := by
        rw [show IntKind.i64.wrap (IntKind.i64.wrap (400 + (x : Int)) - 144) = ((400 + (x - 144) : Nat) : Int) from by simp only [IntKind.wrap_i64]; omega]
        exact flop (turned_any (400 + (x - 144)) 9 w.drew (by decide) (by omega))
      have hlit : litBits x = high (400 + (x - 144)) 9 := by unfold litBits; rw [if_neg (by omega), if_pos (by omega)]
      have Ht := Lib.hid ht
      have Hlit := Lib.hid hlit
      clear ht hlit
      go_enter Tryd.func48, Tryd.ntmps48
      go_wp2_with fail
      go_still_tail 5, (by kernel_rfl)
      still_call Ht.out
      refine wpStill_nil ?_
      change wpList _ _ _ _ _ w.drew
      obtain ⟨w2, hw2⟩ : ∃ y, y = w.drew := ⟨_, rfl⟩
      rw [← hw2]
      have hp := put_any (turnN 0 (400 + (x - 144)) 9) 9 H V O base bits w2 hHV hHO hVO hb (by rw [hw2]; exact HW.out.drew) (by decide) (low_turnN 9 (400 + (x - 144))).1 hl
      have hk2 : Keeps (okPut H V O base) w w2 := by subst hw2; exact (Keeps.refl _ _).drew
      have Hp := Lib.hid hp
      have Hk2 := Lib.hid hk2
      clear hp hk2 hw2
      go_wp2_with (go_at_call 47; refine (Hp.out).mono ?_; rintro e w3 ⟨rfl, hW3, hk3⟩)
      go_end0
      exact ⟨rfl, by rw [Hlit.out, ← (low_turnN 9 (400 + (x - 144))).2]; exact hW3, Hk2.out.trans hk3⟩
    · by_cases h3 : (x : Int) < 280
      · have ht : Calls Tryd.prog 49 #[.int .i64 (IntKind.i64.wrap ((x : Int) - 256)), .int .i64 7] w.drew fun e w' => e = .returned (.int .i64 ((turnN 0 (x - 256) 7 : Nat) : Int)) ∧ w' = w.drew := by
          rw [show IntKind.i64.wrap ((x : Int) - 256) = ((x - 256 : Nat) : Int) from by simp only [IntKind.wrap_i64]; omega]
          exact flop (turned_any (x - 256) 7 w.drew (by decide) (by omega))
        have hlit : litBits x = high (x - 256) 7 := by unfold litBits; rw [if_neg (by omega), if_neg (by omega), if_pos (by omega)]
        have Ht := Lib.hid ht
        have Hlit := Lib.hid hlit
        clear ht hlit
        go_enter Tryd.func48, Tryd.ntmps48
        go_wp2_with fail
        go_still_tail 4, (by kernel_rfl)
        still_call Ht.out
        refine wpStill_nil ?_
        change wpList _ _ _ _ _ w.drew
        obtain ⟨w2, hw2⟩ : ∃ y, y = w.drew := ⟨_, rfl⟩
        rw [← hw2]
        have hp := put_any (turnN 0 (x - 256) 7) 7 H V O base bits w2 hHV hHO hVO hb (by rw [hw2]; exact HW.out.drew) (by decide) (low_turnN 7 (x - 256)).1 hl
        have hk2 : Keeps (okPut H V O base) w w2 := by subst hw2; exact (Keeps.refl _ _).drew
        have Hp := Lib.hid hp
        have Hk2 := Lib.hid hk2
        clear hp hk2 hw2
        go_wp2_with (go_at_call 47; refine (Hp.out).mono ?_; rintro e w3 ⟨rfl, hW3, hk3⟩)
        go_end0
        exact ⟨rfl, by rw [Hlit.out, ← (low_turnN 7 (x - 256)).2]; exact hW3, Hk2.out.trans hk3⟩
      · have ht : Calls Tryd.prog 49 #[.int .i64 (IntKind.i64.wrap (IntKind.i64.wrap (192 + (x : Int)) - 280)), .int .i64 8] w.drew fun e w' => e = .returned (.int .i64 ((turnN 0 (192 + (x - 280)) 8 : Nat) : Int)) ∧ w' = w.drew := by
          rw [show IntKind.i64.wrap (IntKind.i64.wrap (192 + (x : Int)) - 280) = ((192 + (x - 280) : Nat) : Int) from by simp only [IntKind.wrap_i64]; omega]
          exact flop (turned_any (192 + (x - 280)) 8 w.drew (by decide) (by omega))
        have hlit : litBits x = high (192 + (x - 280)) 8 := by unfold litBits; rw [if_neg (by omega), if_neg (by omega), if_neg (by omega)]
        have Ht := Lib.hid ht
        have Hlit := Lib.hid hlit
        clear ht hlit
        go_enter Tryd.func48, Tryd.ntmps48
        go_wp2_with fail
        go_still_tail 5, (by kernel_rfl)
        still_call Ht.out
        refine wpStill_nil ?_
        change wpList _ _ _ _ _ w.drew
        obtain ⟨w2, hw2⟩ : ∃ y, y = w.drew := ⟨_, rfl⟩
        rw [← hw2]
        have hp := put_any (turnN 0 (192 + (x - 280)) 8) 8 H V O base bits w2 hHV hHO hVO hb (by rw [hw2]; exact HW.out.drew) (by decide) (low_turnN 8 (192 + (x - 280))).1 hl
        have hk2 : Keeps (okPut H V O base) w w2 := by subst hw2; exact (Keeps.refl _ _).drew
        have Hp := Lib.hid hp
        have Hk2 := Lib.hid hk2
        clear hp hk2 hw2
        go_wp2_with (go_at_call 47; refine (Hp.out).mono ?_; rintro e w3 ⟨rfl, hW3, hk3⟩)
        go_end0
        exact ⟨rfl, by rw [Hlit.out, ← (low_turnN 8 (192 + (x - 280))).2]; exact hW3, Hk2.out.trans hk3⟩
end Go.Proofs.YtjielagabnkimaaDoor
