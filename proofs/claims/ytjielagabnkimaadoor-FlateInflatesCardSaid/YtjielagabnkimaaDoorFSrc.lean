/- flate's source of bits: bits(n) of whatever bits are left. -/
import Derived.Test.YtjielagabnkimaaDoorFSmall
import Derived.Test.YtjielagabnkimaaDoorFKeep
import Derived.StillTailTactics
import Derived.Laws.EntriesVeiled
set_option linter.unusedSimpArgs false
set_option linter.unusedVariables false
namespace Go.Proofs.YtjielagabnkimaaDoor
open Go.RowKit
/-- what is given up with -/
def stopV (n : Int) : Value := .iface 57 (.agg #[.int .i64 n])
def stopC (n : Int) : List PanicEntry := [{ v := stopV n, recovered := false }]
/-- the source, just so -/
structure SrcIn (w : World) (R : Nat) (s : ByteArray) (at_ hold have_ : Nat) (r : List Bool) : Prop where
  o : w.heap[R]? = some (.cells #[.string s, .int .i64 (at_ : Int), .int .i64 (hold : Int), .int .i64 (have_ : Int)] 60 (0, 0))
  le : at_ ≤ s.size
  lt : hold < 2 ^ have_
  r : r = low hold have_ ++ bitsOf (s.data.toList.drop at_)
/-- the source holds these bits -/
def SrcAt (w : World) (R : Nat) (s : ByteArray) (r : List Bool) : Prop := ∃ at_ hold have_, SrcIn w R s at_ hold have_ r ∧ have_ < 8
def notAt (R : Nat) (k : Nat) (o : Obj) : Prop := k ≠ R
theorem SrcIn.cells {w : World} {R : Nat} {s : ByteArray} {a h v : Nat} {r : List Bool} (hs : SrcIn w R s a h v r) :
    w.cell? ⟨R, 0, none⟩ = some (.string s) ∧ w.cell? ⟨R, 1, none⟩ = some (.int .i64 (a : Int)) ∧ w.cell? ⟨R, 2, none⟩ = some (.int .i64 (h : Int)) ∧ w.cell? ⟨R, 3, none⟩ = some (.int .i64 (v : Int)) ∧
      w.frozen? ⟨R, 1, none⟩ = false ∧ w.frozen? ⟨R, 2, none⟩ = false ∧ w.frozen? ⟨R, 3, none⟩ = false := by
  have ho := hs.o
  refine ⟨?_, ?_, ?_, ?_, frozen_of_row _ _ _ _ _ ho, frozen_of_row _ _ _ _ _ ho, frozen_of_row _ _ _ _ _ ho⟩ <;> rw [cell_of_row _ _ _ _ _ _ ho] <;> rfl
theorem SrcIn.drew {w : World} {R : Nat} {s : ByteArray} {a h v : Nat} {r : List Bool} (hs : SrcIn w R s a h v r) : SrcIn w.drew R s a h v r := ⟨hs.o, hs.le, hs.lt, hs.r⟩
theorem SrcIn.drewN {w : World} {R : Nat} {s : ByteArray} {a h v : Nat} {r : List Bool} (hs : SrcIn w R s a h v r) (n : Nat) : SrcIn (w.drewN n) R s a h v r := ⟨hs.o, hs.le, hs.lt, hs.r⟩
theorem SrcAt.drewN {w : World} {R : Nat} {s : ByteArray} {r : List Bool} (hs : SrcAt w R s r) (n : Nat) : SrcAt (w.drewN n) R s r := let ⟨a, h, v, x, y⟩ := hs; ⟨a, h, v, x.drewN n, y⟩
theorem SrcAt.drew {w : World} {R : Nat} {s : ByteArray} {r : List Bool} (hs : SrcAt w R s r) : SrcAt w.drew R s r := let ⟨a, h, v, x, y⟩ := hs; ⟨a, h, v, x.drew, y⟩
theorem SrcAt.keeps {ok : Nat → Obj → Prop} {w w' : World} {R : Nat} {s : ByteArray} {r : List Bool} (hs : SrcAt w R s r) (hk : Keeps ok w w') (hok : ∀ cs, ok R (.cells cs 60 (0, 0))) : SrcAt w' R s r :=
  let ⟨a, h, v, x, y⟩ := hs; ⟨a, h, v, ⟨hk.block _ _ x.o (hok _), x.le, x.lt, x.r⟩, y⟩
theorem mask_eq (h P : Nat) (h1 : 1 ≤ P) (h2 : P ≤ 65536) (hh : h < 16777216) : bits BinOp.and IntKind.i64 (h : Int) (wrap64 (wrap64 (P : Int) - 1)) = ((h &&& (P - 1) : Nat) : Int) := by
  have e1 : wrap64 (P : Int) = (P : Int) := by unfold wrap64; omega
  have e2 : wrap64 ((P : Int) - 1) = ((P - 1 : Nat) : Int) := by unfold wrap64; omega
  rw [e1, e2]
  exact i64_and_nat _ _ (by omega) (by omega)
/-- all three numbers laid anew -/
theorem SrcIn.set3 {w : World} {R : Nat} {s : ByteArray} {a h v : Nat} {r : List Bool} (hs : SrcIn w R s a h v r) (a' h' v' : Int) :
    (((w.setCell ⟨R, 2, none⟩ (.int .i64 h')).setCell ⟨R, 1, none⟩ (.int .i64 a')).setCell ⟨R, 3, none⟩ (.int .i64 v')).heap[R]? = some (.cells #[.string s, .int .i64 a', .int .i64 h', .int .i64 v'] 60 (0, 0)) := by
  have h1 := heap_setCell_same w R 2 _ _ (.int .i64 h') hs.o
  have h2 := heap_setCell_same _ R 1 _ _ (.int .i64 a') h1
  have h3 := heap_setCell_same _ R 3 _ _ (.int .i64 v') h2
  rw [h3]; rfl
theorem SrcIn.set2 {w : World} {R : Nat} {s : ByteArray} {a h v : Nat} {r : List Bool} (hs : SrcIn w R s a h v r) (h' v' : Int) :
    ((w.setCell ⟨R, 2, none⟩ (.int .i64 h')).setCell ⟨R, 3, none⟩ (.int .i64 v')).heap[R]? = some (.cells #[.string s, .int .i64 (a : Int), .int .i64 h', .int .i64 v'] 60 (0, 0)) := by
  have h1 := heap_setCell_same w R 2 _ _ (.int .i64 h') hs.o
  have h3 := heap_setCell_same _ R 3 _ _ (.int .i64 v') h1
  rw [h3]; rfl
theorem Keeps.setAt {a b : World} {R : Nat} (h : Keeps (notAt R) a b) (i : Nat) (v : Value) : Keeps (notAt R) a (b.setCell ⟨R, i, none⟩ v) :=
  h.grown (row := some R) ⟨rfl, rfl, rfl, by simp [World.setCell], fun k _ hk => heap_setCell_other b ⟨R, i, none⟩ k v (fun e => hk (by rw [e]))⟩ (fun k o _ _ hok e => by cases e; exact hok rfl)

set_option maxRecDepth 100000 in
set_option maxHeartbeats 8000000 in
theorem bits_any (R : Nat) (s : ByteArray) (r : List Bool) (n : Nat) (w : World) (hS : SrcAt w R s r) (hn : n ≤ 16) (hs : s.size < 2 ^ 40) :
    Calls Tryd.prog 35 #[.pointer (some ⟨R, 0, none⟩), .int .i64 (n : Int)] w fun e w' =>
      (n ≤ r.length ∧ e = .returned (.int .i64 ((num (r.take n) : Nat) : Int)) ∧ SrcAt w' R s (r.drop n) ∧ Keeps (notAt R) w w') ∨ (r.length < n ∧ e = .panicked (stopC 2) ∧ Keeps (notAt R) w w') := by
  obtain ⟨a0, h0, v0, hS0, hv0⟩ := hS
  have HS0 := Lib.hid hS0
  clear hS0
  go_enter Tryd.func35, Tryd.ntmps35
  go_wp2_with fail
  go_loopw [11] (fun _ wr => ∃ a h v : Nat, SrcIn wr R s a h v r ∧ v < n + 8 ∧ Keeps (notAt R) w wr) (fun _ wr => n - (match wr.cell? ⟨R, 3, none⟩ with | some x => (intOf x).toNat | none => 0))
  case atStart => exact ⟨a0, h0, v0, HS0.out, by omega, Keeps.refl _ _⟩
  case round =>
    obtain ⟨a, h, v, hin, hv, hk⟩ := hrel
    obtain ⟨c0, c1, c2, c3, z1, z2, z3⟩ := hin.cells
    have Hin := Lib.hid hin
    have Hk := Lib.hid hk
    clear hin hk
    by_cases hvn : (v : Int) < (n : Int)
    · by_cases hend : a = s.size
      · have hb : ((a : Int) == (s.size : Int)) = true := by simp [hend]
        have Hend := Lib.hid hend
        clear hend
        go_wp2_with fail
        go_quiet (fail)
        go_wp2_with fail
        refine ⟨rfl, .inr ⟨?_, rfl, Hk.out.drewN _⟩⟩
        have hr := Hin.out.r
        rw [Hend.out, show s.data.toList.drop s.size = [] from List.drop_of_length_le (Nat.le_refl _)] at hr
        rw [hr]
        simp [bitsOf, low_length]
        omega
      · have hle := Hin.out.le
        have hlt : a < s.size := by omega
        have hb : ((a : Int) == (s.size : Int)) = false := by simp; omega
        have hb8 := (s[a]'hlt).toNat_lt
        go_wp2_with fail
        go_quiet (fail)
        have hin1 := Hin.out.drewN nq
        have hk1 := Hk.out.drewN nq
        generalize wr.drewN nq = w1 at *
        clear c0 c1 c2 c3 z1 z2 z3
        obtain ⟨c0, c1, c2, c3, z1, z2, z3⟩ := hin1.cells
        have Hin1 := Lib.hid hin1
        have Hk1 := Lib.hid hk1
        clear hin1 hk1
        go_wp2_with fail
        go_still_tail 22, (by kernel_rfl)
        change wpList _ _ _ _ _ w1.drew
        have hin2 := Hin1.out.drew
        have hk2 := Hk1.out.drew
        generalize w1.drew = w2 at *
        clear c0 c1 c2 c3 z1 z2 z3
        obtain ⟨c0, c1, c2, c3, z1, z2, z3⟩ := hin2.cells
        have Hin2 := Lib.hid hin2
        have Hk2 := Lib.hid hk2
        clear hin2 hk2
        go_wp2_with fail
        have hpw : 2 ^ v ≤ 2 ^ 15 := Nat.pow_le_pow_right (by decide) (by omega)
        have hlth := Hin2.out.lt
        have e1 : bits BinOp.or IntKind.i64 (h : Int) (wrap64 (((s[a]'hlt).toNat : Int) * 2 ^ v)) = ((h + (s[a]'hlt).toNat * 2 ^ v : Nat) : Int) := by
          have hm : (s[a]'hlt).toNat * 2 ^ v ≤ 255 * 2 ^ 15 := Nat.mul_le_mul (by omega) hpw
          rw [show ((s[a]'hlt).toNat : Int) * 2 ^ v = (((s[a]'hlt).toNat * 2 ^ v : Nat) : Int) from by simp, show wrap64 (((s[a]'hlt).toNat * 2 ^ v : Nat) : Int) = (((s[a]'hlt).toNat * 2 ^ v : Nat) : Int) from by unfold wrap64; omega]
          rw [i64_or_nat _ _ (by omega) (by omega), or_add hlth]
        rw [e1]
        go_roundw
        case rel =>
          refine ⟨a + 1, h + (s[a]'hlt).toNat * 2 ^ v, v + 8, ⟨?_, by omega, ?_, ?_⟩, by omega, ((Hk2.out.setAt 2 _).setAt 1 _).setAt 3 _⟩
          · have := Hin2.out.set3 ((a : Int) + 1) ((h + (s[a]'hlt).toNat * 2 ^ v : Nat) : Int) ((v : Int) + 8)
            rw [this]
            rfl
          · rw [Nat.pow_add, Nat.mul_comm (2 ^ v)]
            have : (s[a]'hlt).toNat * 2 ^ v ≤ 255 * 2 ^ v := Nat.mul_le_mul_right _ (by omega)
            omega
          · rw [low_join hlth, Hin2.out.r, drop_cons (show a < s.data.toList.length from hlt), bitsOf_cons, List.append_assoc]
            rfl
        case measure =>
          have h3 := cell_of_row _ R 3 _ _ _ (Hin2.out.set3 ((a : Int) + 1) ((h + (s[a]'hlt).toNat * 2 ^ v : Nat) : Int) ((v : Int) + 8))
          rw [h3]
          have c3' := Hin.out.cells.2.2.2.1
          rw [c3']
          show n - ((v : Int) + 8).toNat < n - ((v : Int)).toNat
          omega
    · have hnv : n ≤ v := by omega
      have hlth := Hin.out.lt
      have hr := Hin.out.r
      have hpn : 2 ^ n ≤ 2 ^ 16 := Nat.pow_le_pow_right (by decide) (by omega)
      have hpv : 2 ^ v ≤ 2 ^ 24 := Nat.pow_le_pow_right (by decide) (by omega)
      have hpn1 : 1 ≤ 2 ^ n := Nat.one_le_two_pow
      have Hr := Lib.hid hr
      clear hr
      go_wp2_with fail
      go_quiet (fail)
      have hin1 := Hin.out.drewN nq
      have hk1 := Hk.out.drewN nq
      generalize wr.drewN nq = w1 at *
      clear c0 c1 c2 c3 z1 z2 z3
      obtain ⟨c0, c1, c2, c3, z1, z2, z3⟩ := hin1.cells
      have Hin1 := Lib.hid hin1
      have Hk1 := Lib.hid hk1
      clear hin1 hk1
      go_wp2_with fail
      go_ret
      have e1 : h / 2 ^ n < 2 ^ (v - n) := Nat.div_lt_of_lt_mul (by rw [← Nat.pow_add, show n + (v - n) = v by omega]; exact hlth)
      have e2 : r = low h n ++ (low (h / 2 ^ n) (v - n) ++ bitsOf (s.data.toList.drop a)) := by
        rw [Hr.out, ← List.append_assoc, ← low_add, show n + (v - n) = v by omega]
      refine .inl ⟨by rw [e2, List.length_append, low_length]; omega, ret_num ?_, ⟨a, h / 2 ^ n, v - n, ⟨?_, Hin1.out.le, e1, ?_⟩, by omega⟩, (Hk1.out.setAt 2 _).setAt 3 _⟩
      · rw [e2, List.take_left' (low_length n h), num_low, ← Nat.and_two_pow_sub_one_eq_mod]
        have hh : h < 16777216 := Nat.lt_of_lt_of_le hlth hpv
        rw [show (2 : Int) ^ n = ((2 ^ n : Nat) : Int) from by simp]
        exact mask_eq h (2 ^ n) hpn1 hpn hh
      · have := Hin1.out.set2 ((h : Int) / 2 ^ n) ((v : Int) - (n : Int))
        rw [this, show ((h / 2 ^ n : Nat) : Int) = (h : Int) / 2 ^ n from by simp, show ((v - n : Nat) : Int) = (v : Int) - (n : Int) from by omega]
      · rw [e2, List.drop_left' (low_length n h)]
end Go.Proofs.YtjielagabnkimaaDoor
