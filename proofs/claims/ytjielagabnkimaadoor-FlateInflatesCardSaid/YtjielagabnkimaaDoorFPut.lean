/- flate.short's closure put: a number of n bits behind the bits that are there. -/
import Derived.Test.YtjielagabnkimaaDoorFLast
import Derived.Test.YtjielagabnkimaaDoorFKeep
import Derived.StillTailTactics
set_option linter.unusedSimpArgs false
set_option linter.unusedVariables false
namespace Go.Proofs.YtjielagabnkimaaDoor
open Go.RowKit

theorem Tryd.info_byte : (Tryd.prog.info? 5).map (fun i => (i.zero, i.size, i.bytes)) = some (some (.int .u8 0), 1, 1) := by kernel_rfl
def encB (b : UInt8) : Value := .int .u8 (b.toNat : Int)
/-- the variables hold, have, out -/
structure PutAt (w : World) (H V O base : Nat) (out : List UInt8) (hold have_ : Nat) : Prop where
  h : Boxed w H 86 (.int .u64 (hold : Int))
  v : Boxed w V 3 (.int .i64 (have_ : Int))
  o : ∃ ov, Boxed w O 39 ov ∧ w.ownsRow base 5 1 ov out.length (out.map encB)
  lt : hold < 2 ^ have_
/-- the bits that are written -/
def Wrote (w : World) (H V O base : Nat) (bits : List Bool) : Prop := ∃ out hold have_, PutAt w H V O base out hold have_ ∧ have_ < 8 ∧ bitsOf out ++ low hold have_ = bits
/-- what put leaves as it was -/
def okPut (H V O base : Nat) (k : Nat) (o : Obj) : Prop := k ≠ H ∧ k ≠ V ∧ k ≠ O ∧ (k < base ∨ notRow 5 o)

theorem PutAt.next {w : World} {H V O base : Nat} {out : List UInt8} {hold hv : Nat} (hp : PutAt w H V O base out hold hv) (hHV : H ≠ V) (hHO : H ≠ O) (hVO : V ≠ O) {hold' hv' : Nat} (hlt : hold' < 2 ^ hv') :
    PutAt ((w.setCell ⟨H, 0, none⟩ (.int .u64 (hold' : Int))).setCell ⟨V, 0, none⟩ (.int .i64 (hv' : Int))) H V O base out hold' hv' := by
  obtain ⟨ov, ho, hr⟩ := hp.o
  refine ⟨(hp.h.set _).other hHV _, (hp.v.other (Ne.symm hHV) _).set _, ⟨ov, (ho.other (Ne.symm hHO) _).other (Ne.symm hVO) _, ?_⟩, hlt⟩
  have h1 := hr.kept (grownBy_setCell' w H (.int .u64 (hold' : Int))) (.inr (Ne.symm (hp.h.not_row (by decide) hr)))
  exact h1.kept (grownBy_setCell' _ V (.int .i64 (hv' : Int))) (.inr (Ne.symm (hp.v.not_row (by decide) hr)))
theorem ownsRow_slice {w : World} {base : Nat} {e : TypeId} {size : Nat} {v : Value} {n : Nat} {xs : List Value} (h : w.ownsRow base e size v n xs) : ∃ p m c, v = .slice p m c := by
  rcases h.2 with ⟨rfl, _⟩ | ⟨g, cap, cur, rfl, _⟩
  · exact ⟨_, _, _, rfl⟩
  · exact ⟨_, _, _, rfl⟩
/-- a byte behind the others: what stands after the append and the store -/
theorem PutAt.push {w w1 : World} {H V O base : Nat} {out : List UInt8} {hold hv : Nat} (hp : PutAt w H V O base out hold hv) (hHO : H ≠ O) (hVO : V ≠ O) {tmp : Obj} {v v' : Value} {b : UInt8}
    (ho : Boxed w O 39 v) (hr : w.ownsRow base 5 1 v out.length (out.map encB)) (hown : w1.ownsRow base 5 1 v' (out.length + 1) (out.map encB ++ [encB b])) (hg : (w.alloc tmp).grownBy w1 v.ownBlock) :
    Boxed w1 H 86 (.int .u64 (hold : Int)) ∧ Boxed w1 V 3 (.int .i64 (hv : Int)) ∧ Boxed w1 O 39 v ∧ PutAt (w1.setCell ⟨O, 0, none⟩ v') H V O base (out ++ [b]) hold hv := by
  have hra : (w.alloc tmp).ownsRow base 5 1 v out.length (out.map encB) := hr.alloc _
  have h1 : Boxed w1 H 86 (.int .u64 (hold : Int)) := (hp.h.alloc tmp).kept hg ((hp.h.alloc tmp).not_row (by decide) hra)
  have h2 : Boxed w1 V 3 (.int .i64 (hv : Int)) := (hp.v.alloc tmp).kept hg ((hp.v.alloc tmp).not_row (by decide) hra)
  have h3 : Boxed w1 O 39 v := (ho.alloc tmp).kept hg ((ho.alloc tmp).not_row (by decide) hra)
  refine ⟨h1, h2, h3, h1.other hHO _, h2.other hVO _, ⟨v', h3.set _, ?_⟩, hp.lt⟩
  rw [List.length_append, List.map_append]
  exact hown.kept (grownBy_setCell' w1 O v') (.inr (Ne.symm (h3.not_row (by decide) hown)))
theorem okPut_H {H V O base : Nat} : ∀ o, ¬ okPut H V O base H o := fun _ h => h.1 rfl
theorem okPut_V {H V O base : Nat} : ∀ o, ¬ okPut H V O base V o := fun _ h => h.2.1 rfl
theorem okPut_O {H V O base : Nat} : ∀ o, ¬ okPut H V O base O o := fun _ h => h.2.2.1 rfl
/-- what the append and the store leave as it was -/
theorem keeps_push {w0 w w1 : World} {H V O base n : Nat} {xs : List Value} {tmp : Obj} {v v' : Value} (hk : Keeps (okPut H V O base) w0 w) (hr : w.ownsRow base 5 1 v n xs) (hg : (w.alloc tmp).grownBy w1 v.ownBlock) :
    Keeps (okPut H V O base) w0 (w1.setCell ⟨O, 0, none⟩ v') :=
  ((hk.alloc tmp).grown hg (fun k o _ hb hok => notRow_row (hr.alloc tmp) hb hok.2.2.2)).set O v' (okPut_O)
/-- what the variable holds, as a number -/
def natAt (w : World) (B : Nat) : Nat := match w.cell? ⟨B, 0, none⟩ with
  | some v => (intOf v).toNat
  | none => 0
theorem natAt_boxed {w : World} {B : Nat} {t : TypeId} {n : Nat} (h : Boxed w B t (.int .i64 (n : Int))) : natAt w B = n := by
  unfold natAt; rw [h.cell]; simp [intOf]

set_option maxRecDepth 100000 in
set_option maxHeartbeats 2000000 in
theorem put_any (x n H V O base : Nat) (bits : List Bool) (w : World) (hHV : H ≠ V) (hHO : H ≠ O) (hVO : V ≠ O) (hb : base ≤ H ∧ base ≤ V ∧ base ≤ O) (hW : Wrote w H V O base bits) (hn : n ≤ 16) (hx : x < 2 ^ n) (hl : bits.length < 2 ^ 40) :
    Calls Tryd.prog 47 #[.int .i64 (x : Int), .int .i64 (n : Int), .pointer (some ⟨H, 0, none⟩), .pointer (some ⟨V, 0, none⟩), .pointer (some ⟨O, 0, none⟩)] w fun e w' =>
      e = .returned (.tuple #[]) ∧ Wrote w' H V O base (bits ++ low x n) ∧ Keeps (okPut H V O base) w w' := by
  obtain ⟨out, hold, hv, hp, h8, rfl⟩ := hW
  have hxn : x < 2 ^ 16 := Nat.lt_of_lt_of_le hx (Nat.pow_le_pow_right (by decide) hn)
  obtain ⟨i0, hi, hz0, hz1, hz2⟩ := info_parts Tryd.info_byte
  have Hi := Lib.hid hi
  have Hz0 := Lib.hid hz0
  have Hz1 := Lib.hid hz1
  have Hz2 := Lib.hid hz2
  clear hi hz0 hz1 hz2
  obtain ⟨total, ht⟩ : ∃ t, t = bitsOf out ++ low hold hv ++ low x n := ⟨_, rfl⟩
  rw [← ht]
  have Ht := Lib.hid ht
  have Hp := Lib.hid hp
  have c1 := hp.h.cell
  have f1 := hp.h.frozen
  have c2 := hp.v.cell
  have f2 := hp.v.frozen
  clear ht hp
  go_enter Tryd.func47, Tryd.ntmps47
  go_wp2_with fail
  go_still_tail 6, (by kernel_rfl)
  change wpList _ _ _ _ _ w.drew
  obtain ⟨w2, hw2⟩ : ∃ y, y = w.drew := ⟨_, rfl⟩
  rw [← hw2]
  have hp2 : PutAt w2 H V O base out hold hv := by subst hw2; exact ⟨Hp.out.h, Hp.out.v, Hp.out.o, Hp.out.lt⟩
  have hk2 : Keeps (okPut H V O base) w w2 := by subst hw2; exact (Keeps.refl _ _).drew
  have Hp2 := Lib.hid hp2
  have Hk2 := Lib.hid hk2
  have d1 := hp2.h.cell
  have e1 := hp2.h.frozen
  have d2 := hp2.v.cell
  have e2 := hp2.v.frozen
  clear hp2 hk2 hw2 c1 c2 f1 f2
  go_wp2_with fail
  have e3 : bits BinOp.or IntKind.u64 (hold : Int) (IntKind.u64.wrap ((x : Int) * 2 ^ hv)) = ((hold + x * 2 ^ hv : Nat) : Int) := by
    have hlt := Hp2.out.lt
    have hpw : 2 ^ hv ≤ 2 ^ 7 := Nat.pow_le_pow_right (by decide) (by omega)
    have hm : x * 2 ^ hv ≤ 2 ^ 16 * 2 ^ 7 := Nat.mul_le_mul (by omega) hpw
    rw [show IntKind.u64.wrap ((x : Int) * 2 ^ hv) = ((x * 2 ^ hv : Nat) : Int) from by rw [IntKind.wrap_u64, Int.natCast_mul, Int.natCast_pow]; simp only [Int.cast_ofNat_Int]; rw [show (x : Int) * 2 ^ hv = ((x * 2 ^ hv : Nat) : Int) from by simp]; omega]
    rw [bits_or_u64_nat _ _ (by omega) (by omega), or_add hlt]
  rw [e3, show IntKind.u64.wrap (x : Int) = (x : Int) from by rw [IntKind.wrap_u64]; omega]
  have hst : PutAt ((w2.setCell ⟨H, 0, none⟩ (.int .u64 ((hold + x * 2 ^ hv : Nat) : Int))).setCell ⟨V, 0, none⟩ (.int .i64 (hv + n : Int))) H V O base out (hold + x * 2 ^ hv) (hv + n) := by
    have hlt := Hp2.out.lt
    refine Hp2.out.next hHV hHO hVO ?_
    rw [Nat.pow_add, Nat.mul_comm (2 ^ hv)]
    calc hold + x * 2 ^ hv < 2 ^ hv + x * 2 ^ hv := by omega
      _ = (x + 1) * 2 ^ hv := by rw [Nat.add_mul]; omega
      _ ≤ 2 ^ n * 2 ^ hv := Nat.mul_le_mul_right _ hx
  have hks : Keeps (okPut H V O base) w ((w2.setCell ⟨H, 0, none⟩ (.int .u64 ((hold + x * 2 ^ hv : Nat) : Int))).setCell ⟨V, 0, none⟩ (.int .i64 (hv + n : Int))) := (Hk2.out.set H _ okPut_H).set V _ okPut_V
  have hts : bitsOf out ++ low (hold + x * 2 ^ hv) (hv + n) = total := by rw [low_join Hp2.out.lt, Ht.out, List.append_assoc]
  have Hst := Lib.hid hst
  have Hks := Lib.hid hks
  have Hts := Lib.hid hts
  clear hst hks hts e3 d1 d2 e1 e2
  go_loopw [17] (fun _ wr => ∃ (out' : List UInt8) (hold' hv' : Nat), PutAt wr H V O base out' hold' hv' ∧ hv' < 64 ∧ bitsOf out' ++ low hold' hv' = total ∧ Keeps (okPut H V O base) w wr) (fun _ wr => natAt wr V)
  case atStart => exact ⟨out, _, _, Hst.out, by omega, Hts.out, Hks.out⟩
  case round =>
    obtain ⟨out', hold', hv', hp', h64, htot, hkr⟩ := hrel
    obtain ⟨ov, ho, hr⟩ := hp'.o
    have hlen : out'.length < 2 ^ 40 := by
      have h1 := congrArg List.length htot
      rw [List.length_append, bitsOf_length] at h1
      have h2 : total.length < 2 ^ 40 + 16 := by rw [Ht.out, List.length_append, low_length]; omega
      omega
    have hna := natAt_boxed hp'.v
    have c1 := hp'.h.cell
    have f1 := hp'.h.frozen
    have c2 := hp'.v.cell
    have f2 := hp'.v.frozen
    have c3 := ho.cell
    have f3 := ho.frozen
    have Hp' := Lib.hid hp'
    have Htot := Lib.hid htot
    have Hkr := Lib.hid hkr
    have Ho := Lib.hid ho
    have Hr := Lib.hid hr
    have Hna := Lib.hid hna
    clear hp' htot hkr ho hr hna
    by_cases h8' : (8 : Int) ≤ (hv' : Int)
    · have hbyte : Value.int .u8 ((hold' : Int) % 256) = encB (UInt8.ofNat (num (low hold' 8))) := by
        unfold encB
        rw [num_low, UInt8.toNat_ofNat']
        congr 1
        omega
      have Hbyte := Lib.hid hbyte
      clear hbyte
      go_wp2_with (at_builtin; refine wpList_append_own_at _ rfl _ _ 39 rfl base 5 i0 (.int .u8 0) 1 1 Tryd.underlying39 Hi.out Hz0.out Hz1.out Hz2.out rfl (by decide) _ _ _ rfl (Hr.out.alloc _) ⟨wr.heap.size, 0, none⟩ 1 1 [.int .u8 ((hold' : Int) % 256)] rfl rfl (cell_one_new _ _ _) (by simp [Value.oneCell']) (by unfold maxLen; omega) (by omega) (by simp; have := Hp'.out.h.lt; omega) ?_; intro v' w1 hown' hgrow _ _; obtain ⟨p', m', c', rfl⟩ := ownsRow_slice hown'; have hq := Hp'.out.push hHO hVO Ho.out Hr.out (by rw [← Hbyte.out]; exact hown') hgrow; have hkp := keeps_push (v' := .slice p' m' c') Hkr.out Hr.out hgrow; have g1 := hq.1.cell; have g2 := hq.1.frozen; have g3 := hq.2.1.cell; have g4 := hq.2.1.frozen; have g5 := hq.2.2.1.cell; have g6 := hq.2.2.1.frozen; have Hq := Lib.hid hq; have Hkp := Lib.hid hkp; clear hq hkp hown' hgrow)
      have hdl : hold' / 256 < 2 ^ (hv' - 8) := by
        have h1 := Hp'.out.lt
        rw [show hv' = (hv' - 8) + 8 by omega, Nat.pow_add] at h1
        exact Nat.div_lt_of_lt_mul (by rw [Nat.mul_comm]; exact h1)
      have hnx := Hq.out.2.2.2.next hHV hHO hVO hdl
      rw [show ((hold' / 256 : Nat) : Int) = (hold' : Int) / 256 from by simp, show ((hv' - 8 : Nat) : Int) = (hv' : Int) - 8 from by omega] at hnx
      go_roundw
      case rel =>
        refine ⟨_, hold' / 256, hv' - 8, hnx, by omega, ?_, (Hkp.out.set H _ okPut_H).set V _ okPut_V⟩
        rw [← Htot.out, bitsOf_append, bitsOf_cons, byteBits_ofNat _ (low_length _ _), List.append_assoc]
        congr 1
        rw [show hv' = 8 + (hv' - 8) by omega, low_add, show 8 + (hv' - 8) - 8 = hv' - 8 by omega]
        simp [bitsOf]
      case measure =>
        have h1 := hnx.v
        rw [show (hv' : Int) - 8 = ((hv' - 8 : Nat) : Int) from by omega] at h1 ⊢
        rw [natAt_boxed h1, Hna.out]
        omega
    · have h9 : hv' < 8 := by omega
      go_wp2_with fail
      go_end0
      exact ⟨rfl, ⟨out', hold', hv', Hp'.out, h9, Htot.out⟩, Hkr.out⟩
end Go.Proofs.YtjielagabnkimaaDoor
