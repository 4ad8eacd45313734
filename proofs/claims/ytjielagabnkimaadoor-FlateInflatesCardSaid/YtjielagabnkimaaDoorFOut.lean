/- flate.Inflate's closure put: a byte more, or too many. -/
import Derived.Test.YtjielagabnkimaaDoorFPut
import Derived.Test.YtjielagabnkimaaDoorFSrc
set_option linter.unusedSimpArgs false
set_option linter.unusedVariables false
namespace Go.Proofs.YtjielagabnkimaaDoor
open Go.RowKit
/-- the variable out -/
def OutAt (w : World) (O base : Nat) (out : List UInt8) : Prop := ∃ ov, Boxed w O 39 ov ∧ w.ownsRow base 5 1 ov out.length (out.map encB)
def okOut (O base : Nat) (k : Nat) (o : Obj) : Prop := k ≠ O ∧ (k < base ∨ notRow 5 o)
/-- a byte behind the others: what stands after the append and the store -/
theorem OutAt.push {w w1 : World} {O base : Nat} {out : List UInt8} {tmp : Obj} {v v' : Value} {b : UInt8} (ho : Boxed w O 39 v) (hr : w.ownsRow base 5 1 v out.length (out.map encB))
    (hown : w1.ownsRow base 5 1 v' (out.length + 1) (out.map encB ++ [encB b])) (hg : (w.alloc tmp).grownBy w1 v.ownBlock) :
    Boxed w1 O 39 v ∧ OutAt (w1.setCell ⟨O, 0, none⟩ v') O base (out ++ [b]) ∧ Keeps (okOut O base) w (w1.setCell ⟨O, 0, none⟩ v') := by
  have hra : (w.alloc tmp).ownsRow base 5 1 v out.length (out.map encB) := hr.alloc _
  have h3 : Boxed w1 O 39 v := (ho.alloc tmp).kept hg ((ho.alloc tmp).not_row (by decide) hra)
  refine ⟨h3, ⟨v', h3.set _, ?_⟩, ?_⟩
  · rw [List.length_append, List.map_append]
    exact hown.kept (grownBy_setCell' w1 O v') (.inr (Ne.symm (h3.not_row (by decide) hown)))
  · exact (((Keeps.refl _ w).alloc tmp).grown hg (fun k o _ hb hok => notRow_row (hr.alloc tmp) hb hok.2)).set O v' (fun o h => h.1 rfl)

set_option maxRecDepth 100000 in
set_option maxHeartbeats 2000000 in
theorem fput_full (O M base : Nat) (out : List UInt8) (most b : Int) (w : World) (hO : OutAt w O base out) (hM : Boxed w M 3 (.int .i64 most)) (hf : most ≤ (out.length : Int)) :
    Calls Tryd.prog 34 #[.int .u8 b, .pointer (some ⟨O, 0, none⟩), .pointer (some ⟨M, 0, none⟩)] w fun e w' => e = .panicked (stopC 5) ∧ w = w' := by
  obtain ⟨ov, ho, hr⟩ := hO
  obtain ⟨p, n, c, rfl⟩ := ownsRow_slice hr
  obtain rfl : n = out.length := by
    rcases hr.2 with ⟨h1, h2⟩ | ⟨g, cap, cur, h1, _⟩
    · injection h1 with _ h3 _
      rw [h3, h2]
    · injection h1
  have c1 := ho.cell
  have c2 := hM.cell
  clear ho hr hM
  go_enter Tryd.func34, Tryd.ntmps34
  go_wp2_with fail
  exact ⟨rfl, rfl, rfl⟩

set_option maxRecDepth 100000 in
set_option maxHeartbeats 2000000 in
theorem fput_ok (O M base : Nat) (out : List UInt8) (most : Int) (b : UInt8) (w : World) (hO : OutAt w O base out) (hM : Boxed w M 3 (.int .i64 most)) (hf : (out.length : Int) < most) (hb : base ≤ O + 1) (hl : out.length < 2 ^ 40) :
    Calls Tryd.prog 34 #[.int .u8 (b.toNat : Int), .pointer (some ⟨O, 0, none⟩), .pointer (some ⟨M, 0, none⟩)] w fun e w' => e = .returned (.tuple #[]) ∧ OutAt w' O base (out ++ [b]) ∧ Keeps (okOut O base) w w' := by
  obtain ⟨i0, hi, hz0, hz1, hz2⟩ := info_parts Tryd.info_byte
  obtain ⟨ov, ho, hr⟩ := hO
  obtain ⟨p, n, c, rfl⟩ := ownsRow_slice hr
  obtain rfl : n = out.length := by
    rcases hr.2 with ⟨h1, h2⟩ | ⟨g, cap, cur, h1, _⟩
    · injection h1 with _ h3 _
      rw [h3, h2]
    · injection h1
  have c1 := ho.cell
  have f1 := ho.frozen
  have c2 := hM.cell
  have l1 := ho.lt
  have Ho := Lib.hid ho
  have Hr := Lib.hid hr
  have Hi := Lib.hid hi
  have Hz0 := Lib.hid hz0
  have Hz1 := Lib.hid hz1
  have Hz2 := Lib.hid hz2
  clear hi hz0 hz1 hz2 ho hr hM
  go_enter Tryd.func34, Tryd.ntmps34
  go_wp2_with (at_builtin; refine wpList_append_own_at _ rfl _ _ 39 rfl base 5 i0 (.int .u8 0) 1 1 Tryd.underlying39 Hi.out Hz0.out Hz1.out Hz2.out rfl (by decide) _ _ _ rfl (Hr.out.alloc _) ⟨w.heap.size, 0, none⟩ 1 1 [.int .u8 (b.toNat : Int)] rfl rfl (cell_one_new _ _ _) (by simp [Value.oneCell']) (by unfold maxLen; omega) (by omega) (by simp only [World.size_alloc]; omega) ?_; intro v' w1 hown' hgrow _ _
               obtain ⟨p', m', c', rfl⟩ := ownsRow_slice hown'
               have hq := OutAt.push (b := b) Ho.out Hr.out hown' hgrow
               have g5 := hq.1.cell
               have g6 := hq.1.frozen
               have Hq := Lib.hid hq
               clear hq hown' hgrow)
  go_end0
  exact ⟨rfl, Hq.out.2.1, Hq.out.2.2⟩
end Go.Proofs.YtjielagabnkimaaDoor
