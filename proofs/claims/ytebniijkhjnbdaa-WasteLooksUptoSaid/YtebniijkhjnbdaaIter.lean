/- The contracts of strings.Cut at a slash, and of the iterators path.all and path.Pieces. -/
import Derived.Test.YtebniijkhjnbdaaSmall
import Derived.Test.YtebniijkhjnbdaaRange
import Derived.Shelf.Abstract
import Derived.Shelf.RegionOpen
import Derived.OwnWalkIn
import Derived.TacticsInMore
import Derived.LoopNIn
import Derived.LoopIn
import Derived.Outline
set_option linter.unusedSimpArgs false
set_option linter.unusedVariables false
namespace Go.Proofs.Ytebniijkhjnbdaa
open Go.RowKit Go.Shelf
open Go.Lib hiding intOf
attribute [local go_sem] Oper.semAt_some

theorem ret_cut {a b c d : ByteArray} {x y : Bool} (h : a = b) (k : c = d) (e : x = y) : Ending.returned (.tuple #[.string a, .string c, .bool x]) = .returned (.tuple #[.string b, .string d, .bool y]) := by rw [h, k, e]
set_option maxHeartbeats 1000000 in
theorem slcut_any (s : ByteArray) (w : World) (hs : s.size < 4611686018427387904) :
    Calls Try.prog 47 #[.string s, .string ⟨#[47]⟩] w fun e w' => e = .returned (.tuple #[.string (bs (cutP s.data.toList).1), .string (bs (cutP s.data.toList).2.1), .bool (cutP s.data.toList).2.2]) ∧ Same w w' := by
  have hc := fun W => flip (Try.stringslite_Index_one s 47 W)
  have hge := indexByte_ge s.data.toList 47
  rcases Int.lt_or_le (indexByte s.data.toList 47) 0 with hlt | hle
  · have hm : indexByte s.data.toList 47 = -1 := by omega
    have hf := cutP_none hm
    rw [hm] at hc
    have Hc := Lib.hid hc
    have Hf := Lib.hid hf
    clear hc hge hlt hm hf
    go_enter Try.func47, Try.ntmps47
    go_wp2_with (go_at_call 63; refine (Hc.out _).mono ?_; rintro e w' ⟨rfl, rfl⟩)
    go_ret3
    exact ⟨by rw [Hf.out]; exact ret_cut (bs_of _).symm rfl rfl, Same.refl _⟩
  · obtain ⟨i, hi⟩ := Int.eq_ofNat_of_zero_le hle
    have hf := cutP_some hi
    have hlen : i < s.size := by
      rw [size_eq]
      exact (List.getElem?_eq_some_iff.1 (indexByte_some (o := i) hi).1).1
    rw [hi] at hc
    have Hc := Lib.hid hc
    have Hf := Lib.hid hf
    clear hc hge hle hi hf
    go_enter Try.func47, Try.ntmps47
    go_wp2_with (go_at_call 63; refine (Hc.out _).mono ?_; rintro e w' ⟨rfl, rfl⟩)
    go_quiet (fail)
    go_wp2
    go_ret3
    exact ⟨by rw [Hf.out]; exact ret_cut (extract_head _ _) (extract_tail _ _) rfl, _, rfl⟩
set_option maxHeartbeats 1000000 in
theorem cut_any (s : ByteArray) (w : World) (hs : s.size < 4611686018427387904) :
    Calls Try.prog 35 #[.string s, .string ⟨#[47]⟩] w fun e w' => e = .returned (.tuple #[.string (bs (cutP s.data.toList).1), .string (bs (cutP s.data.toList).2.1), .bool (cutP s.data.toList).2.2]) ∧ Same w w' := by
  have hc := slcut_any s w hs
  have Hc := Lib.hid hc
  clear hc
  go_enter Try.func35, Try.ntmps35
  go_wp2_with (go_at_call 47; refine (Hc.out).mono ?_; rintro e w' ⟨rfl, hs'⟩)
  go_ret3
  exact ⟨rfl, hs'⟩

theorem grown_drewN (W : World) (n : Nat) (row : Option Nat) : W.grownBy (W.drewN n) row := ⟨rfl, rfl, rfl, Nat.le_refl _, fun _ _ _ => rfl⟩
theorem own_same {β : Type} {B : Nat} {J : β → World → Prop} (h : OwnFrom B J) {s : β} {W W' : World} (hs : J s W) (hw : Same W W') : J s W' := by
  obtain ⟨n, rfl⟩ := hw
  exact h s W _ none hs (grown_drewN W n none) (fun r e => by cases e)
/-- how many rounds are still to come at the most -/
def cutLeft : Value → Value → Nat
  | .string s, .bool true => s.size + 1
  | _, _ => 0

def ne (l : List (List UInt8)) : List (List UInt8) := l.filter (fun p => !p.isEmpty)
theorem ne_nil : ne [] = [] := rfl
theorem ne_snoc_e (pre : List (List UInt8)) : ne (pre ++ [[]]) = ne pre := by simp [ne]
theorem ne_snoc (pre : List (List UInt8)) {x : List UInt8} (h : x ≠ []) : ne (pre ++ [x]) = ne pre ++ [x] := by cases x <;> simp_all [ne]
theorem ne_mid (pre rest : List (List UInt8)) {x : List UInt8} (h : x ≠ []) : ne (pre ++ x :: rest) = ne pre ++ x :: ne rest := by cases x <;> simp_all [ne]
theorem pieces_ne (l : List UInt8) : pieces l = ne (pcs l) := rfl

end Go.Proofs.Ytebniijkhjnbdaa
