/- The contracts of path.Join, Parent, Last, Below and of their twins in the reference; of Begins. -/
import Derived.Test.YtfanfkogogijpaaGreatDoorShelf
import Derived.Test.YtfanfkogogijpaaGreatDoorKit
import Derived.Test.YtfanfkogogijpaaGreatDoorPlain
import Derived.Test.YtfanfkogogijpaaGreatDoorSpec
import Derived.Outline
set_option linter.unusedSimpArgs false
set_option linter.unusedVariables false
namespace Go.Proofs.YtfanfkogogijpaaGreatDoor
open Go.RowKit
open Go.Lib hiding intOf

theorem ret_str {a b : ByteArray} (h : a = b) : Ending.returned (.string a) = .returned (.string b) := by rw [h]
theorem ret_bool {a b : Bool} (h : a = b) : Ending.returned (.bool a) = .returned (.bool b) := by rw [h]
theorem ret_int {k : IntKind} {a b : Int} (h : a = b) : Ending.returned (.int k a) = .returned (.int k b) := by rw [h]
theorem ret_two {a b c d : ByteArray} {v : Value} (h : a = b) (k : c = d) : Ending.returned (.tuple #[.string a, .string c, v]) = .returned (.tuple #[.string b, .string d, v]) := by rw [h, k]
theorem emptyB_t {a : ByteArray} (h : a.data.toList = []) : a.toList.isEmpty = true := by rw [toList_data, h]; rfl
theorem emptyB_f {a : ByteArray} (h : a.data.toList ≠ []) : a.toList.isEmpty = false := by rw [toList_data]; cases ha : a.data.toList <;> simp_all

set_option maxHeartbeats 1000000 in
theorem join_any (a b : ByteArray) (w : World) (hab : a.size + b.size ≤ 4611686018427387904) :
    Calls Tryz.prog 62 #[.string a, .string b] w fun e w' => e = .returned (.string (bs (joinP a.data.toList b.data.toList))) ∧ w = w' := by
  by_cases h : a.data.toList = []
  · have h1 := emptyB_t h
    have H := Lib.hid h
    clear h
    go_enter Tryz.func62, Tryz.ntmps62
    go_wp2
    go_ret
    exact ⟨ret_str (by unfold joinP; rw [if_pos H.out, bs_of]), rfl⟩
  · have h1 := emptyB_f h
    have H := Lib.hid h
    clear h
    have h2 : ¬ 9223372036854775807 < a.size + 1 := by omega
    have h3 : ¬ 9223372036854775807 < a.size + 1 + b.size := by omega
    go_enter Tryz.func62, Tryz.ntmps62
    go_wp2
    go_ret
    exact ⟨ret_str (by unfold joinP; rw [if_neg H.out, append_bs, append_bs]; apply congrArg; simp), rfl⟩
set_option maxHeartbeats 1000000 in
theorem parent_any (a : ByteArray) (w : World) (ha : a.size < 4611686018427387904) :
    Calls Tryz.prog 40 #[.string a] w fun e w' => e = .returned (.string (bs (parent a.data.toList))) ∧ w = w' := by
  have hc : ∀ W, Calls Tryz.prog 64 #[.string a, .int .u8 47] W fun e w' => e = .returned (.int .i64 ((slashPos a.data.toList : Int) - 1)) ∧ W = w' := by
    intro W
    rw [← lastByte_eq]
    exact flip (Tryz.strings_LastIndexByte _ _ ha _)
  have hl := slashPos_le a.data.toList
  rw [← size_eq] at hl
  have Hc := Lib.hid hc
  clear hc
  generalize hp : slashPos a.data.toList = p at *
  have Hp := Lib.hid hp
  clear hp
  have h1 : 0 ≤ max 0 ((p : Int) - 1) := by omega
  have h2 : max 0 ((p : Int) - 1) ≤ (a.size : Int) := by omega
  go_enter Tryz.func40, Tryz.ntmps40
  go_wp2_with (go_at_call 64; refine (Hc.out _).mono ?_; rintro e w' ⟨rfl, rfl⟩)
  go_ret
  exact ⟨ret_str (by rw [extract_head]; unfold parent; rw [Hp.out, show (max 0 ((p : Int) - 1)).toNat = p - 1 from by omega]), rfl⟩
set_option maxHeartbeats 1000000 in
theorem last_any (a : ByteArray) (w : World) (ha : a.size < 4611686018427387904) :
    Calls Tryz.prog 41 #[.string a] w fun e w' => e = .returned (.string (bs (lastName a.data.toList))) ∧ w = w' := by
  have hc : ∀ W, Calls Tryz.prog 64 #[.string a, .int .u8 47] W fun e w' => e = .returned (.int .i64 ((slashPos a.data.toList : Int) - 1)) ∧ W = w' := by
    intro W
    rw [← lastByte_eq]
    exact flip (Tryz.strings_LastIndexByte _ _ ha _)
  have hl := slashPos_le a.data.toList
  rw [← size_eq] at hl
  have Hc := Lib.hid hc
  clear hc
  generalize hp : slashPos a.data.toList = p at *
  have Hp := Lib.hid hp
  clear hp
  go_enter Tryz.func41, Tryz.ntmps41
  go_wp2_with (go_at_call 64; refine (Hc.out _).mono ?_; rintro e w' ⟨rfl, rfl⟩)
  go_ret
  exact ⟨ret_str (by rw [extract_tail]; unfold lastName; rw [Hp.out]), rfl⟩

set_option maxHeartbeats 1000000 in
theorem split_any (a : ByteArray) (w : World) (ha : a.size ≤ 9223372036854775807) :
    Calls Tryz.prog 61 #[.string a] w fun e w' => e = .returned (.tuple #[.string (bs (splitP a.data.toList).1), .string (bs (splitP a.data.toList).2.1), errV (splitP a.data.toList).2.2]) ∧ Same w w' := by
  by_cases h : a.size ≤ 100
  · go_enter Tryz.func61, Tryz.ntmps61
    go_wp2
    go_ret3
    exact ⟨by unfold splitP; rw [← size_eq, if_pos h, bs_of]; rfl, Same.refl _⟩
  · have hc : ∀ W, Calls Tryz.prog 38 #[.string (a.extract (a.size - 100 - 1) (a.size - 1)), .int .u8 47] W fun e w' => e = .returned (.int .i64 (match firstFrom a.data.toList (a.size - 101) 100 with | none => -1 | some j => ((j - (a.size - 101) : Nat) : Int))) ∧ W = w' := by
      intro W
      have hix := index_first a.data.toList (by rw [← size_eq]; omega)
      rw [← size_eq] at hix
      have hi := flip (Tryz.strings_IndexByte (a.extract (a.size - 100 - 1) (a.size - 1)) 47 W)
      rw [extract_data, show a.size - 100 - 1 = a.size - 101 from by omega] at hi
      rw [show (47 : Int).toNat.toUInt8 = 47 from rfl, hix] at hi
      exact hi
    have hd : decide ((a.size : Int) ≤ 100) = false := by simp; omega
    cases hf : firstFrom a.data.toList (a.size - 101) 100 with
    | none =>
      rw [hf] at hc
      have hfin : splitP a.data.toList = ([], [], 9) := by unfold splitP; rw [← size_eq, if_neg h, hf]
      have Hfin := Lib.hid hfin
      have Hc := Lib.hid hc
      clear hc hf hfin
      go_enter Tryz.func61, Tryz.ntmps61
      go_wp2_with (go_at_call 38; refine (Hc.out _).mono ?_; rintro e w' ⟨rfl, rfl⟩)
      go_ret3
      exact ⟨by rw [Hfin.out]; rfl, Same.refl _⟩
    | some j =>
      rw [hf] at hc
      obtain ⟨j1, j2, _, _⟩ := first_some hf
      obtain ⟨o, rfl⟩ : ∃ o, j = a.size - 101 + o := ⟨j - (a.size - 101), by omega⟩
      rw [show (match some (a.size - 101 + o) with | none => (-1 : Int) | some j => ((j - (a.size - 101) : Nat) : Int)) = (o : Int) from by simp] at hc
      have ho : o < 100 := by omega
      by_cases hb : a.size - 101 + o < 1 ∨ 155 < a.size - 101 + o
      · have hfin : splitP a.data.toList = ([], [], 9) := by unfold splitP; rw [← size_eq, if_neg h, hf]; simp only; rw [if_pos hb]
        have Hfin := Lib.hid hfin
        have Hc := Lib.hid hc
        clear hc hf hfin
        rcases hb with hb | hb
        · go_enter Tryz.func61, Tryz.ntmps61
          go_wp2_with (go_at_call 38; refine (Hc.out _).mono ?_; rintro e w' ⟨rfl, rfl⟩)
          go_ret3
          exact ⟨by rw [Hfin.out]; rfl, Same.refl _⟩
        · go_enter Tryz.func61, Tryz.ntmps61
          go_wp2_with (go_at_call 38; refine (Hc.out _).mono ?_; rintro e w' ⟨rfl, rfl⟩)
          go_ret3
          exact ⟨by rw [Hfin.out]; rfl, Same.refl _⟩
      · have hfin : splitP a.data.toList = (a.data.toList.take (a.size - 101 + o), a.data.toList.drop (a.size - 101 + o + 1), 0) := by unfold splitP; rw [← size_eq, if_neg h, hf]; simp only; rw [if_neg hb]
        have Hfin := Lib.hid hfin
        have Hc := Lib.hid hc
        clear hc hf hfin
        have hb1 : 1 ≤ a.size - 101 + o := by omega
        have hb2 : a.size - 101 + o ≤ 155 := by omega
        clear hb
        go_enter Tryz.func61, Tryz.ntmps61
        go_wp2_with (go_at_call 38; refine (Hc.out _).mono ?_; rintro e w' ⟨rfl, rfl⟩)
        go_quiet (fail)
        go_wp2
        go_ret3
        exact ⟨by rw [Hfin.out]; exact ret_two (by rw [extract_head, show a.size - 100 - 1 + o = a.size - 101 + o from by omega]) (by rw [extract_tail, show a.size - 100 - 1 + o + 1 = a.size - 101 + o + 1 from by omega]), _, rfl⟩

end Go.Proofs.YtfanfkogogijpaaGreatDoor
