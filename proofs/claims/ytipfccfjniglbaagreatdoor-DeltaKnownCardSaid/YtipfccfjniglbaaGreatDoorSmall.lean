/- The contracts of path.Join, Parent, Last, Below and of their twins in the reference; of Begins. -/
import Derived.Test.YtipfccfjniglbaaGreatDoorShelf
import Derived.Test.YtipfccfjniglbaaGreatDoorJKit
import Derived.Test.YtipfccfjniglbaaGreatDoorPlain
import Derived.Outline
set_option linter.unusedSimpArgs false
set_option linter.unusedVariables false
namespace Go.Proofs.YtipfccfjniglbaaGreatDoor
open Go.RowKit
open Go.Lib hiding intOf

theorem ret_str {a b : ByteArray} (h : a = b) : Ending.returned (.string a) = .returned (.string b) := by rw [h]
theorem ret_bool {a b : Bool} (h : a = b) : Ending.returned (.bool a) = .returned (.bool b) := by rw [h]
theorem ret_int {k : IntKind} {a b : Int} (h : a = b) : Ending.returned (.int k a) = .returned (.int k b) := by rw [h]
theorem ret_two {a b c d : ByteArray} {v : Value} (h : a = b) (k : c = d) : Ending.returned (.tuple #[.string a, .string c, v]) = .returned (.tuple #[.string b, .string d, v]) := by rw [h, k]
theorem emptyB_t {a : ByteArray} (h : a.data.toList = []) : a.toList.isEmpty = true := by rw [toList_data, h]; rfl
theorem emptyB_f {a : ByteArray} (h : a.data.toList ≠ []) : a.toList.isEmpty = false := by rw [toList_data]; cases ha : a.data.toList <;> simp_all

set_option maxHeartbeats 1000000 in
theorem join_any (a b : ByteArray) (w : World) (hab : a.size + b.size ≤ 4611686018427387904) :
    Calls Tryz.prog 113 #[.string a, .string b] w fun e w' => e = .returned (.string (bs (joinP a.data.toList b.data.toList))) ∧ w = w' := by
  by_cases h : a.data.toList = []
  · have h1 := emptyB_t h
    have H := Lib.hid h
    clear h
    go_enter Tryz.func113, Tryz.ntmps113
    go_wp2
    go_ret
    exact ⟨ret_str (by unfold joinP; rw [if_pos H.out, bs_of]), rfl⟩
  · have h1 := emptyB_f h
    have H := Lib.hid h
    clear h
    have h2 : ¬ 9223372036854775807 < a.size + 1 := by omega
    have h3 : ¬ 9223372036854775807 < a.size + 1 + b.size := by omega
    go_enter Tryz.func113, Tryz.ntmps113
    go_wp2
    go_ret
    exact ⟨ret_str (by unfold joinP; rw [if_neg H.out, append_bs, append_bs]; apply congrArg; simp), rfl⟩
set_option maxHeartbeats 1000000 in
theorem rjoin_any (a b : ByteArray) (w : World) (hab : a.size + b.size ≤ 4611686018427387904) :
    Calls Tryz.prog 134 #[.string a, .string b] w fun e w' => e = .returned (.string (bs (joinP a.data.toList b.data.toList))) ∧ w = w' := by
  by_cases h : a.data.toList = []
  · have h1 := emptyB_t h
    have H := Lib.hid h
    clear h
    go_enter Tryz.func134, Tryz.ntmps134
    go_wp2
    go_ret
    exact ⟨ret_str (by unfold joinP; rw [if_pos H.out, bs_of]), rfl⟩
  · have h1 := emptyB_f h
    have H := Lib.hid h
    clear h
    have h2 : ¬ 9223372036854775807 < a.size + 1 := by omega
    have h3 : ¬ 9223372036854775807 < a.size + 1 + b.size := by omega
    go_enter Tryz.func134, Tryz.ntmps134
    go_wp2
    go_ret
    exact ⟨ret_str (by unfold joinP; rw [if_neg H.out, append_bs, append_bs]; apply congrArg; simp), rfl⟩

set_option maxHeartbeats 1000000 in
theorem parent_any (a : ByteArray) (w : World) (ha : a.size < 4611686018427387904) :
    Calls Tryz.prog 85 #[.string a] w fun e w' => e = .returned (.string (bs (parent a.data.toList))) ∧ w = w' := by
  have hc : ∀ W, Calls Tryz.prog 109 #[.string a, .int .u8 47] W fun e w' => e = .returned (.int .i64 ((slashPos a.data.toList : Int) - 1)) ∧ W = w' := by
    intro W
    rw [← lastByte_eq]
    exact flip (Tryz.strings_LastIndexByte _ _ ha _)
  have hl := slashPos_le a.data.toList
  rw [← size_eq] at hl
  have Hc := Lib.hid hc
  clear hc
  generalize hp : slashPos a.data.toList = p at *
  have Hp := Lib.hid hp
  clear hp
  have h1 : 0 ≤ max 0 ((p : Int) - 1) := by omega
  have h2 : max 0 ((p : Int) - 1) ≤ (a.size : Int) := by omega
  go_enter Tryz.func85, Tryz.ntmps85
  go_wp2_with (go_at_call 109; refine (Hc.out _).mono ?_; rintro e w' ⟨rfl, rfl⟩)
  go_ret
  exact ⟨ret_str (by rw [extract_head]; unfold parent; rw [Hp.out, show (max 0 ((p : Int) - 1)).toNat = p - 1 from by omega]), rfl⟩
set_option maxHeartbeats 1000000 in
theorem last_any (a : ByteArray) (w : World) (ha : a.size < 4611686018427387904) :
    Calls Tryz.prog 81 #[.string a] w fun e w' => e = .returned (.string (bs (lastName a.data.toList))) ∧ w = w' := by
  have hc : ∀ W, Calls Tryz.prog 109 #[.string a, .int .u8 47] W fun e w' => e = .returned (.int .i64 ((slashPos a.data.toList : Int) - 1)) ∧ W = w' := by
    intro W
    rw [← lastByte_eq]
    exact flip (Tryz.strings_LastIndexByte _ _ ha _)
  have hl := slashPos_le a.data.toList
  rw [← size_eq] at hl
  have Hc := Lib.hid hc
  clear hc
  generalize hp : slashPos a.data.toList = p at *
  have Hp := Lib.hid hp
  clear hp
  go_enter Tryz.func81, Tryz.ntmps81
  go_wp2_with (go_at_call 109; refine (Hc.out _).mono ?_; rintro e w' ⟨rfl, rfl⟩)
  go_ret
  exact ⟨ret_str (by rw [extract_tail]; unfold lastName; rw [Hp.out]), rfl⟩

/-- the reference's loop for the last slash -/
theorem rslash_any (a : ByteArray) (w : World) (ha : a.size ≤ 9223372036854775807) :
    Calls Tryz.prog 125 #[.string a] w fun e w' => e = .returned (.int .i64 ((slashPos a.data.toList : Int) - 1)) ∧ w = w' := by
  go_enter Tryz.func125, Tryz.ntmps125
  go_wp2
  go_loop [3, 4] (fun t i => ∃ k : Nat, k ≤ a.size ∧ i = .int .i64 k ∧ t = .int .i64 ((slashAt a.data.toList k : Int) - 1)) (fun _ i => a.size - (intOf i).toNat)
  case atStart => exact ⟨0, Nat.zero_le _, rfl, rfl⟩
  case round =>
    obtain ⟨k, hk, rfl, rfl⟩ := hrel
    by_cases hlt : k < a.size
    · by_cases hc : a.data.toList[k]? = some 47
      · have hb : ((((a[k]'hlt).toNat : Nat) : Int) == 47) = true := byte_eq hlt 47 (by decide) hc
        have H := Lib.hid (show slashAt a.data.toList (k + 1) = k + 1 by rw [slashAt, if_pos hc])
        clear hc
        go_wp2
        go_round
        case rel => exact ⟨k + 1, by omega, by go_num, by rw [H.out]; go_num⟩
        case measure => simp [intOf]; omega
      · have hb : ((((a[k]'hlt).toNat : Nat) : Int) == 47) = false := byte_ne hlt 47 (by decide) hc
        have H := Lib.hid (show slashAt a.data.toList (k + 1) = slashAt a.data.toList k by rw [slashAt, if_neg hc])
        clear hc
        go_wp2
        go_round
        case rel => exact ⟨k + 1, by omega, by go_num, by rw [H.out]⟩
        case measure => simp [intOf]; omega
    · obtain rfl : k = a.size := by omega
      go_wp2
      go_ret
      exact ⟨by rw [size_eq]; rfl, rfl⟩

theorem begins_any (a b : ByteArray) (w : World) (ha : a.size ≤ 9223372036854775807) (hb : b.size < 4611686018427387904) :
    Calls Tryz.prog 119 #[.string a, .string b] w fun e w' => e = .returned (.bool (hasPrefix a.data.toList b.data.toList)) ∧ w = w' := by
  have hh := hasPrefix_of_take a.data.toList b.data.toList
  rw [← size_eq, ← size_eq] at hh
  have H := Lib.hid hh
  clear hh
  by_cases h : b.size ≤ a.size
  · go_enter Tryz.func119, Tryz.ntmps119
    go_wp2
    go_ret
    exact ⟨ret_bool (by rw [← H.out, decide_eq_true h, extract_head, bs_tl, toList_data]; simp), rfl⟩
  · go_enter Tryz.func119, Tryz.ntmps119
    go_wp2
    go_ret
    exact ⟨ret_bool (by rw [← H.out, decide_eq_false h]; simp), rfl⟩

set_option maxHeartbeats 1000000 in
theorem rparent_any (a : ByteArray) (w : World) (ha : a.size ≤ 9223372036854775807) :
    Calls Tryz.prog 105 #[.string a] w fun e w' => e = .returned (.string (bs (parent a.data.toList))) ∧ w = w' := by
  have hl := slashPos_le a.data.toList
  rw [← size_eq] at hl
  have hc := fun W => rslash_any a W ha
  have Hc := Lib.hid hc
  clear hc
  generalize hp : slashPos a.data.toList = p at *
  have Hp := Lib.hid hp
  clear hp
  by_cases h0 : (p : Int) - 1 < 0
  · go_enter Tryz.func105, Tryz.ntmps105
    go_wp2_with (go_at_call 125; refine (Hc.out _).mono ?_; rintro e w' ⟨rfl, rfl⟩)
    go_ret
    exact ⟨ret_str (by unfold parent; rw [Hp.out, show p - 1 = 0 from by omega]; rfl), rfl⟩
  · have h1 : (p : Int) - 1 ≤ (a.size : Int) := by omega
    go_enter Tryz.func105, Tryz.ntmps105
    go_wp2_with (go_at_call 125; refine (Hc.out _).mono ?_; rintro e w' ⟨rfl, rfl⟩)
    go_ret
    exact ⟨ret_str (by rw [extract_head]; unfold parent; rw [Hp.out]), rfl⟩
set_option maxHeartbeats 1000000 in
theorem rlast_any (a : ByteArray) (w : World) (ha : a.size ≤ 9223372036854775807) :
    Calls Tryz.prog 135 #[.string a] w fun e w' => e = .returned (.string (bs (lastName a.data.toList))) ∧ w = w' := by
  have hl := slashPos_le a.data.toList
  rw [← size_eq] at hl
  have hc := fun W => rslash_any a W ha
  have Hc := Lib.hid hc
  clear hc
  generalize hp : slashPos a.data.toList = p at *
  have Hp := Lib.hid hp
  clear hp
  go_enter Tryz.func135, Tryz.ntmps135
  go_wp2_with (go_at_call 125; refine (Hc.out _).mono ?_; rintro e w' ⟨rfl, rfl⟩)
  go_ret
  exact ⟨ret_str (by rw [extract_tail]; unfold lastName; rw [Hp.out]), rfl⟩

set_option maxHeartbeats 1000000 in
theorem split_any (a : ByteArray) (w : World) (ha : a.size ≤ 9223372036854775807) :
    Calls Tryz.prog 112 #[.string a] w fun e w' => e = .returned (.tuple #[.string (bs (splitP a.data.toList).1), .string (bs (splitP a.data.toList).2.1), errV (splitP a.data.toList).2.2]) ∧ Same w w' := by
  by_cases h : a.size ≤ 100
  · go_enter Tryz.func112, Tryz.ntmps112
    go_wp2
    go_ret3
    exact ⟨by unfold splitP; rw [← size_eq, if_pos h, bs_of]; rfl, Same.refl _⟩
  · have hc : ∀ W, Calls Tryz.prog 116 #[.string (a.extract (a.size - 100 - 1) (a.size - 1)), .int .u8 47] W fun e w' => e = .returned (.int .i64 (match firstFrom a.data.toList (a.size - 101) 100 with | none => -1 | some j => ((j - (a.size - 101) : Nat) : Int))) ∧ W = w' := by
      intro W
      have hix := index_first a.data.toList (by rw [← size_eq]; omega)
      rw [← size_eq] at hix
      have hi := flip (Tryz.strings_IndexByte (a.extract (a.size - 100 - 1) (a.size - 1)) 47 W)
      rw [extract_data, show a.size - 100 - 1 = a.size - 101 from by omega] at hi
      rw [show (47 : Int).toNat.toUInt8 = 47 from rfl, hix] at hi
      exact hi
    have hd : decide ((a.size : Int) ≤ 100) = false := by simp; omega
    cases hf : firstFrom a.data.toList (a.size - 101) 100 with
    | none =>
      rw [hf] at hc
      have hfin : splitP a.data.toList = ([], [], 9) := by unfold splitP; rw [← size_eq, if_neg h, hf]
      have Hfin := Lib.hid hfin
      have Hc := Lib.hid hc
      clear hc hf hfin
      go_enter Tryz.func112, Tryz.ntmps112
      go_wp2_with (go_at_call 116; refine (Hc.out _).mono ?_; rintro e w' ⟨rfl, rfl⟩)
      go_ret3
      exact ⟨by rw [Hfin.out]; rfl, Same.refl _⟩
    | some j =>
      rw [hf] at hc
      obtain ⟨j1, j2, _, _⟩ := first_some hf
      obtain ⟨o, rfl⟩ : ∃ o, j = a.size - 101 + o := ⟨j - (a.size - 101), by omega⟩
      rw [show (match some (a.size - 101 + o) with | none => (-1 : Int) | some j => ((j - (a.size - 101) : Nat) : Int)) = (o : Int) from by simp] at hc
      have ho : o < 100 := by omega
      by_cases hb : a.size - 101 + o < 1 ∨ 155 < a.size - 101 + o
      · have hfin : splitP a.data.toList = ([], [], 9) := by unfold splitP; rw [← size_eq, if_neg h, hf]; simp only; rw [if_pos hb]
        have Hfin := Lib.hid hfin
        have Hc := Lib.hid hc
        clear hc hf hfin
        rcases hb with hb | hb
        · go_enter Tryz.func112, Tryz.ntmps112
          go_wp2_with (go_at_call 116; refine (Hc.out _).mono ?_; rintro e w' ⟨rfl, rfl⟩)
          go_ret3
          exact ⟨by rw [Hfin.out]; rfl, Same.refl _⟩
        · go_enter Tryz.func112, Tryz.ntmps112
          go_wp2_with (go_at_call 116; refine (Hc.out _).mono ?_; rintro e w' ⟨rfl, rfl⟩)
          go_ret3
          exact ⟨by rw [Hfin.out]; rfl, Same.refl _⟩
      · have hfin : splitP a.data.toList = (a.data.toList.take (a.size - 101 + o), a.data.toList.drop (a.size - 101 + o + 1), 0) := by unfold splitP; rw [← size_eq, if_neg h, hf]; simp only; rw [if_neg hb]
        have Hfin := Lib.hid hfin
        have Hc := Lib.hid hc
        clear hc hf hfin
        have hb1 : 1 ≤ a.size - 101 + o := by omega
        have hb2 : a.size - 101 + o ≤ 155 := by omega
        clear hb
        go_enter Tryz.func112, Tryz.ntmps112
        go_wp2_with (go_at_call 116; refine (Hc.out _).mono ?_; rintro e w' ⟨rfl, rfl⟩)
        go_quiet (fail)
        go_wp2
        go_ret3
        exact ⟨by rw [Hfin.out]; exact ret_two (by rw [extract_head, show a.size - 100 - 1 + o = a.size - 101 + o from by omega]) (by rw [extract_tail, show a.size - 100 - 1 + o + 1 = a.size - 101 + o + 1 from by omega]), _, rfl⟩

set_option maxHeartbeats 2000000 in
theorem rsplit_any (a : ByteArray) (w : World) (ha : a.size ≤ 9223372036854775807) :
    Calls Tryz.prog 123 #[.string a] w fun e w' => e = .returned (.tuple #[.string (bs (splitP a.data.toList).1), .string (bs (splitP a.data.toList).2.1), .int .i64 ((splitP a.data.toList).2.2 : Int)]) ∧ Same w w' := by
  by_cases h : a.size ≤ 100
  · go_enter Tryz.func123, Tryz.ntmps123
    go_wp2
    go_ret3
    exact ⟨by unfold splitP; rw [← size_eq, if_pos h, bs_of]; rfl, Same.refl _⟩
  · have hd : decide ((a.size : Int) ≤ 100) = false := by simp; omega
    go_enter Tryz.func123, Tryz.ntmps123
    go_wp2
    go_loop [5, 6] (fun i _ => ∃ k : Nat, k ≤ a.size ∧ i = .int .i64 k ∧ ∀ j, a.size - 101 ≤ j → j < k → j < a.size - 101 + 100 → ¬ a.data.toList[j]? = some 47) (fun i _ => a.size - (intOf i).toNat)
    case atStart => exact ⟨0, Nat.zero_le _, rfl, fun j _ h => absurd h (by omega)⟩
    case round =>
      obtain ⟨k, hk, rfl, hno⟩ := hrel
      have Hno := Lib.hid hno
      clear hno
      by_cases hlt : k < a.size
      · by_cases hc : a.data.toList[k]? = some 47 ∧ a.size - 101 ≤ k ∧ k < a.size - 101 + 100
        · obtain ⟨hc, hk1, hk2⟩ := hc
          have hb : ((((a[k]'hlt).toNat : Nat) : Int) == 47) = true := byte_eq hlt 47 (by decide) hc
          have hf := first_mk hk1 hk2 hc (fun j x y => Hno.out j x y (by omega))
          by_cases hbb : k < 1 ∨ 155 < k
          · have hfin : splitP a.data.toList = ([], [], 9) := by unfold splitP; rw [← size_eq, if_neg h, hf]; simp only; rw [if_pos hbb]
            have Hfin := Lib.hid hfin
            clear hfin hf hc
            rcases hbb with hbb | hbb
            · go_wp2
              go_ret3
              exact ⟨by rw [Hfin.out]; rfl, Same.refl _⟩
            · go_wp2
              go_ret3
              exact ⟨by rw [Hfin.out]; rfl, Same.refl _⟩
          · have hfin : splitP a.data.toList = (a.data.toList.take k, a.data.toList.drop (k + 1), 0) := by unfold splitP; rw [← size_eq, if_neg h, hf]; simp only; rw [if_neg hbb]
            have Hfin := Lib.hid hfin
            clear hfin hf hc
            have hb1 : 1 ≤ k := by omega
            have hb2 : k ≤ 155 := by omega
            clear hbb
            go_wp2
            go_quiet (fail)
            go_wp2
            go_ret3
            exact ⟨by rw [Hfin.out]; exact ret_two (by rw [extract_head]) (by rw [extract_tail]), _, rfl⟩
        · have hno' : ∀ j, a.size - 101 ≤ j → j < k + 1 → j < a.size - 101 + 100 → ¬ a.data.toList[j]? = some 47 := by
            intro j x y z hj
            rcases (by omega : j < k ∨ j = k) with h1 | rfl
            · exact Hno.out j x h1 z hj
            · exact hc ⟨hj, x, z⟩
          have Hno' := Lib.hid hno'
          clear hno'
          by_cases hs : a.data.toList[k]? = some 47
          · have hb : ((((a[k]'hlt).toNat : Nat) : Int) == 47) = true := byte_eq hlt 47 (by decide) hs
            have hkk : k < a.size - 101 ∨ a.size - 101 + 100 ≤ k := by
              rcases (by omega : k < a.size - 101 ∨ a.size - 101 + 100 ≤ k ∨ (a.size - 101 ≤ k ∧ k < a.size - 101 + 100)) with h1 | h1 | h1
              · exact .inl h1
              · exact .inr h1
              · exact absurd ⟨hs, h1⟩ hc
            clear hs hc
            rcases hkk with hkk | hkk
            · go_wp2
              go_round
              case rel => exact ⟨k + 1, by omega, by go_num, Hno'.out⟩
              case measure => simp [intOf]; omega
            · go_wp2
              go_round
              case rel => exact ⟨k + 1, by omega, by go_num, Hno'.out⟩
              case measure => simp [intOf]; omega
          · have hb : ((((a[k]'hlt).toNat : Nat) : Int) == 47) = false := byte_ne hlt 47 (by decide) hs
            clear hs hc
            go_wp2
            go_round
            case rel => exact ⟨k + 1, by omega, by go_num, Hno'.out⟩
            case measure => simp [intOf]; omega
      · obtain rfl : k = a.size := by omega
        have hfin : splitP a.data.toList = ([], [], 9) := by
          unfold splitP
          rw [← size_eq, if_neg h, first_mk_none (fun j x y => Hno.out j x (by omega) y)]
        have Hfin := Lib.hid hfin
        clear hfin
        go_wp2
        go_ret3
        exact ⟨by rw [Hfin.out]; rfl, Same.refl _⟩
end Go.Proofs.YtipfccfjniglbaaGreatDoor
