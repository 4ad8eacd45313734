/- The contracts of path.Name, path.Below and of their twins in the reference. -/
import Derived.Test.YtfanfkogogijpaaGreatDoorSmall
import Derived.Test.YtfanfkogogijpaaGreatDoorAny
set_option linter.unusedSimpArgs false
set_option linter.unusedVariables false
namespace Go.Proofs.YtfanfkogogijpaaGreatDoor
open Go.RowKit
open Go.Lib hiding intOf

theorem prefix_snoc (d p : List UInt8) : (hasPrefix p d && hasPrefix (p.drop d.length) [47]) = (d ++ [47]).isPrefixOf p := by
  unfold hasPrefix
  induction d generalizing p with
  | nil => simp
  | cons c d ih =>
    cases p with
    | nil => simp
    | cons x p =>
      simp only [List.isPrefixOf, List.cons_append, List.length_cons, List.drop_succ_cons, Bool.and_assoc]
      rw [ih]

set_option maxHeartbeats 1000000 in
theorem below_any (d p : ByteArray) (w : World) (hd : d.size < 4611686018427387904) (hp : p.size < 4611686018427387904) :
    Calls Tryz.prog 11 #[.string d, .string p] w fun e w' => e = .returned (.bool (belowP d.data.toList p.data.toList)) ∧ w = w' := by
  by_cases h : d.data.toList = []
  · have h1 := emptyB_t h
    have H := Lib.hid h
    clear h
    go_enter Tryz.func11, Tryz.ntmps11
    go_wp2
    go_ret
    exact ⟨ret_bool (by unfold belowP; rw [if_pos H.out, toList_data]), rfl⟩
  · have h1 := emptyB_f h
    have H := Lib.hid h
    clear h
    have hpr := prefix_snoc d.data.toList p.data.toList
    have hc := fun W => flip (Tryz.strings_HasPrefix p d W)
    have hc2 : ∀ W, Calls Tryz.prog 30 #[.string (p.extract d.size p.size), .string ⟨#[47]⟩] W fun e w' => e = .returned (.bool (hasPrefix (p.data.toList.drop d.data.toList.length) [47])) ∧ W = w' := by
      intro W
      have := flip (Tryz.strings_HasPrefix (p.extract d.size p.size) ⟨#[47]⟩ W)
      rw [extract_tail, bs_toList, size_eq] at this
      rw [extract_tail, size_eq d]
      exact this
    cases hb : hasPrefix p.data.toList d.data.toList
    · rw [hb] at hpr hc
      have Hpr := Lib.hid hpr
      have Hc := Lib.hid hc
      clear hpr hc hb hc2
      go_enter Tryz.func11, Tryz.ntmps11
      go_wp2_with (go_at_call 30; refine (Hc.out _).mono ?_; rintro e w' ⟨rfl, rfl⟩)
      go_ret
      exact ⟨ret_bool (by unfold belowP; rw [if_neg H.out, ← Hpr.out]; rfl), rfl⟩
    · have hle : d.size ≤ p.size := by
        rw [size_eq, size_eq]
        exact (List.isPrefixOf_iff_prefix.1 hb).length_le
      rw [hb] at hpr hc
      have Hpr := Lib.hid hpr
      have Hc := Lib.hid hc
      have Hc2 := Lib.hid hc2
      clear hpr hc hb hc2
      go_enter Tryz.func11, Tryz.ntmps11
      go_wp2_with fail
      refine (Hc.out _).mono ?_
      rintro e w' ⟨rfl, rfl⟩
      go_wp2_with fail
      refine (Hc2.out _).mono ?_
      rintro e w' ⟨rfl, rfl⟩
      go_wp2_with fail
      go_ret
      exact ⟨ret_bool (by unfold belowP; rw [if_neg H.out, ← Hpr.out]; rfl), rfl⟩
theorem eqB_t {a : ByteArray} {l : List UInt8} (h : a.data.toList = l) : (a.toList == l) = true := by rw [toList_data, h]; simp
theorem eqB_f {a : ByteArray} {l : List UInt8} (h : ¬ a.data.toList = l) : (a.toList == l) = false := by rw [toList_data]; simpa using h
theorem nameOk_f {l : List UInt8} (h : l = [] ∨ 96 < l.length ∨ l.any bad = true ∨ l = [46] ∨ l = [46, 46] ∨ hasPrefix l white = true) : nameOk l = false := by
  unfold nameOk
  rcases h with h | h | h | h | h | h
  · rw [h]; rfl
  · rw [show decide (l.length ≤ 96) = false from by simp; omega]; simp
  · rw [h]; simp
  · rw [h]; simp
  · rw [h]; simp
  · rw [h]; simp
theorem nameOk_t {l : List UInt8} (h0 : ¬ l = []) (h1 : l.length ≤ 96) (h2 : l.any bad = false) (h3 : ¬ l = [46]) (h4 : ¬ l = [46, 46]) (h5 : hasPrefix l white = false) : nameOk l = true := by
  unfold nameOk
  rw [h2, h5, decide_eq_true h1]
  simp [h0, h3, h4]

set_option maxHeartbeats 2000000 in
theorem name_any (a : ByteArray) (w : World) (ha : a.size ≤ 9223372036854775807) :
    Calls Tryz.prog 60 #[.string a] w fun e w' => e = .returned (errV (nameNo a.data.toList)) ∧ Below w.heap.size w w' := by
  have hn0 : ∀ {l : List UInt8}, nameOk l = false → errV (nameNo l) = .iface 65 (.int .i64 8) := fun h => by unfold nameNo; rw [h]; rfl
  have hn1 : ∀ {l : List UInt8}, nameOk l = true → errV (nameNo l) = .nilIface := fun h => by unfold nameNo; rw [h]; rfl
  by_cases h0 : a.data.toList = []
  · have g := hn0 (nameOk_f (.inl h0))
    have b0 := emptyB_t h0
    have G := Lib.hid g
    clear g h0 hn0 hn1
    go_enter Tryz.func60, Tryz.ntmps60
    go_wp2
    go_ret
    exact ⟨by rw [G.out]; rfl, Below.refl _ _⟩
  have b0 := emptyB_f h0
  by_cases h1 : 96 < a.size
  · have g := hn0 (nameOk_f (l := a.data.toList) (.inr (.inl (by rw [← size_eq]; exact h1))))
    have G := Lib.hid g
    clear g h0 hn0 hn1
    go_enter Tryz.func60, Tryz.ntmps60
    go_wp2
    go_ret
    exact ⟨by rw [G.out]; rfl, Below.refl _ _⟩
  have hc := fun W => containsAny_sl a W (by omega)
  cases h2 : a.data.toList.any bad
  · rw [h2] at hc
    by_cases h3 : a.data.toList = [46]
    · have g := hn0 (nameOk_f (l := a.data.toList) (.inr (.inr (.inr (.inl h3)))))
      have b3 := eqB_t h3
      have G := Lib.hid g
      have Hc := Lib.hid hc
      clear g h0 hn0 hn1 hc h2 h3
      go_enter Tryz.func60, Tryz.ntmps60
      go_wp2_with (go_at_call 75; refine (Hc.out _).mono ?_; rintro e w' ⟨rfl, hb⟩)
      go_ret
      exact ⟨by rw [G.out]; rfl, hb⟩
    have b3 := eqB_f h3
    by_cases h4 : a.data.toList = [46, 46]
    · have g := hn0 (nameOk_f (l := a.data.toList) (.inr (.inr (.inr (.inr (.inl h4))))))
      have b4 := eqB_t h4
      have G := Lib.hid g
      have Hc := Lib.hid hc
      clear g h0 hn0 hn1 hc h2 h3 h4
      go_enter Tryz.func60, Tryz.ntmps60
      go_wp2_with (go_at_call 75; refine (Hc.out _).mono ?_; rintro e w' ⟨rfl, hb⟩)
      go_ret
      exact ⟨by rw [G.out]; rfl, hb⟩
    have b4 := eqB_f h4
    have hp := fun W => flip (Tryz.strings_HasPrefix a ⟨#[46, 119, 104, 46]⟩ W)
    rw [show (⟨#[46, 119, 104, 46]⟩ : ByteArray).data.toList = white from rfl] at hp
    cases h5 : hasPrefix a.data.toList white
    · rw [h5] at hp
      have g := hn1 (nameOk_t h0 (by rw [← size_eq]; omega) h2 h3 h4 h5)
      have G := Lib.hid g
      have Hc := Lib.hid hc
      have Hp := Lib.hid hp
      clear g h0 hn0 hn1 hc h2 h3 h4 h5 hp
      go_enter Tryz.func60, Tryz.ntmps60
      go_wp2_with (first | (go_at_call 75; refine (Hc.out _).mono ?_; rintro e w' ⟨rfl, hb⟩) | (go_at_call 30; refine (Hp.out _).mono ?_; rintro e w'' ⟨rfl, rfl⟩))
      go_ret
      exact ⟨by rw [G.out]; rfl, hb⟩
    · rw [h5] at hp
      have g := hn0 (nameOk_f (l := a.data.toList) (.inr (.inr (.inr (.inr (.inr h5))))))
      have G := Lib.hid g
      have Hc := Lib.hid hc
      have Hp := Lib.hid hp
      clear g h0 hn0 hn1 hc h2 h3 h4 h5 hp
      go_enter Tryz.func60, Tryz.ntmps60
      go_wp2_with (first | (go_at_call 75; refine (Hc.out _).mono ?_; rintro e w' ⟨rfl, hb⟩) | (go_at_call 30; refine (Hp.out _).mono ?_; rintro e w'' ⟨rfl, rfl⟩))
      go_ret
      exact ⟨by rw [G.out]; rfl, hb⟩
  · rw [h2] at hc
    have g := hn0 (nameOk_f (l := a.data.toList) (.inr (.inr (.inl h2))))
    have G := Lib.hid g
    have Hc := Lib.hid hc
    clear g h0 hn0 hn1 hc h2
    go_enter Tryz.func60, Tryz.ntmps60
    go_wp2_with (go_at_call 75; refine (Hc.out _).mono ?_; rintro e w' ⟨rfl, hb⟩)
    go_ret
    exact ⟨by rw [G.out]; rfl, hb⟩

theorem nobad_hit {a : ByteArray} {k : Nat} (h : k < a.size) (hb : a.data.toList[k]? = some 0 ∨ a.data.toList[k]? = some 47) : a.data.toList.any bad = true := by
  refine List.any_eq_true.2 ?_
  rcases hb with hb | hb
  · exact ⟨_, List.mem_of_getElem? hb, rfl⟩
  · exact ⟨_, List.mem_of_getElem? hb, rfl⟩
theorem nobad_succ {a : ByteArray} {k : Nat} (h : NoBad a k) (h0 : ¬ a.data.toList[k]? = some 0) (h1 : ¬ a.data.toList[k]? = some 47) : NoBad a (k + 1) := by
  intro j hj c hc
  rcases (by omega : j < k ∨ j = k) with h2 | rfl
  · exact h j h2 c hc
  · unfold bad
    rw [Bool.or_eq_false_iff]
    constructor <;> rw [beq_eq_false_iff_ne] <;> rintro rfl
    · exact h0 hc
    · exact h1 hc

end Go.Proofs.YtfanfkogogijpaaGreatDoor
