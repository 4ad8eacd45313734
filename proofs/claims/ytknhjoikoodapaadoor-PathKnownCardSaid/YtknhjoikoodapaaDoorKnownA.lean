/- What PathKnown calls: checked. -/
import Derived.Test.YtknhjoikoodapaaDoorMany
set_option linter.unusedSimpArgs false
set_option linter.unusedVariables false
namespace Go.Proofs.YtknhjoikoodapaaDoor
open Go.RowKit
open Go.Lib hiding intOf

set_option maxRecDepth 100000 in
set_option maxHeartbeats 8000000 in
theorem checked_any (w : World) (hg : Handle w) : Calls Tryd.prog 36 #[] w fun e w' => e = .returned (.bool true) ∧ Below w.heap.size w w' := by
  obtain ⟨M0, eM0⟩ : ∃ x, x = bs (manyP [97, 47] 33) := ⟨_, rfl⟩
  have zM0 : M0.size = 66 := by rw [eM0, bs_size, manyP_length]; rfl
  have cM0 : ∀ W, Calls Tryd.prog 35 #[.string ⟨#[97, 47]⟩, .int .i64 33] W fun e w' => e = .returned (.string M0) ∧ W = w' := by
    intro W
    have h := many_any ⟨#[97, 47]⟩ 33 W (by decide) (by decide)
    rw [show (bs (manyP (⟨#[97, 47]⟩ : ByteArray).data.toList 33)) = M0 from eM0.symm] at h
    exact h
  obtain ⟨M1, eM1⟩ : ∃ x, x = bs (manyP [97] 300) := ⟨_, rfl⟩
  have zM1 : M1.size = 300 := by rw [eM1, bs_size, manyP_length]; rfl
  have cM1 : ∀ W, Calls Tryd.prog 35 #[.string ⟨#[97]⟩, .int .i64 300] W fun e w' => e = .returned (.string M1) ∧ W = w' := by
    intro W
    have h := many_any ⟨#[97]⟩ 300 W (by decide) (by decide)
    rw [show (bs (manyP (⟨#[97]⟩ : ByteArray).data.toList 300)) = M1 from eM1.symm] at h
    exact h
  obtain ⟨M2, eM2⟩ : ∃ x, x = bs (manyP [97] 97) := ⟨_, rfl⟩
  have zM2 : M2.size = 97 := by rw [eM2, bs_size, manyP_length]; rfl
  have cM2 : ∀ W, Calls Tryd.prog 35 #[.string ⟨#[97]⟩, .int .i64 97] W fun e w' => e = .returned (.string M2) ∧ W = w' := by
    intro W
    have h := many_any ⟨#[97]⟩ 97 W (by decide) (by decide)
    rw [show (bs (manyP (⟨#[97]⟩ : ByteArray).data.toList 97)) = M2 from eM2.symm] at h
    exact h
  obtain ⟨M3, eM3⟩ : ∃ x, x = bs (manyP [97] 95) := ⟨_, rfl⟩
  have zM3 : M3.size = 95 := by rw [eM3, bs_size, manyP_length]; rfl
  have cM3 : ∀ W, Calls Tryd.prog 35 #[.string ⟨#[97]⟩, .int .i64 95] W fun e w' => e = .returned (.string M3) ∧ W = w' := by
    intro W
    have h := many_any ⟨#[97]⟩ 95 W (by decide) (by decide)
    rw [show (bs (manyP (⟨#[97]⟩ : ByteArray).data.toList 95)) = M3 from eM3.symm] at h
    exact h
  obtain ⟨M4, eM4⟩ : ∃ x, x = bs (manyP [98] 60) := ⟨_, rfl⟩
  have zM4 : M4.size = 60 := by rw [eM4, bs_size, manyP_length]; rfl
  have cM4 : ∀ W, Calls Tryd.prog 35 #[.string ⟨#[98]⟩, .int .i64 60] W fun e w' => e = .returned (.string M4) ∧ W = w' := by
    intro W
    have h := many_any ⟨#[98]⟩ 60 W (by decide) (by decide)
    rw [show (bs (manyP (⟨#[98]⟩ : ByteArray).data.toList 60)) = M4 from eM4.symm] at h
    exact h
  obtain ⟨M5, eM5⟩ : ∃ x, x = bs (manyP [99] 38) := ⟨_, rfl⟩
  have zM5 : M5.size = 38 := by rw [eM5, bs_size, manyP_length]; rfl
  have cM5 : ∀ W, Calls Tryd.prog 35 #[.string ⟨#[99]⟩, .int .i64 38] W fun e w' => e = .returned (.string M5) ∧ W = w' := by
    intro W
    have h := many_any ⟨#[99]⟩ 38 W (by decide) (by decide)
    rw [show (bs (manyP (⟨#[99]⟩ : ByteArray).data.toList 38)) = M5 from eM5.symm] at h
    exact h
  obtain ⟨M6, eM6⟩ : ∃ x, x = bs (manyP [97, 47] 32) := ⟨_, rfl⟩
  have zM6 : M6.size = 64 := by rw [eM6, bs_size, manyP_length]; rfl
  have cM6 : ∀ W, Calls Tryd.prog 35 #[.string ⟨#[97, 47]⟩, .int .i64 32] W fun e w' => e = .returned (.string M6) ∧ W = w' := by
    intro W
    have h := many_any ⟨#[97, 47]⟩ 32 W (by decide) (by decide)
    rw [show (bs (manyP (⟨#[97, 47]⟩ : ByteArray).data.toList 32)) = M6 from eM6.symm] at h
    exact h
  obtain ⟨M7, eM7⟩ : ∃ x, x = bs (manyP [97] 96) := ⟨_, rfl⟩
  have zM7 : M7.size = 96 := by rw [eM7, bs_size, manyP_length]; rfl
  have cM7 : ∀ W, Calls Tryd.prog 35 #[.string ⟨#[97]⟩, .int .i64 96] W fun e w' => e = .returned (.string M7) ∧ W = w' := by
    intro W
    have h := many_any ⟨#[97]⟩ 96 W (by decide) (by decide)
    rw [show (bs (manyP (⟨#[97]⟩ : ByteArray).data.toList 96)) = M7 from eM7.symm] at h
    exact h
  obtain ⟨M8, eM8⟩ : ∃ x, x = bs (manyP [97] 62) := ⟨_, rfl⟩
  have zM8 : M8.size = 62 := by rw [eM8, bs_size, manyP_length]; rfl
  have cM8 : ∀ W, Calls Tryd.prog 35 #[.string ⟨#[97]⟩, .int .i64 62] W fun e w' => e = .returned (.string M8) ∧ W = w' := by
    intro W
    have h := many_any ⟨#[97]⟩ 62 W (by decide) (by decide)
    rw [show (bs (manyP (⟨#[97]⟩ : ByteArray).data.toList 62)) = M8 from eM8.symm] at h
    exact h
  obtain ⟨M9, eM9⟩ : ∃ x, x = bs (manyP [97] 80) := ⟨_, rfl⟩
  have zM9 : M9.size = 80 := by rw [eM9, bs_size, manyP_length]; rfl
  have cM9 : ∀ W, Calls Tryd.prog 35 #[.string ⟨#[97]⟩, .int .i64 80] W fun e w' => e = .returned (.string M9) ∧ W = w' := by
    intro W
    have h := many_any ⟨#[97]⟩ 80 W (by decide) (by decide)
    rw [show (bs (manyP (⟨#[97]⟩ : ByteArray).data.toList 80)) = M9 from eM9.symm] at h
    exact h
  obtain ⟨M10, eM10⟩ : ∃ x, x = bs (manyP [98] 80) := ⟨_, rfl⟩
  have zM10 : M10.size = 80 := by rw [eM10, bs_size, manyP_length]; rfl
  have cM10 : ∀ W, Calls Tryd.prog 35 #[.string ⟨#[98]⟩, .int .i64 80] W fun e w' => e = .returned (.string M10) ∧ W = w' := by
    intro W
    have h := many_any ⟨#[98]⟩ 80 W (by decide) (by decide)
    rw [show (bs (manyP (⟨#[98]⟩ : ByteArray).data.toList 80)) = M10 from eM10.symm] at h
    exact h
  obtain ⟨M11, eM11⟩ : ∃ x, x = bs (manyP [99] 10) := ⟨_, rfl⟩
  have zM11 : M11.size = 10 := by rw [eM11, bs_size, manyP_length]; rfl
  have cM11 : ∀ W, Calls Tryd.prog 35 #[.string ⟨#[99]⟩, .int .i64 10] W fun e w' => e = .returned (.string M11) ∧ W = w' := by
    intro W
    have h := many_any ⟨#[99]⟩ 10 W (by decide) (by decide)
    rw [show (bs (manyP (⟨#[99]⟩ : ByteArray).data.toList 10)) = M11 from eM11.symm] at h
    exact h
  obtain ⟨M12, eM12⟩ : ∃ x, x = bs (manyP [100] 83) := ⟨_, rfl⟩
  have zM12 : M12.size = 83 := by rw [eM12, bs_size, manyP_length]; rfl
  have cM12 : ∀ W, Calls Tryd.prog 35 #[.string ⟨#[100]⟩, .int .i64 83] W fun e w' => e = .returned (.string M12) ∧ W = w' := by
    intro W
    have h := many_any ⟨#[100]⟩ 83 W (by decide) (by decide)
    rw [show (bs (manyP (⟨#[100]⟩ : ByteArray).data.toList 83)) = M12 from eM12.symm] at h
    exact h
  have fx : ∀ x ∈ ([⟨#[97, 47, 47, 98]⟩, ⟨#[47, 97]⟩, ⟨#[97, 47]⟩, ⟨#[97, 47, 46, 46, 47, 98]⟩, ⟨#[97, 47, 46, 119, 104, 46, 98]⟩, (@HAppend.hAppend ByteArray ByteArray ByteArray _ M0 ⟨#[46, 46]⟩), M1, (@HAppend.hAppend ByteArray ByteArray ByteArray _ ⟨#[97, 47]⟩ M2)] : List ByteArray), checkNo x.data.toList = 8 ∧ x.size ≤ 1048576 := by
    rw [eM0, eM1, eM2]
    decide +kernel
  have Fx := Lib.hid fx
  clear fx
  have fy : ∀ x ∈ ([(@HAppend.hAppend ByteArray ByteArray ByteArray _ (@HAppend.hAppend ByteArray ByteArray ByteArray _ (@HAppend.hAppend ByteArray ByteArray ByteArray _ (@HAppend.hAppend ByteArray ByteArray ByteArray _ M3 ⟨#[47]⟩) M4) ⟨#[47]⟩) M5), (@HAppend.hAppend ByteArray ByteArray ByteArray _ M6 ⟨#[97]⟩), (@HAppend.hAppend ByteArray ByteArray ByteArray _ (@HAppend.hAppend ByteArray ByteArray ByteArray _ (@HAppend.hAppend ByteArray ByteArray ByteArray _ (@HAppend.hAppend ByteArray ByteArray ByteArray _ M7 ⟨#[47]⟩) M4) ⟨#[47]⟩) M7), (@HAppend.hAppend ByteArray ByteArray ByteArray _ (@HAppend.hAppend ByteArray ByteArray ByteArray _ (@HAppend.hAppend ByteArray ByteArray ByteArray _ (@HAppend.hAppend ByteArray ByteArray ByteArray _ M7 ⟨#[47]⟩) M7) ⟨#[47]⟩) M7), (@HAppend.hAppend ByteArray ByteArray ByteArray _ (@HAppend.hAppend ByteArray ByteArray ByteArray _ (@HAppend.hAppend ByteArray ByteArray ByteArray _ (@HAppend.hAppend ByteArray ByteArray ByteArray _ (@HAppend.hAppend ByteArray ByteArray ByteArray _ M7 ⟨#[47]⟩) M8) ⟨#[47]⟩) M3) ⟨#[47, 97]⟩), (@HAppend.hAppend ByteArray ByteArray ByteArray _ (@HAppend.hAppend ByteArray ByteArray ByteArray _ (@HAppend.hAppend ByteArray ByteArray ByteArray _ (@HAppend.hAppend ByteArray ByteArray ByteArray _ (@HAppend.hAppend ByteArray ByteArray ByteArray _ (@HAppend.hAppend ByteArray ByteArray ByteArray _ M9 ⟨#[47]⟩) M10) ⟨#[47]⟩) M11) ⟨#[47]⟩) M12)] : List ByteArray), checkNo x.data.toList = 9 ∧ x.size ≤ 1048576 := by
    rw [eM10, eM11, eM12, eM3, eM4, eM5, eM6, eM7, eM8, eM9]
    decide +kernel
  have Fy := Lib.hid fy
  clear fy
  have q0 : ¬ 9223372036854775807 < 2 + M2.size := by omega
  have q1 : ¬ 9223372036854775807 < M0.size + 2 := by omega
  have q2 : ¬ 9223372036854775807 < M3.size + 1 := by omega
  have q3 : ¬ 9223372036854775807 < M3.size + 1 + M4.size := by omega
  have q4 : ¬ 9223372036854775807 < M3.size + 1 + M4.size + 1 := by omega
  have q5 : ¬ 9223372036854775807 < M3.size + 1 + M4.size + 1 + M5.size := by omega
  have q6 : ¬ 9223372036854775807 < M6.size + 1 := by omega
  have q7 : ¬ 9223372036854775807 < M7.size + 1 := by omega
  have q8 : ¬ 9223372036854775807 < M7.size + 1 + M4.size := by omega
  have q9 : ¬ 9223372036854775807 < M7.size + 1 + M4.size + 1 := by omega
  have q10 : ¬ 9223372036854775807 < M7.size + 1 + M4.size + 1 + M7.size := by omega
  have q11 : ¬ 9223372036854775807 < M7.size + 1 + M7.size := by omega
  have q12 : ¬ 9223372036854775807 < M7.size + 1 + M7.size + 1 := by omega
  have q13 : ¬ 9223372036854775807 < M7.size + 1 + M7.size + 1 + M7.size := by omega
  have q14 : ¬ 9223372036854775807 < M7.size + 1 + M8.size := by omega
  have q15 : ¬ 9223372036854775807 < M7.size + 1 + M8.size + 1 := by omega
  have q16 : ¬ 9223372036854775807 < M7.size + 1 + M8.size + 1 + M3.size := by omega
  have q17 : ¬ 9223372036854775807 < M7.size + 1 + M8.size + 1 + M3.size + 2 := by omega
  have q18 : ¬ 9223372036854775807 < M9.size + 1 := by omega
  have q19 : ¬ 9223372036854775807 < M9.size + 1 + M10.size := by omega
  have q20 : ¬ 9223372036854775807 < M9.size + 1 + M10.size + 1 := by omega
  have q21 : ¬ 9223372036854775807 < M9.size + 1 + M10.size + 1 + M11.size := by omega
  have q22 : ¬ 9223372036854775807 < M9.size + 1 + M10.size + 1 + M11.size + 1 := by omega
  have q23 : ¬ 9223372036854775807 < M9.size + 1 + M10.size + 1 + M11.size + 1 + M12.size := by omega
  have CM0 := Lib.hid cM0
  clear cM0 eM0
  have CM1 := Lib.hid cM1
  clear cM1 eM1
  have CM2 := Lib.hid cM2
  clear cM2 eM2
  have CM3 := Lib.hid cM3
  clear cM3 eM3
  have CM4 := Lib.hid cM4
  clear cM4 eM4
  have CM5 := Lib.hid cM5
  clear cM5 eM5
  have CM6 := Lib.hid cM6
  clear cM6 eM6
  have CM7 := Lib.hid cM7
  clear cM7 eM7
  have CM8 := Lib.hid cM8
  clear cM8 eM8
  have CM9 := Lib.hid cM9
  clear cM9 eM9
  have CM10 := Lib.hid cM10
  clear cM10 eM10
  have CM11 := Lib.hid cM11
  clear cM11 eM11
  have CM12 := Lib.hid cM12
  clear cM12 eM12
  have H0 := Lib.hid hg
  have B0 := Lib.hid (Below.refl w.heap.size w)
  clear hg
  go_enter Tryd.func36, Tryd.ntmps36
  go_wp2_with fail
  refine (CM0.out _).mono ?_
  rintro e w' ⟨rfl, rfl⟩
  go_wp2_with fail
  refine (CM1.out _).mono ?_
  rintro e w' ⟨rfl, rfl⟩
  go_wp2_with fail
  refine (CM2.out _).mono ?_
  rintro e w' ⟨rfl, rfl⟩
  go_wp2_with fail
  obtain ⟨Ax, hAx⟩ : ∃ x, x = World.alloc w (.cells #[.string ⟨#[97, 47, 47, 98]⟩, .string ⟨#[47, 97]⟩, .string ⟨#[97, 47]⟩, .string ⟨#[97, 47, 46, 46, 47, 98]⟩, .string ⟨#[97, 47, 46, 119, 104, 46, 98]⟩, .string (@HAppend.hAppend ByteArray ByteArray ByteArray _ M0 ⟨#[46, 46]⟩), .string M1, .string (@HAppend.hAppend ByteArray ByteArray ByteArray _ ⟨#[97, 47]⟩ M2)] 9) := ⟨_, rfl⟩
  rw [← hAx]
  have cellsAx : ∀ k x, ([⟨#[97, 47, 47, 98]⟩, ⟨#[47, 97]⟩, ⟨#[97, 47]⟩, ⟨#[97, 47, 46, 46, 47, 98]⟩, ⟨#[97, 47, 46, 119, 104, 46, 98]⟩, (@HAppend.hAppend ByteArray ByteArray ByteArray _ M0 ⟨#[46, 46]⟩), M1, (@HAppend.hAppend ByteArray ByteArray ByteArray _ ⟨#[97, 47]⟩ M2)] : List ByteArray)[k]? = some x → World.cell? Ax ⟨(World.heap w).size, k, none⟩ = some (.string x) := by rw [hAx]; exact rowCell w 9 [⟨#[97, 47, 47, 98]⟩, ⟨#[47, 97]⟩, ⟨#[97, 47]⟩, ⟨#[97, 47, 46, 46, 47, 98]⟩, ⟨#[97, 47, 46, 119, 104, 46, 98]⟩, (@HAppend.hAppend ByteArray ByteArray ByteArray _ M0 ⟨#[46, 46]⟩), M1, (@HAppend.hAppend ByteArray ByteArray ByteArray _ ⟨#[97, 47]⟩ M2)]
  have ltAx : (World.heap w).size < (World.heap Ax).size := by rw [hAx]; simp
  have BAx := Lib.hid (show Below w.heap.size w Ax by rw [hAx]; exact B0.out.alloc (B0.out.size) _)
  have HAx := Lib.hid (show Handle Ax by rw [hAx]; exact H0.out.alloc _)
  have CAx := Lib.hid cellsAx
  clear hAx cellsAx
  go_loopw [2] (fun iv wr => ∃ k : Nat, k ≤ 8 ∧ iv = .int .i64 k ∧ Below Ax.heap.size Ax wr) (fun iv _ => 8 - (intOf iv).toNat)
  case atStart => exact ⟨0, by omega, rfl, Below.refl _ _⟩
  case round =>
    obtain ⟨k, hk, rfl, hb⟩ := hrel
    have Hb := Lib.hid hb
    have hbs := hb.size
    clear hb
    by_cases hlt : (k : Int) < 8
    · obtain ⟨x, hx⟩ : ∃ x, ([⟨#[97, 47, 47, 98]⟩, ⟨#[47, 97]⟩, ⟨#[97, 47]⟩, ⟨#[97, 47, 46, 46, 47, 98]⟩, ⟨#[97, 47, 46, 119, 104, 46, 98]⟩, (@HAppend.hAppend ByteArray ByteArray ByteArray _ M0 ⟨#[46, 46]⟩), M1, (@HAppend.hAppend ByteArray ByteArray ByteArray _ ⟨#[97, 47]⟩ M2)] : List ByteArray)[k]? = some x := ⟨_, List.getElem?_eq_getElem (by simp; omega)⟩
      have hc : wr.cell? ⟨(World.heap w).size, k, none⟩ = some (.string x) := (Hb.out.cell (p := ⟨(World.heap w).size, k, none⟩) ltAx).trans (CAx.out k x hx)
      obtain ⟨hno, hxs⟩ := Fx.out x (List.mem_of_getElem? hx)
      have hn := fun W => check_any x W (by omega)
      rw [hno] at hn
      have Hn := Lib.hid hn
      clear hn hno hx
      have hw0 := Lib.hid (HAx.out.step Hb.out)
      have hp := fun W => plain_same 8 W (by decide)
      have Hp := Lib.hid hp
      clear hp
      go_wp2_with fail
      refine (Hn.out _).mono ?_
      rintro e w1 ⟨rfl, hb1⟩
      have Hb1 := Lib.hid (Hb.out.trans (hb1.mono Hb.out.size))
      have hw1 := Lib.hid (hw0.out.step hb1)
      clear hb1
      go_wp2_with fail
      refine (Hp.out _ hw1.out).mono ?_
      rintro e w2 ⟨rfl, hb2⟩
      have Hb2 := Lib.hid (Hb1.out.trans (hb2.mono Hb1.out.size))
      clear hb2
      go_wp2_with fail
      go_roundw
      case rel => exact ⟨k + 1, by omega, by go_num, Hb2.out⟩
      case measure => simp [intOf]; omega
    · obtain rfl : k = 8 := by omega
      have BAxe := Lib.hid (BAx.out.trans (Hb.out.mono BAx.out.size))
      have HAxe := Lib.hid (HAx.out.step Hb.out)
      clear Hb hk hlt hbs ltAx
      clear BAx HAx CAx
      obtain ⟨woAx, hwo⟩ : ∃ x, x = wr := ⟨_, rfl⟩
      subst hwo
      go_wp2_with fail
      refine (CM7.out _).mono ?_
      rintro e w' ⟨rfl, rfl⟩
      go_wp2_with fail
      refine (CM3.out _).mono ?_
      rintro e w' ⟨rfl, rfl⟩
      go_wp2_with fail
      refine (CM4.out _).mono ?_
      rintro e w' ⟨rfl, rfl⟩
      go_wp2_with fail
      refine (CM5.out _).mono ?_
      rintro e w' ⟨rfl, rfl⟩
      go_wp2_with fail
      refine (CM6.out _).mono ?_
      rintro e w' ⟨rfl, rfl⟩
      go_wp2_with fail
      refine (CM4.out _).mono ?_
      rintro e w' ⟨rfl, rfl⟩
      go_wp2_with fail
      refine (CM8.out _).mono ?_
      rintro e w' ⟨rfl, rfl⟩
      go_wp2_with fail
      refine (CM3.out _).mono ?_
      rintro e w' ⟨rfl, rfl⟩
      go_wp2_with fail
      refine (CM9.out _).mono ?_
      rintro e w' ⟨rfl, rfl⟩
      go_wp2_with fail
      refine (CM10.out _).mono ?_
      rintro e w' ⟨rfl, rfl⟩
      go_wp2_with fail
      refine (CM11.out _).mono ?_
      rintro e w' ⟨rfl, rfl⟩
      go_wp2_with fail
      refine (CM12.out _).mono ?_
      rintro e w' ⟨rfl, rfl⟩
      go_wp2_with fail
      obtain ⟨Ay, hAy⟩ : ∃ x, x = World.alloc woAx (.cells #[.string (@HAppend.hAppend ByteArray ByteArray ByteArray _ (@HAppend.hAppend ByteArray ByteArray ByteArray _ (@HAppend.hAppend ByteArray ByteArray ByteArray _ (@HAppend.hAppend ByteArray ByteArray ByteArray _ M3 ⟨#[47]⟩) M4) ⟨#[47]⟩) M5), .string (@HAppend.hAppend ByteArray ByteArray ByteArray _ M6 ⟨#[97]⟩), .string (@HAppend.hAppend ByteArray ByteArray ByteArray _ (@HAppend.hAppend ByteArray ByteArray ByteArray _ (@HAppend.hAppend ByteArray ByteArray ByteArray _ (@HAppend.hAppend ByteArray ByteArray ByteArray _ M7 ⟨#[47]⟩) M4) ⟨#[47]⟩) M7), .string (@HAppend.hAppend ByteArray ByteArray ByteArray _ (@HAppend.hAppend ByteArray ByteArray ByteArray _ (@HAppend.hAppend ByteArray ByteArray ByteArray _ (@HAppend.hAppend ByteArray ByteArray ByteArray _ M7 ⟨#[47]⟩) M7) ⟨#[47]⟩) M7), .string (@HAppend.hAppend ByteArray ByteArray ByteArray _ (@HAppend.hAppend ByteArray ByteArray ByteArray _ (@HAppend.hAppend ByteArray ByteArray ByteArray _ (@HAppend.hAppend ByteArray ByteArray ByteArray _ (@HAppend.hAppend ByteArray ByteArray ByteArray _ M7 ⟨#[47]⟩) M8) ⟨#[47]⟩) M3) ⟨#[47, 97]⟩), .string (@HAppend.hAppend ByteArray ByteArray ByteArray _ (@HAppend.hAppend ByteArray ByteArray ByteArray _ (@HAppend.hAppend ByteArray ByteArray ByteArray _ (@HAppend.hAppend ByteArray ByteArray ByteArray _ (@HAppend.hAppend ByteArray ByteArray ByteArray _ (@HAppend.hAppend ByteArray ByteArray ByteArray _ M9 ⟨#[47]⟩) M10) ⟨#[47]⟩) M11) ⟨#[47]⟩) M12)] 9) := ⟨_, rfl⟩
      rw [← hAy]
      have cellsAy : ∀ k x, ([(@HAppend.hAppend ByteArray ByteArray ByteArray _ (@HAppend.hAppend ByteArray ByteArray ByteArray _ (@HAppend.hAppend ByteArray ByteArray ByteArray _ (@HAppend.hAppend ByteArray ByteArray ByteArray _ M3 ⟨#[47]⟩) M4) ⟨#[47]⟩) M5), (@HAppend.hAppend ByteArray ByteArray ByteArray _ M6 ⟨#[97]⟩), (@HAppend.hAppend ByteArray ByteArray ByteArray _ (@HAppend.hAppend ByteArray ByteArray ByteArray _ (@HAppend.hAppend ByteArray ByteArray ByteArray _ (@HAppend.hAppend ByteArray ByteArray ByteArray _ M7 ⟨#[47]⟩) M4) ⟨#[47]⟩) M7), (@HAppend.hAppend ByteArray ByteArray ByteArray _ (@HAppend.hAppend ByteArray ByteArray ByteArray _ (@HAppend.hAppend ByteArray ByteArray ByteArray _ (@HAppend.hAppend ByteArray ByteArray ByteArray _ M7 ⟨#[47]⟩) M7) ⟨#[47]⟩) M7), (@HAppend.hAppend ByteArray ByteArray ByteArray _ (@HAppend.hAppend ByteArray ByteArray ByteArray _ (@HAppend.hAppend ByteArray ByteArray ByteArray _ (@HAppend.hAppend ByteArray ByteArray ByteArray _ (@HAppend.hAppend ByteArray ByteArray ByteArray _ M7 ⟨#[47]⟩) M8) ⟨#[47]⟩) M3) ⟨#[47, 97]⟩), (@HAppend.hAppend ByteArray ByteArray ByteArray _ (@HAppend.hAppend ByteArray ByteArray ByteArray _ (@HAppend.hAppend ByteArray ByteArray ByteArray _ (@HAppend.hAppend ByteArray ByteArray ByteArray _ (@HAppend.hAppend ByteArray ByteArray ByteArray _ (@HAppend.hAppend ByteArray ByteArray ByteArray _ M9 ⟨#[47]⟩) M10) ⟨#[47]⟩) M11) ⟨#[47]⟩) M12)] : List ByteArray)[k]? = some x → World.cell? Ay ⟨(World.heap woAx).size, k, none⟩ = some (.string x) := by rw [hAy]; exact rowCell woAx 9 [(@HAppend.hAppend ByteArray ByteArray ByteArray _ (@HAppend.hAppend ByteArray ByteArray ByteArray _ (@HAppend.hAppend ByteArray ByteArray ByteArray _ (@HAppend.hAppend ByteArray ByteArray ByteArray _ M3 ⟨#[47]⟩) M4) ⟨#[47]⟩) M5), (@HAppend.hAppend ByteArray ByteArray ByteArray _ M6 ⟨#[97]⟩), (@HAppend.hAppend ByteArray ByteArray ByteArray _ (@HAppend.hAppend ByteArray ByteArray ByteArray _ (@HAppend.hAppend ByteArray ByteArray ByteArray _ (@HAppend.hAppend ByteArray ByteArray ByteArray _ M7 ⟨#[47]⟩) M4) ⟨#[47]⟩) M7), (@HAppend.hAppend ByteArray ByteArray ByteArray _ (@HAppend.hAppend ByteArray ByteArray ByteArray _ (@HAppend.hAppend ByteArray ByteArray ByteArray _ (@HAppend.hAppend ByteArray ByteArray ByteArray _ M7 ⟨#[47]⟩) M7) ⟨#[47]⟩) M7), (@HAppend.hAppend ByteArray ByteArray ByteArray _ (@HAppend.hAppend ByteArray ByteArray ByteArray _ (@HAppend.hAppend ByteArray ByteArray ByteArray _ (@HAppend.hAppend ByteArray ByteArray ByteArray _ (@HAppend.hAppend ByteArray ByteArray ByteArray _ M7 ⟨#[47]⟩) M8) ⟨#[47]⟩) M3) ⟨#[47, 97]⟩), (@HAppend.hAppend ByteArray ByteArray ByteArray _ (@HAppend.hAppend ByteArray ByteArray ByteArray _ (@HAppend.hAppend ByteArray ByteArray ByteArray _ (@HAppend.hAppend ByteArray ByteArray ByteArray _ (@HAppend.hAppend ByteArray ByteArray ByteArray _ (@HAppend.hAppend ByteArray ByteArray ByteArray _ M9 ⟨#[47]⟩) M10) ⟨#[47]⟩) M11) ⟨#[47]⟩) M12)]
      have ltAy : (World.heap woAx).size < (World.heap Ay).size := by rw [hAy]; simp
      have BAy := Lib.hid (show Below w.heap.size w Ay by rw [hAy]; exact BAxe.out.alloc (BAxe.out.size) _)
      have HAy := Lib.hid (show Handle Ay by rw [hAy]; exact HAxe.out.alloc _)
      have CAy := Lib.hid cellsAy
      clear hAy cellsAy
      go_loopw [5] (fun iv wr => ∃ k : Nat, k ≤ 6 ∧ iv = .int .i64 k ∧ Below Ay.heap.size Ay wr) (fun iv _ => 6 - (intOf iv).toNat)
      case atStart => exact ⟨0, by omega, rfl, Below.refl _ _⟩
      case round =>
        obtain ⟨k, hk, rfl, hb⟩ := hrel
        have Hb := Lib.hid hb
        have hbs := hb.size
        clear hb
        by_cases hlt : (k : Int) < 6
        · obtain ⟨x, hx⟩ : ∃ x, ([(@HAppend.hAppend ByteArray ByteArray ByteArray _ (@HAppend.hAppend ByteArray ByteArray ByteArray _ (@HAppend.hAppend ByteArray ByteArray ByteArray _ (@HAppend.hAppend ByteArray ByteArray ByteArray _ M3 ⟨#[47]⟩) M4) ⟨#[47]⟩) M5), (@HAppend.hAppend ByteArray ByteArray ByteArray _ M6 ⟨#[97]⟩), (@HAppend.hAppend ByteArray ByteArray ByteArray _ (@HAppend.hAppend ByteArray ByteArray ByteArray _ (@HAppend.hAppend ByteArray ByteArray ByteArray _ (@HAppend.hAppend ByteArray ByteArray ByteArray _ M7 ⟨#[47]⟩) M4) ⟨#[47]⟩) M7), (@HAppend.hAppend ByteArray ByteArray ByteArray _ (@HAppend.hAppend ByteArray ByteArray ByteArray _ (@HAppend.hAppend ByteArray ByteArray ByteArray _ (@HAppend.hAppend ByteArray ByteArray ByteArray _ M7 ⟨#[47]⟩) M7) ⟨#[47]⟩) M7), (@HAppend.hAppend ByteArray ByteArray ByteArray _ (@HAppend.hAppend ByteArray ByteArray ByteArray _ (@HAppend.hAppend ByteArray ByteArray ByteArray _ (@HAppend.hAppend ByteArray ByteArray ByteArray _ (@HAppend.hAppend ByteArray ByteArray ByteArray _ M7 ⟨#[47]⟩) M8) ⟨#[47]⟩) M3) ⟨#[47, 97]⟩), (@HAppend.hAppend ByteArray ByteArray ByteArray _ (@HAppend.hAppend ByteArray ByteArray ByteArray _ (@HAppend.hAppend ByteArray ByteArray ByteArray _ (@HAppend.hAppend ByteArray ByteArray ByteArray _ (@HAppend.hAppend ByteArray ByteArray ByteArray _ (@HAppend.hAppend ByteArray ByteArray ByteArray _ M9 ⟨#[47]⟩) M10) ⟨#[47]⟩) M11) ⟨#[47]⟩) M12)] : List ByteArray)[k]? = some x := ⟨_, List.getElem?_eq_getElem (by simp; omega)⟩
          have hc : wr.cell? ⟨(World.heap woAx).size, k, none⟩ = some (.string x) := (Hb.out.cell (p := ⟨(World.heap woAx).size, k, none⟩) ltAy).trans (CAy.out k x hx)
          obtain ⟨hno, hxs⟩ := Fy.out x (List.mem_of_getElem? hx)
          have hn := fun W => check_any x W (by omega)
          rw [hno] at hn
          have Hn := Lib.hid hn
          clear hn hno hx
          have hw0 := Lib.hid (HAy.out.step Hb.out)
          have hp := fun W => plain_same 9 W (by decide)
          have Hp := Lib.hid hp
          clear hp
          go_wp2_with fail
          refine (Hn.out _).mono ?_
          rintro e w1 ⟨rfl, hb1⟩
          have Hb1 := Lib.hid (Hb.out.trans (hb1.mono Hb.out.size))
          have hw1 := Lib.hid (hw0.out.step hb1)
          clear hb1
          go_wp2_with fail
          refine (Hp.out _ hw1.out).mono ?_
          rintro e w2 ⟨rfl, hb2⟩
          have Hb2 := Lib.hid (Hb1.out.trans (hb2.mono Hb1.out.size))
          clear hb2
          go_wp2_with fail
          go_roundw
          case rel => exact ⟨k + 1, by omega, by go_num, Hb2.out⟩
          case measure => simp [intOf]; omega
        · obtain rfl : k = 6 := by omega
          have BAye := Lib.hid (BAy.out.trans (Hb.out.mono BAy.out.size))
          have HAye := Lib.hid (HAy.out.step Hb.out)
          clear Hb hk hlt hbs ltAy
          clear BAy HAy CAy
          obtain ⟨woAy, hwo⟩ : ∃ x, x = wr := ⟨_, rfl⟩
          subst hwo
          have c15 : ∀ W, Calls Tryd.prog 16 #[.string ⟨#[]⟩] W fun e w' => e = .returned (errV 15) ∧ Below W.heap.size W w' := by
            intro W
            have h := check_any ⟨#[]⟩ W (by decide)
            rw [show checkNo (⟨#[]⟩ : ByteArray).data.toList = 15 from by decide] at h
            exact h
          have C15 := Lib.hid c15
          clear c15
          have P15 := Lib.hid (fun W => plain_same 15 W (by decide))
          go_wp2_with fail
          refine (C15.out _).mono ?_
          rintro e v1 ⟨rfl, hb⟩
          have Bv1 := Lib.hid (BAye.out.trans (hb.mono BAye.out.size))
          have Hv1 := Lib.hid (HAye.out.step hb)
          clear hb
          go_wp2_with fail
          refine (P15.out _ Hv1.out).mono ?_
          rintro e v2 ⟨rfl, hb⟩
          have Bv2 := Lib.hid (Bv1.out.trans (hb.mono Bv1.out.size))
          have Hv2 := Lib.hid (Hv1.out.step hb)
          clear hb
          go_wp2_with fail
          go_ret
          exact ⟨rfl, Bv2.out⟩
end Go.Proofs.YtknhjoikoodapaaDoor
