/- The walk of PathKnown. -/
import Derived.Test.YtknhjoikoodapaaDoorKnownA
import Derived.Test.YtknhjoikoodapaaDoorKnownB
import Derived.Test.YtknhjoikoodapaaDoorKnownC
set_option linter.unusedSimpArgs false
set_option linter.unusedVariables false
namespace Go.Proofs.YtknhjoikoodapaaDoor
open Go.RowKit
open Go.Lib hiding intOf

set_option maxRecDepth 100000 in
set_option maxHeartbeats 8000000 in
theorem pathKnown_any (w : World) (hg : Handle w) : Calls Tryd.prog 11 #[] w fun e w' => e = .returned (.bool true) ∧ Below w.heap.size w w' := by
  obtain ⟨M0, eM0⟩ : ∃ x, x = bs (manyP [97] 96) := ⟨_, rfl⟩
  have zM0 : M0.size = 96 := by rw [eM0, bs_size, manyP_length]; rfl
  have cM0 : ∀ W, Calls Tryd.prog 35 #[.string ⟨#[97]⟩, .int .i64 96] W fun e w' => e = .returned (.string M0) ∧ W = w' := by
    intro W
    have h := many_any ⟨#[97]⟩ 96 W (by decide) (by decide)
    rw [show (bs (manyP (⟨#[97]⟩ : ByteArray).data.toList 96)) = M0 from eM0.symm] at h
    exact h
  obtain ⟨M1, eM1⟩ : ∃ x, x = bs (manyP [97] 97) := ⟨_, rfl⟩
  have zM1 : M1.size = 97 := by rw [eM1, bs_size, manyP_length]; rfl
  have cM1 : ∀ W, Calls Tryd.prog 35 #[.string ⟨#[97]⟩, .int .i64 97] W fun e w' => e = .returned (.string M1) ∧ W = w' := by
    intro W
    have h := many_any ⟨#[97]⟩ 97 W (by decide) (by decide)
    rw [show (bs (manyP (⟨#[97]⟩ : ByteArray).data.toList 97)) = M1 from eM1.symm] at h
    exact h
  obtain ⟨M2, eM2⟩ : ∃ x, x = bs (manyP [97, 47] 31) := ⟨_, rfl⟩
  have zM2 : M2.size = 62 := by rw [eM2, bs_size, manyP_length]; rfl
  have cM2 : ∀ W, Calls Tryd.prog 35 #[.string ⟨#[97, 47]⟩, .int .i64 31] W fun e w' => e = .returned (.string M2) ∧ W = w' := by
    intro W
    have h := many_any ⟨#[97, 47]⟩ 31 W (by decide) (by decide)
    rw [show (bs (manyP (⟨#[97, 47]⟩ : ByteArray).data.toList 31)) = M2 from eM2.symm] at h
    exact h
  obtain ⟨M3, eM3⟩ : ∃ x, x = bs (manyP [98] 96) := ⟨_, rfl⟩
  have zM3 : M3.size = 96 := by rw [eM3, bs_size, manyP_length]; rfl
  have cM3 : ∀ W, Calls Tryd.prog 35 #[.string ⟨#[98]⟩, .int .i64 96] W fun e w' => e = .returned (.string M3) ∧ W = w' := by
    intro W
    have h := many_any ⟨#[98]⟩ 96 W (by decide) (by decide)
    rw [show (bs (manyP (⟨#[98]⟩ : ByteArray).data.toList 96)) = M3 from eM3.symm] at h
    exact h
  obtain ⟨M4, eM4⟩ : ∃ x, x = bs (manyP [98] 60) := ⟨_, rfl⟩
  have zM4 : M4.size = 60 := by rw [eM4, bs_size, manyP_length]; rfl
  have cM4 : ∀ W, Calls Tryd.prog 35 #[.string ⟨#[98]⟩, .int .i64 60] W fun e w' => e = .returned (.string M4) ∧ W = w' := by
    intro W
    have h := many_any ⟨#[98]⟩ 60 W (by decide) (by decide)
    rw [show (bs (manyP (⟨#[98]⟩ : ByteArray).data.toList 60)) = M4 from eM4.symm] at h
    exact h
  obtain ⟨M5, eM5⟩ : ∃ x, x = bs (manyP [97] 94) := ⟨_, rfl⟩
  have zM5 : M5.size = 94 := by rw [eM5, bs_size, manyP_length]; rfl
  have cM5 : ∀ W, Calls Tryd.prog 35 #[.string ⟨#[97]⟩, .int .i64 94] W fun e w' => e = .returned (.string M5) ∧ W = w' := by
    intro W
    have h := many_any ⟨#[97]⟩ 94 W (by decide) (by decide)
    rw [show (bs (manyP (⟨#[97]⟩ : ByteArray).data.toList 94)) = M5 from eM5.symm] at h
    exact h
  obtain ⟨M6, eM6⟩ : ∃ x, x = bs (manyP [99] 96) := ⟨_, rfl⟩
  have zM6 : M6.size = 96 := by rw [eM6, bs_size, manyP_length]; rfl
  have cM6 : ∀ W, Calls Tryd.prog 35 #[.string ⟨#[99]⟩, .int .i64 96] W fun e w' => e = .returned (.string M6) ∧ W = w' := by
    intro W
    have h := many_any ⟨#[99]⟩ 96 W (by decide) (by decide)
    rw [show (bs (manyP (⟨#[99]⟩ : ByteArray).data.toList 96)) = M6 from eM6.symm] at h
    exact h
  obtain ⟨M7, eM7⟩ : ∃ x, x = bs (manyP [99] 38) := ⟨_, rfl⟩
  have zM7 : M7.size = 38 := by rw [eM7, bs_size, manyP_length]; rfl
  have cM7 : ∀ W, Calls Tryd.prog 35 #[.string ⟨#[99]⟩, .int .i64 38] W fun e w' => e = .returned (.string M7) ∧ W = w' := by
    intro W
    have h := many_any ⟨#[99]⟩ 38 W (by decide) (by decide)
    rw [show (bs (manyP (⟨#[99]⟩ : ByteArray).data.toList 38)) = M7 from eM7.symm] at h
    exact h
  have fx : ∀ x ∈ ([⟨#[97]⟩, ⟨#[46, 46, 46]⟩, ⟨#[46, 119, 104]⟩, M0, ⟨#[97, 46, 119, 104, 46]⟩, ⟨#[255]⟩, ⟨#[32]⟩] : List ByteArray), nameNo x.data.toList = 0 ∧ x.size ≤ 1048576 := by
    rw [eM0]
    decide +kernel
  have Fx := Lib.hid fx
  clear fx
  have fy : ∀ x ∈ ([⟨#[]⟩, ⟨#[46]⟩, ⟨#[46, 46]⟩, ⟨#[97, 47, 98]⟩, ⟨#[46, 119, 104, 46]⟩, ⟨#[46, 119, 104, 46, 97]⟩, ⟨#[97, 0]⟩, M1, ⟨#[47]⟩] : List ByteArray), nameNo x.data.toList = 8 ∧ x.size ≤ 1048576 := by
    rw [eM1]
    decide +kernel
  have Fy := Lib.hid fy
  clear fy
  have fz : ∀ x ∈ ([⟨#[97]⟩, (@HAppend.hAppend ByteArray ByteArray ByteArray _ M2 ⟨#[97]⟩), (@HAppend.hAppend ByteArray ByteArray ByteArray _ (@HAppend.hAppend ByteArray ByteArray ByteArray _ M0 ⟨#[47]⟩) M0), (@HAppend.hAppend ByteArray ByteArray ByteArray _ ⟨#[97, 47]⟩ M3), (@HAppend.hAppend ByteArray ByteArray ByteArray _ (@HAppend.hAppend ByteArray ByteArray ByteArray _ (@HAppend.hAppend ByteArray ByteArray ByteArray _ (@HAppend.hAppend ByteArray ByteArray ByteArray _ M4 ⟨#[47]⟩) M4) ⟨#[47]⟩) M4), (@HAppend.hAppend ByteArray ByteArray ByteArray _ (@HAppend.hAppend ByteArray ByteArray ByteArray _ (@HAppend.hAppend ByteArray ByteArray ByteArray _ (@HAppend.hAppend ByteArray ByteArray ByteArray _ M5 ⟨#[47]⟩) M4) ⟨#[47]⟩) M6), (@HAppend.hAppend ByteArray ByteArray ByteArray _ (@HAppend.hAppend ByteArray ByteArray ByteArray _ (@HAppend.hAppend ByteArray ByteArray ByteArray _ (@HAppend.hAppend ByteArray ByteArray ByteArray _ M5 ⟨#[47]⟩) M4) ⟨#[47]⟩) M7)] : List ByteArray), checkNo x.data.toList = 0 ∧ x.size ≤ 1048576 := by
    rw [eM0, eM2, eM3, eM4, eM5, eM6, eM7]
    decide +kernel
  have Fz := Lib.hid fz
  clear fz
  have q0 : ¬ 9223372036854775807 < 2 + M3.size := by omega
  have q1 : ¬ 9223372036854775807 < M0.size + 1 := by omega
  have q2 : ¬ 9223372036854775807 < M0.size + 1 + M0.size := by omega
  have q3 : ¬ 9223372036854775807 < M2.size + 1 := by omega
  have q4 : ¬ 9223372036854775807 < M4.size + 1 := by omega
  have q5 : ¬ 9223372036854775807 < M4.size + 1 + M4.size := by omega
  have q6 : ¬ 9223372036854775807 < M4.size + 1 + M4.size + 1 := by omega
  have q7 : ¬ 9223372036854775807 < M4.size + 1 + M4.size + 1 + M4.size := by omega
  have q8 : ¬ 9223372036854775807 < M5.size + 1 := by omega
  have q9 : ¬ 9223372036854775807 < M5.size + 1 + M4.size := by omega
  have q10 : ¬ 9223372036854775807 < M5.size + 1 + M4.size + 1 := by omega
  have q11 : ¬ 9223372036854775807 < M5.size + 1 + M4.size + 1 + M6.size := by omega
  have q12 : ¬ 9223372036854775807 < M5.size + 1 + M4.size + 1 + M7.size := by omega
  have CM0 := Lib.hid cM0
  clear cM0 eM0
  have CM1 := Lib.hid cM1
  clear cM1 eM1
  have CM2 := Lib.hid cM2
  clear cM2 eM2
  have CM3 := Lib.hid cM3
  clear cM3 eM3
  have CM4 := Lib.hid cM4
  clear cM4 eM4
  have CM5 := Lib.hid cM5
  clear cM5 eM5
  have CM6 := Lib.hid cM6
  clear cM6 eM6
  have CM7 := Lib.hid cM7
  clear cM7 eM7
  have H0 := Lib.hid hg
  have B0 := Lib.hid (Below.refl w.heap.size w)
  clear hg
  go_enter Tryd.func11, Tryd.ntmps11
  go_wp2_with fail
  refine (CM0.out _).mono ?_
  rintro e w' ⟨rfl, rfl⟩
  go_wp2_with fail
  obtain ⟨Ax, hAx⟩ : ∃ x, x = World.alloc w (.cells #[.string ⟨#[97]⟩, .string ⟨#[46, 46, 46]⟩, .string ⟨#[46, 119, 104]⟩, .string M0, .string ⟨#[97, 46, 119, 104, 46]⟩, .string ⟨#[255]⟩, .string ⟨#[32]⟩] 9) := ⟨_, rfl⟩
  rw [← hAx]
  have cellsAx : ∀ k x, ([⟨#[97]⟩, ⟨#[46, 46, 46]⟩, ⟨#[46, 119, 104]⟩, M0, ⟨#[97, 46, 119, 104, 46]⟩, ⟨#[255]⟩, ⟨#[32]⟩] : List ByteArray)[k]? = some x → World.cell? Ax ⟨(World.heap w).size, k, none⟩ = some (.string x) := by rw [hAx]; exact rowCell w 9 [⟨#[97]⟩, ⟨#[46, 46, 46]⟩, ⟨#[46, 119, 104]⟩, M0, ⟨#[97, 46, 119, 104, 46]⟩, ⟨#[255]⟩, ⟨#[32]⟩]
  have ltAx : (World.heap w).size < (World.heap Ax).size := by rw [hAx]; simp
  have BAx := Lib.hid (show Below w.heap.size w Ax by rw [hAx]; exact B0.out.alloc (B0.out.size) _)
  have HAx := Lib.hid (show Handle Ax by rw [hAx]; exact H0.out.alloc _)
  have CAx := Lib.hid cellsAx
  clear hAx cellsAx
  go_loopw [2] (fun iv wr => ∃ k : Nat, k ≤ 7 ∧ iv = .int .i64 k ∧ Below Ax.heap.size Ax wr) (fun iv _ => 7 - (intOf iv).toNat)
  case atStart => exact ⟨0, by omega, rfl, Below.refl _ _⟩
  case round =>
    obtain ⟨k, hk, rfl, hb⟩ := hrel
    have Hb := Lib.hid hb
    have hbs := hb.size
    clear hb
    by_cases hlt : (k : Int) < 7
    · obtain ⟨x, hx⟩ : ∃ x, ([⟨#[97]⟩, ⟨#[46, 46, 46]⟩, ⟨#[46, 119, 104]⟩, M0, ⟨#[97, 46, 119, 104, 46]⟩, ⟨#[255]⟩, ⟨#[32]⟩] : List ByteArray)[k]? = some x := ⟨_, List.getElem?_eq_getElem (by simp; omega)⟩
      have hc : wr.cell? ⟨(World.heap w).size, k, none⟩ = some (.string x) := (Hb.out.cell (p := ⟨(World.heap w).size, k, none⟩) ltAx).trans (CAx.out k x hx)
      obtain ⟨hno, hxs⟩ := Fx.out x (List.mem_of_getElem? hx)
      have hn := fun W => name_any x W (by omega)
      rw [hno] at hn
      rw [show errV 0 = .nilIface from rfl] at hn
      have Hn := Lib.hid hn
      clear hn hno hx
      have hw0 := Lib.hid (HAx.out.step Hb.out)
      go_wp2_with fail
      refine (Hn.out _).mono ?_
      rintro e w1 ⟨rfl, hb1⟩
      have Hb1 := Lib.hid (Hb.out.trans (hb1.mono Hb.out.size))
      clear hb1
      go_wp2_with fail
      go_roundw
      case rel => exact ⟨k + 1, by omega, by go_num, Hb1.out⟩
      case measure => simp [intOf]; omega
    · obtain rfl : k = 7 := by omega
      have BAxe := Lib.hid (BAx.out.trans (Hb.out.mono BAx.out.size))
      have HAxe := Lib.hid (HAx.out.step Hb.out)
      clear Hb hk hlt hbs ltAx
      clear BAx HAx CAx
      obtain ⟨woAx, hwo⟩ : ∃ x, x = wr := ⟨_, rfl⟩
      subst hwo
      go_wp2_with fail
      refine (CM1.out _).mono ?_
      rintro e w' ⟨rfl, rfl⟩
      go_wp2_with fail
      obtain ⟨Ay, hAy⟩ : ∃ x, x = World.alloc woAx (.cells #[.string ⟨#[]⟩, .string ⟨#[46]⟩, .string ⟨#[46, 46]⟩, .string ⟨#[97, 47, 98]⟩, .string ⟨#[46, 119, 104, 46]⟩, .string ⟨#[46, 119, 104, 46, 97]⟩, .string ⟨#[97, 0]⟩, .string M1, .string ⟨#[47]⟩] 9) := ⟨_, rfl⟩
      rw [← hAy]
      have cellsAy : ∀ k x, ([⟨#[]⟩, ⟨#[46]⟩, ⟨#[46, 46]⟩, ⟨#[97, 47, 98]⟩, ⟨#[46, 119, 104, 46]⟩, ⟨#[46, 119, 104, 46, 97]⟩, ⟨#[97, 0]⟩, M1, ⟨#[47]⟩] : List ByteArray)[k]? = some x → World.cell? Ay ⟨(World.heap woAx).size, k, none⟩ = some (.string x) := by rw [hAy]; exact rowCell woAx 9 [⟨#[]⟩, ⟨#[46]⟩, ⟨#[46, 46]⟩, ⟨#[97, 47, 98]⟩, ⟨#[46, 119, 104, 46]⟩, ⟨#[46, 119, 104, 46, 97]⟩, ⟨#[97, 0]⟩, M1, ⟨#[47]⟩]
      have ltAy : (World.heap woAx).size < (World.heap Ay).size := by rw [hAy]; simp
      have BAy := Lib.hid (show Below w.heap.size w Ay by rw [hAy]; exact BAxe.out.alloc (BAxe.out.size) _)
      have HAy := Lib.hid (show Handle Ay by rw [hAy]; exact HAxe.out.alloc _)
      have CAy := Lib.hid cellsAy
      clear hAy cellsAy
      go_loopw [4] (fun iv wr => ∃ k : Nat, k ≤ 9 ∧ iv = .int .i64 k ∧ Below Ay.heap.size Ay wr) (fun iv _ => 9 - (intOf iv).toNat)
      case atStart => exact ⟨0, by omega, rfl, Below.refl _ _⟩
      case round =>
        obtain ⟨k, hk, rfl, hb⟩ := hrel
        have Hb := Lib.hid hb
        have hbs := hb.size
        clear hb
        by_cases hlt : (k : Int) < 9
        · obtain ⟨x, hx⟩ : ∃ x, ([⟨#[]⟩, ⟨#[46]⟩, ⟨#[46, 46]⟩, ⟨#[97, 47, 98]⟩, ⟨#[46, 119, 104, 46]⟩, ⟨#[46, 119, 104, 46, 97]⟩, ⟨#[97, 0]⟩, M1, ⟨#[47]⟩] : List ByteArray)[k]? = some x := ⟨_, List.getElem?_eq_getElem (by simp; omega)⟩
          have hc : wr.cell? ⟨(World.heap woAx).size, k, none⟩ = some (.string x) := (Hb.out.cell (p := ⟨(World.heap woAx).size, k, none⟩) ltAy).trans (CAy.out k x hx)
          obtain ⟨hno, hxs⟩ := Fy.out x (List.mem_of_getElem? hx)
          have hn := fun W => name_any x W (by omega)
          rw [hno] at hn
          have Hn := Lib.hid hn
          clear hn hno hx
          have hw0 := Lib.hid (HAy.out.step Hb.out)
          have hp := fun W => plain_same 8 W (by decide)
          have Hp := Lib.hid hp
          clear hp
          go_wp2_with fail
          refine (Hn.out _).mono ?_
          rintro e w1 ⟨rfl, hb1⟩
          have Hb1 := Lib.hid (Hb.out.trans (hb1.mono Hb.out.size))
          have hw1 := Lib.hid (hw0.out.step hb1)
          clear hb1
          go_wp2_with fail
          refine (Hp.out _ hw1.out).mono ?_
          rintro e w2 ⟨rfl, hb2⟩
          have Hb2 := Lib.hid (Hb1.out.trans (hb2.mono Hb1.out.size))
          clear hb2
          go_wp2_with fail
          go_roundw
          case rel => exact ⟨k + 1, by omega, by go_num, Hb2.out⟩
          case measure => simp [intOf]; omega
        · obtain rfl : k = 9 := by omega
          have BAye := Lib.hid (BAy.out.trans (Hb.out.mono BAy.out.size))
          have HAye := Lib.hid (HAy.out.step Hb.out)
          clear Hb hk hlt hbs ltAy
          clear BAy HAy CAy
          obtain ⟨woAy, hwo⟩ : ∃ x, x = wr := ⟨_, rfl⟩
          subst hwo
          go_wp2_with fail
          refine (CM4.out _).mono ?_
          rintro e w' ⟨rfl, rfl⟩
          go_wp2_with fail
          refine (CM2.out _).mono ?_
          rintro e w' ⟨rfl, rfl⟩
          go_wp2_with fail
          refine (CM0.out _).mono ?_
          rintro e w' ⟨rfl, rfl⟩
          go_wp2_with fail
          refine (CM0.out _).mono ?_
          rintro e w' ⟨rfl, rfl⟩
          go_wp2_with fail
          refine (CM3.out _).mono ?_
          rintro e w' ⟨rfl, rfl⟩
          go_wp2_with fail
          refine (CM5.out _).mono ?_
          rintro e w' ⟨rfl, rfl⟩
          go_wp2_with fail
          refine (CM6.out _).mono ?_
          rintro e w' ⟨rfl, rfl⟩
          go_wp2_with fail
          refine (CM5.out _).mono ?_
          rintro e w' ⟨rfl, rfl⟩
          go_wp2_with fail
          refine (CM7.out _).mono ?_
          rintro e w' ⟨rfl, rfl⟩
          go_wp2_with fail
          obtain ⟨Az, hAz⟩ : ∃ x, x = World.alloc woAy (.cells #[.string ⟨#[97]⟩, .string (@HAppend.hAppend ByteArray ByteArray ByteArray _ M2 ⟨#[97]⟩), .string (@HAppend.hAppend ByteArray ByteArray ByteArray _ (@HAppend.hAppend ByteArray ByteArray ByteArray _ M0 ⟨#[47]⟩) M0), .string (@HAppend.hAppend ByteArray ByteArray ByteArray _ ⟨#[97, 47]⟩ M3), .string (@HAppend.hAppend ByteArray ByteArray ByteArray _ (@HAppend.hAppend ByteArray ByteArray ByteArray _ (@HAppend.hAppend ByteArray ByteArray ByteArray _ (@HAppend.hAppend ByteArray ByteArray ByteArray _ M4 ⟨#[47]⟩) M4) ⟨#[47]⟩) M4), .string (@HAppend.hAppend ByteArray ByteArray ByteArray _ (@HAppend.hAppend ByteArray ByteArray ByteArray _ (@HAppend.hAppend ByteArray ByteArray ByteArray _ (@HAppend.hAppend ByteArray ByteArray ByteArray _ M5 ⟨#[47]⟩) M4) ⟨#[47]⟩) M6), .string (@HAppend.hAppend ByteArray ByteArray ByteArray _ (@HAppend.hAppend ByteArray ByteArray ByteArray _ (@HAppend.hAppend ByteArray ByteArray ByteArray _ (@HAppend.hAppend ByteArray ByteArray ByteArray _ M5 ⟨#[47]⟩) M4) ⟨#[47]⟩) M7)] 9) := ⟨_, rfl⟩
          rw [← hAz]
          have cellsAz : ∀ k x, ([⟨#[97]⟩, (@HAppend.hAppend ByteArray ByteArray ByteArray _ M2 ⟨#[97]⟩), (@HAppend.hAppend ByteArray ByteArray ByteArray _ (@HAppend.hAppend ByteArray ByteArray ByteArray _ M0 ⟨#[47]⟩) M0), (@HAppend.hAppend ByteArray ByteArray ByteArray _ ⟨#[97, 47]⟩ M3), (@HAppend.hAppend ByteArray ByteArray ByteArray _ (@HAppend.hAppend ByteArray ByteArray ByteArray _ (@HAppend.hAppend ByteArray ByteArray ByteArray _ (@HAppend.hAppend ByteArray ByteArray ByteArray _ M4 ⟨#[47]⟩) M4) ⟨#[47]⟩) M4), (@HAppend.hAppend ByteArray ByteArray ByteArray _ (@HAppend.hAppend ByteArray ByteArray ByteArray _ (@HAppend.hAppend ByteArray ByteArray ByteArray _ (@HAppend.hAppend ByteArray ByteArray ByteArray _ M5 ⟨#[47]⟩) M4) ⟨#[47]⟩) M6), (@HAppend.hAppend ByteArray ByteArray ByteArray _ (@HAppend.hAppend ByteArray ByteArray ByteArray _ (@HAppend.hAppend ByteArray ByteArray ByteArray _ (@HAppend.hAppend ByteArray ByteArray ByteArray _ M5 ⟨#[47]⟩) M4) ⟨#[47]⟩) M7)] : List ByteArray)[k]? = some x → World.cell? Az ⟨(World.heap woAy).size, k, none⟩ = some (.string x) := by rw [hAz]; exact rowCell woAy 9 [⟨#[97]⟩, (@HAppend.hAppend ByteArray ByteArray ByteArray _ M2 ⟨#[97]⟩), (@HAppend.hAppend ByteArray ByteArray ByteArray _ (@HAppend.hAppend ByteArray ByteArray ByteArray _ M0 ⟨#[47]⟩) M0), (@HAppend.hAppend ByteArray ByteArray ByteArray _ ⟨#[97, 47]⟩ M3), (@HAppend.hAppend ByteArray ByteArray ByteArray _ (@HAppend.hAppend ByteArray ByteArray ByteArray _ (@HAppend.hAppend ByteArray ByteArray ByteArray _ (@HAppend.hAppend ByteArray ByteArray ByteArray _ M4 ⟨#[47]⟩) M4) ⟨#[47]⟩) M4), (@HAppend.hAppend ByteArray ByteArray ByteArray _ (@HAppend.hAppend ByteArray ByteArray ByteArray _ (@HAppend.hAppend ByteArray ByteArray ByteArray _ (@HAppend.hAppend ByteArray ByteArray ByteArray _ M5 ⟨#[47]⟩) M4) ⟨#[47]⟩) M6), (@HAppend.hAppend ByteArray ByteArray ByteArray _ (@HAppend.hAppend ByteArray ByteArray ByteArray _ (@HAppend.hAppend ByteArray ByteArray ByteArray _ (@HAppend.hAppend ByteArray ByteArray ByteArray _ M5 ⟨#[47]⟩) M4) ⟨#[47]⟩) M7)]
          have ltAz : (World.heap woAy).size < (World.heap Az).size := by rw [hAz]; simp
          have BAz := Lib.hid (show Below w.heap.size w Az by rw [hAz]; exact BAye.out.alloc (BAye.out.size) _)
          have HAz := Lib.hid (show Handle Az by rw [hAz]; exact HAye.out.alloc _)
          have CAz := Lib.hid cellsAz
          clear hAz cellsAz
          go_loopw [7] (fun iv wr => ∃ k : Nat, k ≤ 7 ∧ iv = .int .i64 k ∧ Below Az.heap.size Az wr) (fun iv _ => 7 - (intOf iv).toNat)
          case atStart => exact ⟨0, by omega, rfl, Below.refl _ _⟩
          case round =>
            obtain ⟨k, hk, rfl, hb⟩ := hrel
            have Hb := Lib.hid hb
            have hbs := hb.size
            clear hb
            by_cases hlt : (k : Int) < 7
            · obtain ⟨x, hx⟩ : ∃ x, ([⟨#[97]⟩, (@HAppend.hAppend ByteArray ByteArray ByteArray _ M2 ⟨#[97]⟩), (@HAppend.hAppend ByteArray ByteArray ByteArray _ (@HAppend.hAppend ByteArray ByteArray ByteArray _ M0 ⟨#[47]⟩) M0), (@HAppend.hAppend ByteArray ByteArray ByteArray _ ⟨#[97, 47]⟩ M3), (@HAppend.hAppend ByteArray ByteArray ByteArray _ (@HAppend.hAppend ByteArray ByteArray ByteArray _ (@HAppend.hAppend ByteArray ByteArray ByteArray _ (@HAppend.hAppend ByteArray ByteArray ByteArray _ M4 ⟨#[47]⟩) M4) ⟨#[47]⟩) M4), (@HAppend.hAppend ByteArray ByteArray ByteArray _ (@HAppend.hAppend ByteArray ByteArray ByteArray _ (@HAppend.hAppend ByteArray ByteArray ByteArray _ (@HAppend.hAppend ByteArray ByteArray ByteArray _ M5 ⟨#[47]⟩) M4) ⟨#[47]⟩) M6), (@HAppend.hAppend ByteArray ByteArray ByteArray _ (@HAppend.hAppend ByteArray ByteArray ByteArray _ (@HAppend.hAppend ByteArray ByteArray ByteArray _ (@HAppend.hAppend ByteArray ByteArray ByteArray _ M5 ⟨#[47]⟩) M4) ⟨#[47]⟩) M7)] : List ByteArray)[k]? = some x := ⟨_, List.getElem?_eq_getElem (by simp; omega)⟩
              have hc : wr.cell? ⟨(World.heap woAy).size, k, none⟩ = some (.string x) := (Hb.out.cell (p := ⟨(World.heap woAy).size, k, none⟩) ltAz).trans (CAz.out k x hx)
              obtain ⟨hno, hxs⟩ := Fz.out x (List.mem_of_getElem? hx)
              have hn := fun W => check_any x W (by omega)
              rw [hno] at hn
              rw [show errV 0 = .nilIface from rfl] at hn
              have Hn := Lib.hid hn
              clear hn hno hx
              have hw0 := Lib.hid (HAz.out.step Hb.out)
              go_wp2_with fail
              refine (Hn.out _).mono ?_
              rintro e w1 ⟨rfl, hb1⟩
              have Hb1 := Lib.hid (Hb.out.trans (hb1.mono Hb.out.size))
              clear hb1
              go_wp2_with fail
              go_roundw
              case rel => exact ⟨k + 1, by omega, by go_num, Hb1.out⟩
              case measure => simp [intOf]; omega
            · obtain rfl : k = 7 := by omega
              have BAze := Lib.hid (BAz.out.trans (Hb.out.mono BAz.out.size))
              have HAze := Lib.hid (HAz.out.step Hb.out)
              clear Hb hk hlt hbs ltAz
              clear BAz HAz CAz
              obtain ⟨woAz, hwo⟩ : ∃ x, x = wr := ⟨_, rfl⟩
              subst hwo
              go_wp2_with fail
              refine (checked_any _ HAze.out).mono ?_
              rintro e v0 ⟨rfl, hb⟩
              have Bv0 := Lib.hid (BAze.out.trans (hb.mono BAze.out.size))
              have Hv0 := Lib.hid (HAze.out.step hb)
              clear hb
              go_wp2_with fail
              refine (splitLaw_any _ Hv0.out).mono ?_
              rintro e v1 ⟨rfl, hb⟩
              have Bv1 := Lib.hid (Bv0.out.trans (hb.mono Bv0.out.size))
              have Hv1 := Lib.hid (Hv0.out.step hb)
              clear hb
              go_wp2_with fail
              refine (parted_any _ Hv1.out).mono ?_
              rintro e v2 ⟨rfl, hb⟩
              have Bv2 := Lib.hid (Bv1.out.trans (hb.mono Bv1.out.size))
              have Hv2 := Lib.hid (Hv1.out.step hb)
              clear hb
              go_wp2_with fail
              refine (works_any _ Hv2.out).mono ?_
              rintro e v3 ⟨rfl, hb⟩
              have Bv3 := Lib.hid (Bv2.out.trans (hb.mono Bv2.out.size))
              have Hv3 := Lib.hid (Hv2.out.step hb)
              clear hb
              go_wp2_with fail
              go_ret
              exact ⟨rfl, Bv3.out⟩
end Go.Proofs.YtknhjoikoodapaaDoor
