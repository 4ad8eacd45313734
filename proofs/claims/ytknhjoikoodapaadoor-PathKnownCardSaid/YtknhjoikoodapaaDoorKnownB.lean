/- What PathKnown calls: split. -/
import Derived.Test.YtknhjoikoodapaaDoorMany
import Derived.Test.YtknhjoikoodapaaDoorLaws
set_option linter.unusedSimpArgs false
set_option linter.unusedVariables false
namespace Go.Proofs.YtknhjoikoodapaaDoor
open Go.RowKit
open Go.Lib hiding intOf

set_option maxRecDepth 100000 in
set_option maxHeartbeats 8000000 in
theorem splitLaw_any (w : World) (hg : Handle w) : Calls Tryd.prog 37 #[] w fun e w' => e = .returned (.bool true) ∧ Below w.heap.size w w' := by
  obtain ⟨M0, eM0⟩ : ∃ x, x = bs (manyP [97] 100) := ⟨_, rfl⟩
  have zM0 : M0.size = 100 := by rw [eM0, bs_size, manyP_length]; rfl
  have cM0 : ∀ W, Calls Tryd.prog 35 #[.string ⟨#[97]⟩, .int .i64 100] W fun e w' => e = .returned (.string M0) ∧ W = w' := by
    intro W
    have h := many_any ⟨#[97]⟩ 100 W (by decide) (by decide)
    rw [show (bs (manyP (⟨#[97]⟩ : ByteArray).data.toList 100)) = M0 from eM0.symm] at h
    exact h
  obtain ⟨M1, eM1⟩ : ∃ x, x = bs (manyP [98] 100) := ⟨_, rfl⟩
  have zM1 : M1.size = 100 := by rw [eM1, bs_size, manyP_length]; rfl
  have cM1 : ∀ W, Calls Tryd.prog 35 #[.string ⟨#[98]⟩, .int .i64 100] W fun e w' => e = .returned (.string M1) ∧ W = w' := by
    intro W
    have h := many_any ⟨#[98]⟩ 100 W (by decide) (by decide)
    rw [show (bs (manyP (⟨#[98]⟩ : ByteArray).data.toList 100)) = M1 from eM1.symm] at h
    exact h
  obtain ⟨M2, eM2⟩ : ∃ x, x = bs (manyP [97] 101) := ⟨_, rfl⟩
  have zM2 : M2.size = 101 := by rw [eM2, bs_size, manyP_length]; rfl
  have cM2 : ∀ W, Calls Tryd.prog 35 #[.string ⟨#[97]⟩, .int .i64 101] W fun e w' => e = .returned (.string M2) ∧ W = w' := by
    intro W
    have h := many_any ⟨#[97]⟩ 101 W (by decide) (by decide)
    rw [show (bs (manyP (⟨#[97]⟩ : ByteArray).data.toList 101)) = M2 from eM2.symm] at h
    exact h
  obtain ⟨M3, eM3⟩ : ∃ x, x = bs (manyP [97] 155) := ⟨_, rfl⟩
  have zM3 : M3.size = 155 := by rw [eM3, bs_size, manyP_length]; rfl
  have cM3 : ∀ W, Calls Tryd.prog 35 #[.string ⟨#[97]⟩, .int .i64 155] W fun e w' => e = .returned (.string M3) ∧ W = w' := by
    intro W
    have h := many_any ⟨#[97]⟩ 155 W (by decide) (by decide)
    rw [show (bs (manyP (⟨#[97]⟩ : ByteArray).data.toList 155)) = M3 from eM3.symm] at h
    exact h
  obtain ⟨M4, eM4⟩ : ∃ x, x = bs (manyP [97] 156) := ⟨_, rfl⟩
  have zM4 : M4.size = 156 := by rw [eM4, bs_size, manyP_length]; rfl
  have cM4 : ∀ W, Calls Tryd.prog 35 #[.string ⟨#[97]⟩, .int .i64 156] W fun e w' => e = .returned (.string M4) ∧ W = w' := by
    intro W
    have h := many_any ⟨#[97]⟩ 156 W (by decide) (by decide)
    rw [show (bs (manyP (⟨#[97]⟩ : ByteArray).data.toList 156)) = M4 from eM4.symm] at h
    exact h
  obtain ⟨M5, eM5⟩ : ∃ x, x = bs (manyP [98] 99) := ⟨_, rfl⟩
  have zM5 : M5.size = 99 := by rw [eM5, bs_size, manyP_length]; rfl
  have cM5 : ∀ W, Calls Tryd.prog 35 #[.string ⟨#[98]⟩, .int .i64 99] W fun e w' => e = .returned (.string M5) ∧ W = w' := by
    intro W
    have h := many_any ⟨#[98]⟩ 99 W (by decide) (by decide)
    rw [show (bs (manyP (⟨#[98]⟩ : ByteArray).data.toList 99)) = M5 from eM5.symm] at h
    exact h
  obtain ⟨M6, eM6⟩ : ∃ x, x = bs (manyP [97] 60) := ⟨_, rfl⟩
  have zM6 : M6.size = 60 := by rw [eM6, bs_size, manyP_length]; rfl
  have cM6 : ∀ W, Calls Tryd.prog 35 #[.string ⟨#[97]⟩, .int .i64 60] W fun e w' => e = .returned (.string M6) ∧ W = w' := by
    intro W
    have h := many_any ⟨#[97]⟩ 60 W (by decide) (by decide)
    rw [show (bs (manyP (⟨#[97]⟩ : ByteArray).data.toList 60)) = M6 from eM6.symm] at h
    exact h
  obtain ⟨M7, eM7⟩ : ∃ x, x = bs (manyP [98] 60) := ⟨_, rfl⟩
  have zM7 : M7.size = 60 := by rw [eM7, bs_size, manyP_length]; rfl
  have cM7 : ∀ W, Calls Tryd.prog 35 #[.string ⟨#[98]⟩, .int .i64 60] W fun e w' => e = .returned (.string M7) ∧ W = w' := by
    intro W
    have h := many_any ⟨#[98]⟩ 60 W (by decide) (by decide)
    rw [show (bs (manyP (⟨#[98]⟩ : ByteArray).data.toList 60)) = M7 from eM7.symm] at h
    exact h
  obtain ⟨M8, eM8⟩ : ∃ x, x = bs (manyP [99] 60) := ⟨_, rfl⟩
  have zM8 : M8.size = 60 := by rw [eM8, bs_size, manyP_length]; rfl
  have cM8 : ∀ W, Calls Tryd.prog 35 #[.string ⟨#[99]⟩, .int .i64 60] W fun e w' => e = .returned (.string M8) ∧ W = w' := by
    intro W
    have h := many_any ⟨#[99]⟩ 60 W (by decide) (by decide)
    rw [show (bs (manyP (⟨#[99]⟩ : ByteArray).data.toList 60)) = M8 from eM8.symm] at h
    exact h
  obtain ⟨D0, eD0⟩ : ∃ x, x = bs (splitP (M0).data.toList).2.1 := ⟨_, rfl⟩
  have zD0 : D0.size = 100 := by rw [eD0, eM0]; decide +kernel
  have cS0 : ∀ W, Calls Tryd.prog 19 #[.string M0] W fun e w' => e = .returned (.tuple #[.string ⟨#[]⟩, .string D0, .nilIface]) ∧ Below W.heap.size W w' := by
    intro W
    have h := same_below (split_any M0 W (by rw [eM0]; decide +kernel))
    rw [show (splitP (M0).data.toList).2.2 = 0 from by rw [eM0]; decide +kernel] at h
    rw [show (splitP (M0).data.toList).1 = [] from by rw [eM0]; decide +kernel] at h
    rw [← eD0] at h
    exact h
  have CS0 := Lib.hid cS0
  clear cS0
  clear eD0
  obtain ⟨D1, eD1⟩ : ∃ x, x = bs (splitP ((@HAppend.hAppend ByteArray ByteArray ByteArray _ ⟨#[97, 47]⟩ M1)).data.toList).2.1 := ⟨_, rfl⟩
  have zD1 : D1.size = 100 := by rw [eD1, eM1]; decide +kernel
  have cS1 : ∀ W, Calls Tryd.prog 19 #[.string (@HAppend.hAppend ByteArray ByteArray ByteArray _ ⟨#[97, 47]⟩ M1)] W fun e w' => e = .returned (.tuple #[.string ⟨#[97]⟩, .string D1, .nilIface]) ∧ Below W.heap.size W w' := by
    intro W
    have h := same_below (split_any (@HAppend.hAppend ByteArray ByteArray ByteArray _ ⟨#[97, 47]⟩ M1) W (by rw [eM1]; decide +kernel))
    rw [show (splitP ((@HAppend.hAppend ByteArray ByteArray ByteArray _ ⟨#[97, 47]⟩ M1)).data.toList).2.2 = 0 from by rw [eM1]; decide +kernel] at h
    rw [show (splitP ((@HAppend.hAppend ByteArray ByteArray ByteArray _ ⟨#[97, 47]⟩ M1)).data.toList).1 = [97] from by rw [eM1]; decide +kernel] at h
    rw [← eD1] at h
    exact h
  have CS1 := Lib.hid cS1
  clear cS1
  clear eD1
  have cS2 : ∀ W, Calls Tryd.prog 19 #[.string M2] W fun e w' => e = .returned (.tuple #[.string ⟨#[]⟩, .string ⟨#[]⟩, errV 9]) ∧ Below W.heap.size W w' := by
    intro W
    have h := same_below (split_any M2 W (by rw [eM2]; decide +kernel))
    rw [show (splitP (M2).data.toList).2.2 = 9 from by rw [eM2]; decide +kernel] at h
    rw [show (splitP (M2).data.toList).1 = [] from by rw [eM2]; decide +kernel] at h
    rw [show (splitP (M2).data.toList).2.1 = [] from by rw [eM2]; decide +kernel] at h
    exact h
  have CS2 := Lib.hid cS2
  clear cS2
  have cS3 : ∀ W, Calls Tryd.prog 19 #[.string (@HAppend.hAppend ByteArray ByteArray ByteArray _ ⟨#[47]⟩ M1)] W fun e w' => e = .returned (.tuple #[.string ⟨#[]⟩, .string ⟨#[]⟩, errV 9]) ∧ Below W.heap.size W w' := by
    intro W
    have h := same_below (split_any (@HAppend.hAppend ByteArray ByteArray ByteArray _ ⟨#[47]⟩ M1) W (by rw [eM1]; decide +kernel))
    rw [show (splitP ((@HAppend.hAppend ByteArray ByteArray ByteArray _ ⟨#[47]⟩ M1)).data.toList).2.2 = 9 from by rw [eM1]; decide +kernel] at h
    rw [show (splitP ((@HAppend.hAppend ByteArray ByteArray ByteArray _ ⟨#[47]⟩ M1)).data.toList).1 = [] from by rw [eM1]; decide +kernel] at h
    rw [show (splitP ((@HAppend.hAppend ByteArray ByteArray ByteArray _ ⟨#[47]⟩ M1)).data.toList).2.1 = [] from by rw [eM1]; decide +kernel] at h
    exact h
  have CS3 := Lib.hid cS3
  clear cS3
  obtain ⟨A4, eA4⟩ : ∃ x, x = bs (splitP ((@HAppend.hAppend ByteArray ByteArray ByteArray _ (@HAppend.hAppend ByteArray ByteArray ByteArray _ M3 ⟨#[47]⟩) M1)).data.toList).1 := ⟨_, rfl⟩
  have zA4 : A4.size = 155 := by rw [eA4, eM1, eM3]; decide +kernel
  obtain ⟨D4, eD4⟩ : ∃ x, x = bs (splitP ((@HAppend.hAppend ByteArray ByteArray ByteArray _ (@HAppend.hAppend ByteArray ByteArray ByteArray _ M3 ⟨#[47]⟩) M1)).data.toList).2.1 := ⟨_, rfl⟩
  have zD4 : D4.size = 100 := by rw [eD4, eM1, eM3]; decide +kernel
  have cS4 : ∀ W, Calls Tryd.prog 19 #[.string (@HAppend.hAppend ByteArray ByteArray ByteArray _ (@HAppend.hAppend ByteArray ByteArray ByteArray _ M3 ⟨#[47]⟩) M1)] W fun e w' => e = .returned (.tuple #[.string A4, .string D4, .nilIface]) ∧ Below W.heap.size W w' := by
    intro W
    have h := same_below (split_any (@HAppend.hAppend ByteArray ByteArray ByteArray _ (@HAppend.hAppend ByteArray ByteArray ByteArray _ M3 ⟨#[47]⟩) M1) W (by rw [eM1, eM3]; decide +kernel))
    rw [show (splitP ((@HAppend.hAppend ByteArray ByteArray ByteArray _ (@HAppend.hAppend ByteArray ByteArray ByteArray _ M3 ⟨#[47]⟩) M1)).data.toList).2.2 = 0 from by rw [eM1, eM3]; decide +kernel] at h
    rw [← eA4] at h
    rw [← eD4] at h
    exact h
  have CS4 := Lib.hid cS4
  clear cS4
  clear eA4
  clear eD4
  have cS5 : ∀ W, Calls Tryd.prog 19 #[.string (@HAppend.hAppend ByteArray ByteArray ByteArray _ (@HAppend.hAppend ByteArray ByteArray ByteArray _ M4 ⟨#[47]⟩) M5)] W fun e w' => e = .returned (.tuple #[.string ⟨#[]⟩, .string ⟨#[]⟩, errV 9]) ∧ Below W.heap.size W w' := by
    intro W
    have h := same_below (split_any (@HAppend.hAppend ByteArray ByteArray ByteArray _ (@HAppend.hAppend ByteArray ByteArray ByteArray _ M4 ⟨#[47]⟩) M5) W (by rw [eM4, eM5]; decide +kernel))
    rw [show (splitP ((@HAppend.hAppend ByteArray ByteArray ByteArray _ (@HAppend.hAppend ByteArray ByteArray ByteArray _ M4 ⟨#[47]⟩) M5)).data.toList).2.2 = 9 from by rw [eM4, eM5]; decide +kernel] at h
    rw [show (splitP ((@HAppend.hAppend ByteArray ByteArray ByteArray _ (@HAppend.hAppend ByteArray ByteArray ByteArray _ M4 ⟨#[47]⟩) M5)).data.toList).1 = [] from by rw [eM4, eM5]; decide +kernel] at h
    rw [show (splitP ((@HAppend.hAppend ByteArray ByteArray ByteArray _ (@HAppend.hAppend ByteArray ByteArray ByteArray _ M4 ⟨#[47]⟩) M5)).data.toList).2.1 = [] from by rw [eM4, eM5]; decide +kernel] at h
    exact h
  have CS5 := Lib.hid cS5
  clear cS5
  obtain ⟨A6, eA6⟩ : ∃ x, x = bs (splitP ((@HAppend.hAppend ByteArray ByteArray ByteArray _ (@HAppend.hAppend ByteArray ByteArray ByteArray _ (@HAppend.hAppend ByteArray ByteArray ByteArray _ (@HAppend.hAppend ByteArray ByteArray ByteArray _ M6 ⟨#[47]⟩) M7) ⟨#[47]⟩) M8)).data.toList).1 := ⟨_, rfl⟩
  have zA6 : A6.size = 121 := by rw [eA6, eM6, eM7, eM8]; decide +kernel
  have cS6 : ∀ W, Calls Tryd.prog 19 #[.string (@HAppend.hAppend ByteArray ByteArray ByteArray _ (@HAppend.hAppend ByteArray ByteArray ByteArray _ (@HAppend.hAppend ByteArray ByteArray ByteArray _ (@HAppend.hAppend ByteArray ByteArray ByteArray _ M6 ⟨#[47]⟩) M7) ⟨#[47]⟩) M8)] W fun e w' => e = .returned (.tuple #[.string A6, .string M8, .nilIface]) ∧ Below W.heap.size W w' := by
    intro W
    have h := same_below (split_any (@HAppend.hAppend ByteArray ByteArray ByteArray _ (@HAppend.hAppend ByteArray ByteArray ByteArray _ (@HAppend.hAppend ByteArray ByteArray ByteArray _ (@HAppend.hAppend ByteArray ByteArray ByteArray _ M6 ⟨#[47]⟩) M7) ⟨#[47]⟩) M8) W (by rw [eM6, eM7, eM8]; decide +kernel))
    rw [show (splitP ((@HAppend.hAppend ByteArray ByteArray ByteArray _ (@HAppend.hAppend ByteArray ByteArray ByteArray _ (@HAppend.hAppend ByteArray ByteArray ByteArray _ (@HAppend.hAppend ByteArray ByteArray ByteArray _ M6 ⟨#[47]⟩) M7) ⟨#[47]⟩) M8)).data.toList).2.2 = 0 from by rw [eM6, eM7, eM8]; decide +kernel] at h
    rw [← eA6] at h
    rw [show (splitP ((@HAppend.hAppend ByteArray ByteArray ByteArray _ (@HAppend.hAppend ByteArray ByteArray ByteArray _ (@HAppend.hAppend ByteArray ByteArray ByteArray _ (@HAppend.hAppend ByteArray ByteArray ByteArray _ M6 ⟨#[47]⟩) M7) ⟨#[47]⟩) M8)).data.toList).2.1 = manyP [99] 60 from by rw [eM6, eM7, eM8]; decide +kernel, ← eM8] at h
    exact h
  have CS6 := Lib.hid cS6
  clear cS6
  clear eA6
  have P9 := Lib.hid (fun W => plain_same 9 W (by decide))
  have q0 : ¬ 9223372036854775807 < 1 + M1.size := by omega
  have q1 : ¬ 9223372036854775807 < 2 + M1.size := by omega
  have q2 : ¬ 9223372036854775807 < M3.size + 1 := by omega
  have q3 : ¬ 9223372036854775807 < M3.size + 1 + M1.size := by omega
  have q4 : ¬ 9223372036854775807 < M4.size + 1 := by omega
  have q5 : ¬ 9223372036854775807 < M4.size + 1 + M5.size := by omega
  have q6 : ¬ 9223372036854775807 < M6.size + 1 := by omega
  have q7 : ¬ 9223372036854775807 < M6.size + 1 + M7.size := by omega
  have q8 : ¬ 9223372036854775807 < M6.size + 1 + M7.size + 1 := by omega
  have q9 : ¬ 9223372036854775807 < M6.size + 1 + M7.size + 1 + M8.size := by omega
  have CM0 := Lib.hid cM0
  clear cM0 eM0
  have CM1 := Lib.hid cM1
  clear cM1 eM1
  have CM2 := Lib.hid cM2
  clear cM2 eM2
  have CM3 := Lib.hid cM3
  clear cM3 eM3
  have CM4 := Lib.hid cM4
  clear cM4 eM4
  have CM5 := Lib.hid cM5
  clear cM5 eM5
  have CM6 := Lib.hid cM6
  clear cM6 eM6
  have CM7 := Lib.hid cM7
  clear cM7 eM7
  have CM8 := Lib.hid cM8
  clear cM8 eM8
  have H0 := Lib.hid hg
  have B0 := Lib.hid (Below.refl w.heap.size w)
  clear hg
  go_enter Tryd.func37, Tryd.ntmps37
  go_wp2_with fail
  refine (CM0.out _).mono ?_
  rintro e w' ⟨rfl, rfl⟩
  go_wp2_with fail
  refine (CS0.out _).mono ?_
  rintro e v1 ⟨rfl, hb⟩
  have Bv1 := Lib.hid (B0.out.trans (hb.mono B0.out.size))
  have Hv1 := Lib.hid (H0.out.step hb)
  clear hb
  go_wp2_with fail
  refine (CM1.out _).mono ?_
  rintro e w' ⟨rfl, rfl⟩
  go_wp2_with fail
  refine (CS1.out _).mono ?_
  rintro e v2 ⟨rfl, hb⟩
  have Bv2 := Lib.hid (Bv1.out.trans (hb.mono Bv1.out.size))
  have Hv2 := Lib.hid (Hv1.out.step hb)
  clear hb
  go_wp2_with fail
  refine (CM2.out _).mono ?_
  rintro e w' ⟨rfl, rfl⟩
  go_wp2_with fail
  refine (CS2.out _).mono ?_
  rintro e v3 ⟨rfl, hb⟩
  have Bv3 := Lib.hid (Bv2.out.trans (hb.mono Bv2.out.size))
  have Hv3 := Lib.hid (Hv2.out.step hb)
  clear hb
  go_wp2_with fail
  refine (CM1.out _).mono ?_
  rintro e w' ⟨rfl, rfl⟩
  go_wp2_with fail
  refine (CS3.out _).mono ?_
  rintro e v4 ⟨rfl, hb⟩
  have Bv4 := Lib.hid (Bv3.out.trans (hb.mono Bv3.out.size))
  have Hv4 := Lib.hid (Hv3.out.step hb)
  clear hb
  go_wp2_with fail
  refine (CM3.out _).mono ?_
  rintro e w' ⟨rfl, rfl⟩
  go_wp2_with fail
  refine (CM1.out _).mono ?_
  rintro e w' ⟨rfl, rfl⟩
  go_wp2_with fail
  refine (CS4.out _).mono ?_
  rintro e v5 ⟨rfl, hb⟩
  have Bv5 := Lib.hid (Bv4.out.trans (hb.mono Bv4.out.size))
  have Hv5 := Lib.hid (Hv4.out.step hb)
  clear hb
  go_wp2_with fail
  refine (CM4.out _).mono ?_
  rintro e w' ⟨rfl, rfl⟩
  go_wp2_with fail
  refine (CM5.out _).mono ?_
  rintro e w' ⟨rfl, rfl⟩
  go_wp2_with fail
  refine (CS5.out _).mono ?_
  rintro e v6 ⟨rfl, hb⟩
  have Bv6 := Lib.hid (Bv5.out.trans (hb.mono Bv5.out.size))
  have Hv6 := Lib.hid (Hv5.out.step hb)
  clear hb
  go_wp2_with fail
  refine (CM6.out _).mono ?_
  rintro e w' ⟨rfl, rfl⟩
  go_wp2_with fail
  refine (CM7.out _).mono ?_
  rintro e w' ⟨rfl, rfl⟩
  go_wp2_with fail
  refine (CM8.out _).mono ?_
  rintro e w' ⟨rfl, rfl⟩
  go_wp2_with fail
  refine (CS6.out _).mono ?_
  rintro e v7 ⟨rfl, hb⟩
  have Bv7 := Lib.hid (Bv6.out.trans (hb.mono Bv6.out.size))
  have Hv7 := Lib.hid (Hv6.out.step hb)
  clear hb
  go_wp2_with fail
  refine (P9.out _ Hv7.out).mono ?_
  rintro e v8 ⟨rfl, hb⟩
  have Bv8 := Lib.hid (Bv7.out.trans (hb.mono Bv7.out.size))
  have Hv8 := Lib.hid (Hv7.out.step hb)
  clear hb
  go_wp2_with fail
  refine (P9.out _ Hv8.out).mono ?_
  rintro e v9 ⟨rfl, hb⟩
  have Bv9 := Lib.hid (Bv8.out.trans (hb.mono Bv8.out.size))
  have Hv9 := Lib.hid (Hv8.out.step hb)
  clear hb
  go_wp2_with fail
  refine (P9.out _ Hv9.out).mono ?_
  rintro e v10 ⟨rfl, hb⟩
  have Bv10 := Lib.hid (Bv9.out.trans (hb.mono Bv9.out.size))
  have Hv10 := Lib.hid (Hv9.out.step hb)
  clear hb
  go_wp2_with fail
  refine (CM8.out _).mono ?_
  rintro e w' ⟨rfl, rfl⟩
  go_wp2_with fail
  go_ret
  exact ⟨rfl, Bv10.out⟩
end Go.Proofs.YtknhjoikoodapaaDoor
