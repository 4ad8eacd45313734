/- What PathKnown calls: parted. -/
import Derived.Test.YtknhjoikoodapaaDoorMany
import Derived.Test.YtknhjoikoodapaaDoorLaws
set_option linter.unusedSimpArgs false
set_option linter.unusedVariables false
namespace Go.Proofs.YtknhjoikoodapaaDoor
open Go.RowKit
open Go.Lib hiding intOf

set_option maxRecDepth 100000 in
set_option maxHeartbeats 8000000 in
theorem parted_any (w : World) (hg : Handle w) : Calls Tryd.prog 38 #[] w fun e w' => e = .returned (.bool true) ∧ Below w.heap.size w w' := by
  have c0 : ∀ W, Calls Tryd.prog 20 #[.string ⟨#[97, 47, 98, 47, 99]⟩] W fun e w' => e = .returned (.string ⟨#[97, 47, 98]⟩) ∧ Below W.heap.size W w' := by
    intro W
    have h := eq_below (parent_any ⟨#[97, 47, 98, 47, 99]⟩ W (by decide))
    rw [show parent (⟨#[97, 47, 98, 47, 99]⟩ : ByteArray).data.toList = [97, 47, 98] from by decide +kernel] at h
    exact h
  have C0 := Lib.hid c0
  clear c0
  have c1 : ∀ W, Calls Tryd.prog 22 #[.string ⟨#[97, 47, 98, 47, 99]⟩] W fun e w' => e = .returned (.string ⟨#[99]⟩) ∧ Below W.heap.size W w' := by
    intro W
    have h := eq_below (last_any ⟨#[97, 47, 98, 47, 99]⟩ W (by decide))
    rw [show lastName (⟨#[97, 47, 98, 47, 99]⟩ : ByteArray).data.toList = [99] from by decide +kernel] at h
    exact h
  have C1 := Lib.hid c1
  clear c1
  have c2 : ∀ W, Calls Tryd.prog 20 #[.string ⟨#[47, 97]⟩] W fun e w' => e = .returned (.string ⟨#[]⟩) ∧ Below W.heap.size W w' := by
    intro W
    have h := eq_below (parent_any ⟨#[47, 97]⟩ W (by decide))
    rw [show parent (⟨#[47, 97]⟩ : ByteArray).data.toList = [] from by decide +kernel] at h
    exact h
  have C2 := Lib.hid c2
  clear c2
  have c3 : ∀ W, Calls Tryd.prog 22 #[.string ⟨#[97, 47]⟩] W fun e w' => e = .returned (.string ⟨#[]⟩) ∧ Below W.heap.size W w' := by
    intro W
    have h := eq_below (last_any ⟨#[97, 47]⟩ W (by decide))
    rw [show lastName (⟨#[97, 47]⟩ : ByteArray).data.toList = [] from by decide +kernel] at h
    exact h
  have C3 := Lib.hid c3
  clear c3
  have c4 : ∀ W, Calls Tryd.prog 24 #[.string ⟨#[]⟩, .string ⟨#[98]⟩] W fun e w' => e = .returned (.string ⟨#[98]⟩) ∧ Below W.heap.size W w' := by
    intro W
    have h := eq_below (join_any ⟨#[]⟩ ⟨#[98]⟩ W (by decide))
    rw [show joinP (⟨#[]⟩ : ByteArray).data.toList (⟨#[98]⟩ : ByteArray).data.toList = [98] from by decide +kernel] at h
    exact h
  have C4 := Lib.hid c4
  clear c4
  have c5 : ∀ W, Calls Tryd.prog 24 #[.string ⟨#[97]⟩, .string ⟨#[]⟩] W fun e w' => e = .returned (.string ⟨#[97, 47]⟩) ∧ Below W.heap.size W w' := by
    intro W
    have h := eq_below (join_any ⟨#[97]⟩ ⟨#[]⟩ W (by decide))
    rw [show joinP (⟨#[97]⟩ : ByteArray).data.toList (⟨#[]⟩ : ByteArray).data.toList = [97, 47] from by decide +kernel] at h
    exact h
  have C5 := Lib.hid c5
  clear c5
  have c6 : ∀ W, Calls Tryd.prog 26 #[.string ⟨#[46, 46, 47, 97]⟩] W fun e w' => e = .returned (.string ⟨#[97]⟩) ∧ Below W.heap.size W w' := by
    intro W
    have h := clean_any ⟨#[46, 46, 47, 97]⟩ W (by decide)
    rw [show cleanP (⟨#[46, 46, 47, 97]⟩ : ByteArray).data.toList = [97] from by decide +kernel] at h
    exact h
  have C6 := Lib.hid c6
  clear c6
  have c7 : ∀ W, Calls Tryd.prog 26 #[.string ⟨#[97, 47, 46, 46, 47, 46, 46, 47, 98]⟩] W fun e w' => e = .returned (.string ⟨#[98]⟩) ∧ Below W.heap.size W w' := by
    intro W
    have h := clean_any ⟨#[97, 47, 46, 46, 47, 46, 46, 47, 98]⟩ W (by decide)
    rw [show cleanP (⟨#[97, 47, 46, 46, 47, 46, 46, 47, 98]⟩ : ByteArray).data.toList = [98] from by decide +kernel] at h
    exact h
  have C7 := Lib.hid c7
  clear c7
  have c8 : ∀ W, Calls Tryd.prog 26 #[.string ⟨#[97, 47, 46, 46]⟩] W fun e w' => e = .returned (.string ⟨#[]⟩) ∧ Below W.heap.size W w' := by
    intro W
    have h := clean_any ⟨#[97, 47, 46, 46]⟩ W (by decide)
    rw [show cleanP (⟨#[97, 47, 46, 46]⟩ : ByteArray).data.toList = [] from by decide +kernel] at h
    exact h
  have C8 := Lib.hid c8
  clear c8
  have c9 : ∀ W, Calls Tryd.prog 26 #[.string ⟨#[46, 46, 46]⟩] W fun e w' => e = .returned (.string ⟨#[46, 46, 46]⟩) ∧ Below W.heap.size W w' := by
    intro W
    have h := clean_any ⟨#[46, 46, 46]⟩ W (by decide)
    rw [show cleanP (⟨#[46, 46, 46]⟩ : ByteArray).data.toList = [46, 46, 46] from by decide +kernel] at h
    exact h
  have C9 := Lib.hid c9
  clear c9
  have c10 : ∀ W, Calls Tryd.prog 26 #[.string ⟨#[47, 97, 47, 46, 47, 98, 47, 47, 99, 47]⟩] W fun e w' => e = .returned (.string ⟨#[97, 47, 98, 47, 99]⟩) ∧ Below W.heap.size W w' := by
    intro W
    have h := clean_any ⟨#[47, 97, 47, 46, 47, 98, 47, 47, 99, 47]⟩ W (by decide)
    rw [show cleanP (⟨#[47, 97, 47, 46, 47, 98, 47, 47, 99, 47]⟩ : ByteArray).data.toList = [97, 47, 98, 47, 99] from by decide +kernel] at h
    exact h
  have C10 := Lib.hid c10
  clear c10
  have c11 : ∀ W, Calls Tryd.prog 28 #[.string ⟨#[97, 47, 98]⟩, .string ⟨#[97, 46, 98]⟩] W fun e w' => e = .returned (.int .i64 (-1)) ∧ Below W.heap.size W w' := by
    intro W
    have h := same_below (compare_any ⟨#[97, 47, 98]⟩ ⟨#[97, 46, 98]⟩ W (by decide) (by decide))
    rw [show compareP (⟨#[97, 47, 98]⟩ : ByteArray).data.toList (⟨#[97, 46, 98]⟩ : ByteArray).data.toList = -1 from by decide +kernel] at h
    exact h
  have C11 := Lib.hid c11
  clear c11
  have c12 : ∀ W, Calls Tryd.prog 28 #[.string ⟨#[98]⟩, .string ⟨#[97, 47, 122]⟩] W fun e w' => e = .returned (.int .i64 (1)) ∧ Below W.heap.size W w' := by
    intro W
    have h := same_below (compare_any ⟨#[98]⟩ ⟨#[97, 47, 122]⟩ W (by decide) (by decide))
    rw [show compareP (⟨#[98]⟩ : ByteArray).data.toList (⟨#[97, 47, 122]⟩ : ByteArray).data.toList = 1 from by decide +kernel] at h
    exact h
  have C12 := Lib.hid c12
  clear c12
  have c13 : ∀ W, Calls Tryd.prog 28 #[.string ⟨#[97]⟩, .string ⟨#[97]⟩] W fun e w' => e = .returned (.int .i64 (0)) ∧ Below W.heap.size W w' := by
    intro W
    have h := same_below (compare_any ⟨#[97]⟩ ⟨#[97]⟩ W (by decide) (by decide))
    rw [show compareP (⟨#[97]⟩ : ByteArray).data.toList (⟨#[97]⟩ : ByteArray).data.toList = 0 from by decide +kernel] at h
    exact h
  have C13 := Lib.hid c13
  clear c13
  have c14 : ∀ W, Calls Tryd.prog 28 #[.string ⟨#[]⟩, .string ⟨#[47]⟩] W fun e w' => e = .returned (.int .i64 (-1)) ∧ Below W.heap.size W w' := by
    intro W
    have h := same_below (compare_any ⟨#[]⟩ ⟨#[47]⟩ W (by decide) (by decide))
    rw [show compareP (⟨#[]⟩ : ByteArray).data.toList (⟨#[47]⟩ : ByteArray).data.toList = -1 from by decide +kernel] at h
    exact h
  have C14 := Lib.hid c14
  clear c14
  have c15 : ∀ W, Calls Tryd.prog 28 #[.string ⟨#[255]⟩, .string ⟨#[97]⟩] W fun e w' => e = .returned (.int .i64 (1)) ∧ Below W.heap.size W w' := by
    intro W
    have h := same_below (compare_any ⟨#[255]⟩ ⟨#[97]⟩ W (by decide) (by decide))
    rw [show compareP (⟨#[255]⟩ : ByteArray).data.toList (⟨#[97]⟩ : ByteArray).data.toList = 1 from by decide +kernel] at h
    exact h
  have C15 := Lib.hid c15
  clear c15
  have c16 : ∀ W, Calls Tryd.prog 30 #[.string ⟨#[]⟩, .string ⟨#[97]⟩] W fun e w' => e = .returned (.bool true) ∧ Below W.heap.size W w' := by
    intro W
    have h := eq_below (below_any ⟨#[]⟩ ⟨#[97]⟩ W (by decide) (by decide))
    rw [show belowP (⟨#[]⟩ : ByteArray).data.toList (⟨#[97]⟩ : ByteArray).data.toList = true from by decide +kernel] at h
    exact h
  have C16 := Lib.hid c16
  clear c16
  have c17 : ∀ W, Calls Tryd.prog 30 #[.string ⟨#[]⟩, .string ⟨#[]⟩] W fun e w' => e = .returned (.bool false) ∧ Below W.heap.size W w' := by
    intro W
    have h := eq_below (below_any ⟨#[]⟩ ⟨#[]⟩ W (by decide) (by decide))
    rw [show belowP (⟨#[]⟩ : ByteArray).data.toList (⟨#[]⟩ : ByteArray).data.toList = false from by decide +kernel] at h
    exact h
  have C17 := Lib.hid c17
  clear c17
  have c18 : ∀ W, Calls Tryd.prog 30 #[.string ⟨#[97]⟩, .string ⟨#[97, 98]⟩] W fun e w' => e = .returned (.bool false) ∧ Below W.heap.size W w' := by
    intro W
    have h := eq_below (below_any ⟨#[97]⟩ ⟨#[97, 98]⟩ W (by decide) (by decide))
    rw [show belowP (⟨#[97]⟩ : ByteArray).data.toList (⟨#[97, 98]⟩ : ByteArray).data.toList = false from by decide +kernel] at h
    exact h
  have C18 := Lib.hid c18
  clear c18
  have c19 : ∀ W, Calls Tryd.prog 30 #[.string ⟨#[97]⟩, .string ⟨#[97]⟩] W fun e w' => e = .returned (.bool false) ∧ Below W.heap.size W w' := by
    intro W
    have h := eq_below (below_any ⟨#[97]⟩ ⟨#[97]⟩ W (by decide) (by decide))
    rw [show belowP (⟨#[97]⟩ : ByteArray).data.toList (⟨#[97]⟩ : ByteArray).data.toList = false from by decide +kernel] at h
    exact h
  have C19 := Lib.hid c19
  clear c19
  have c20 : ∀ W, Calls Tryd.prog 30 #[.string ⟨#[97]⟩, .string ⟨#[97, 47]⟩] W fun e w' => e = .returned (.bool true) ∧ Below W.heap.size W w' := by
    intro W
    have h := eq_below (below_any ⟨#[97]⟩ ⟨#[97, 47]⟩ W (by decide) (by decide))
    rw [show belowP (⟨#[97]⟩ : ByteArray).data.toList (⟨#[97, 47]⟩ : ByteArray).data.toList = true from by decide +kernel] at h
    exact h
  have C20 := Lib.hid c20
  clear c20
  have H0 := Lib.hid hg
  have B0 := Lib.hid (Below.refl w.heap.size w)
  clear hg
  go_enter Tryd.func38, Tryd.ntmps38
  go_wp2_with fail
  refine (C0.out _).mono ?_
  rintro e v1 ⟨rfl, hb⟩
  have Bv1 := Lib.hid (B0.out.trans (hb.mono B0.out.size))
  have Hv1 := Lib.hid (H0.out.step hb)
  clear hb
  go_wp2_with fail
  refine (C1.out _).mono ?_
  rintro e v2 ⟨rfl, hb⟩
  have Bv2 := Lib.hid (Bv1.out.trans (hb.mono Bv1.out.size))
  have Hv2 := Lib.hid (Hv1.out.step hb)
  clear hb
  go_wp2_with fail
  refine (C2.out _).mono ?_
  rintro e v3 ⟨rfl, hb⟩
  have Bv3 := Lib.hid (Bv2.out.trans (hb.mono Bv2.out.size))
  have Hv3 := Lib.hid (Hv2.out.step hb)
  clear hb
  go_wp2_with fail
  refine (C3.out _).mono ?_
  rintro e v4 ⟨rfl, hb⟩
  have Bv4 := Lib.hid (Bv3.out.trans (hb.mono Bv3.out.size))
  have Hv4 := Lib.hid (Hv3.out.step hb)
  clear hb
  go_wp2_with fail
  refine (C4.out _).mono ?_
  rintro e v5 ⟨rfl, hb⟩
  have Bv5 := Lib.hid (Bv4.out.trans (hb.mono Bv4.out.size))
  have Hv5 := Lib.hid (Hv4.out.step hb)
  clear hb
  go_wp2_with fail
  refine (C5.out _).mono ?_
  rintro e v6 ⟨rfl, hb⟩
  have Bv6 := Lib.hid (Bv5.out.trans (hb.mono Bv5.out.size))
  have Hv6 := Lib.hid (Hv5.out.step hb)
  clear hb
  go_wp2_with fail
  refine (C6.out _).mono ?_
  rintro e v7 ⟨rfl, hb⟩
  have Bv7 := Lib.hid (Bv6.out.trans (hb.mono Bv6.out.size))
  have Hv7 := Lib.hid (Hv6.out.step hb)
  clear hb
  go_wp2_with fail
  refine (C7.out _).mono ?_
  rintro e v8 ⟨rfl, hb⟩
  have Bv8 := Lib.hid (Bv7.out.trans (hb.mono Bv7.out.size))
  have Hv8 := Lib.hid (Hv7.out.step hb)
  clear hb
  go_wp2_with fail
  refine (C8.out _).mono ?_
  rintro e v9 ⟨rfl, hb⟩
  have Bv9 := Lib.hid (Bv8.out.trans (hb.mono Bv8.out.size))
  have Hv9 := Lib.hid (Hv8.out.step hb)
  clear hb
  go_wp2_with fail
  refine (C9.out _).mono ?_
  rintro e v10 ⟨rfl, hb⟩
  have Bv10 := Lib.hid (Bv9.out.trans (hb.mono Bv9.out.size))
  have Hv10 := Lib.hid (Hv9.out.step hb)
  clear hb
  go_wp2_with fail
  refine (C10.out _).mono ?_
  rintro e v11 ⟨rfl, hb⟩
  have Bv11 := Lib.hid (Bv10.out.trans (hb.mono Bv10.out.size))
  have Hv11 := Lib.hid (Hv10.out.step hb)
  clear hb
  go_wp2_with fail
  refine (C11.out _).mono ?_
  rintro e v12 ⟨rfl, hb⟩
  have Bv12 := Lib.hid (Bv11.out.trans (hb.mono Bv11.out.size))
  have Hv12 := Lib.hid (Hv11.out.step hb)
  clear hb
  go_wp2_with fail
  refine (C12.out _).mono ?_
  rintro e v13 ⟨rfl, hb⟩
  have Bv13 := Lib.hid (Bv12.out.trans (hb.mono Bv12.out.size))
  have Hv13 := Lib.hid (Hv12.out.step hb)
  clear hb
  go_wp2_with fail
  refine (C13.out _).mono ?_
  rintro e v14 ⟨rfl, hb⟩
  have Bv14 := Lib.hid (Bv13.out.trans (hb.mono Bv13.out.size))
  have Hv14 := Lib.hid (Hv13.out.step hb)
  clear hb
  go_wp2_with fail
  refine (C14.out _).mono ?_
  rintro e v15 ⟨rfl, hb⟩
  have Bv15 := Lib.hid (Bv14.out.trans (hb.mono Bv14.out.size))
  have Hv15 := Lib.hid (Hv14.out.step hb)
  clear hb
  go_wp2_with fail
  refine (C15.out _).mono ?_
  rintro e v16 ⟨rfl, hb⟩
  have Bv16 := Lib.hid (Bv15.out.trans (hb.mono Bv15.out.size))
  have Hv16 := Lib.hid (Hv15.out.step hb)
  clear hb
  go_wp2_with fail
  refine (C16.out _).mono ?_
  rintro e v17 ⟨rfl, hb⟩
  have Bv17 := Lib.hid (Bv16.out.trans (hb.mono Bv16.out.size))
  have Hv17 := Lib.hid (Hv16.out.step hb)
  clear hb
  go_wp2_with fail
  refine (C17.out _).mono ?_
  rintro e v18 ⟨rfl, hb⟩
  have Bv18 := Lib.hid (Bv17.out.trans (hb.mono Bv17.out.size))
  have Hv18 := Lib.hid (Hv17.out.step hb)
  clear hb
  go_wp2_with fail
  refine (C18.out _).mono ?_
  rintro e v19 ⟨rfl, hb⟩
  have Bv19 := Lib.hid (Bv18.out.trans (hb.mono Bv18.out.size))
  have Hv19 := Lib.hid (Hv18.out.step hb)
  clear hb
  go_wp2_with fail
  refine (C19.out _).mono ?_
  rintro e v20 ⟨rfl, hb⟩
  have Bv20 := Lib.hid (Bv19.out.trans (hb.mono Bv19.out.size))
  have Hv20 := Lib.hid (Hv19.out.step hb)
  clear hb
  go_wp2_with fail
  refine (C20.out _).mono ?_
  rintro e v21 ⟨rfl, hb⟩
  have Bv21 := Lib.hid (Bv20.out.trans (hb.mono Bv20.out.size))
  have Hv21 := Lib.hid (Hv20.out.step hb)
  clear hb
  go_wp2_with fail
  go_ret
  exact ⟨rfl, Bv21.out⟩
end Go.Proofs.YtknhjoikoodapaaDoor
