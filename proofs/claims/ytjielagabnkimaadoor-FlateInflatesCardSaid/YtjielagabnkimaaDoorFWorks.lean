/- What a frame gives back; stratalaw06.works; stratakit.Pick. -/
import Derived.Test.YtjielagabnkimaaDoorFGun
set_option linter.unusedSimpArgs false
set_option linter.unusedVariables false
namespace Go.Proofs.YtjielagabnkimaaDoor
open Go.RowKit
theorem tailL_length (s : List UInt8) : (tailL s).length = 8 := rfl
theorem gun_back (s more : List UInt8) (most : Int) (hm : 0 ≤ most) : gunP (deflateP s ++ (tailL s ++ more)) most = if (s.length : Int) ≤ most then (if more = [] then .ok s else .error 3) else .error 5 := by
  unfold gunP
  rw [infl_back s _ most hm]
  by_cases h : (s.length : Int) ≤ most
  · rw [if_pos h, if_pos h]
    simp only []
    have hl : (deflateP s ++ (tailL s ++ more)).length = (deflateP s).length + 8 + more.length := by rw [List.length_append, List.length_append, tailL_length]; omega
    rw [hl, if_neg (by omega), List.drop_left' rfl, List.take_left' (tailL_length s), if_neg (fun h => h rfl)]
    by_cases hmo : more = []
    · rw [if_pos hmo, hmo, if_neg (by simp)]
    · have := List.length_pos_iff.2 hmo
      rw [if_neg hmo, if_pos (by omega)]
  · rw [if_neg h, if_neg h]
theorem deflate_a : deflateP [97] = [75, 4, 0] := by decide +kernel
theorem crc_nine : crcP [49, 50, 51, 52, 53, 54, 55, 56, 57] = 3421780262 := by decide +kernel
theorem gzip_a : gzipP [97] = [31, 139, 8, 0, 0, 0, 0, 0, 0, 255, 75, 4, 0, 67, 190, 183, 232, 1, 0, 0, 0] := by
  unfold gzipP; rw [deflate_a]; decide +kernel
theorem tail_a : tailL [97] = [67, 190, 183, 232, 1, 0, 0, 0] := by decide +kernel
theorem infl_a : inflP [75, 4, 0] 1 = .ok ([97], 3) := by
  have h := infl_back [97] [] 1 (by decide)
  rw [List.append_nil, deflate_a, if_pos (by decide)] at h
  exact h
theorem gun_a : gunP [75, 4, 0, 67, 190, 183, 232, 1, 0, 0, 0] 1 = .ok [97] := by
  have h := gun_back [97] [] 1 (by decide)
  rw [List.append_nil, deflate_a, tail_a, if_pos (by decide), if_pos rfl] at h
  exact h

set_option maxRecDepth 100000 in
set_option maxHeartbeats 4000000 in
theorem works_any (w : World) (hT : Tabs w) (hO : OrdAt w) :
    Calls Tryd.prog 10 #[] w fun e w' => e = .returned (.bool true) ∧ Below w.heap.size w w' := by
  have h1 := inflate_any ⟨#[75, 4, 0]⟩ 1 w (by decide) (by decide) hT hO
  rw [show (⟨#[75, 4, 0]⟩ : ByteArray).data.toList = [75, 4, 0] from rfl, infl_a] at h1
  have h1' : Calls Tryd.prog 16 #[.string ⟨#[75, 4, 0]⟩, .int .i64 1] w fun e w' => e = .returned (.tuple #[.string ⟨#[97]⟩, .int .i64 3, .nilIface]) ∧ Below w.heap.size w w' := h1.mono fun e w' ⟨a, b⟩ => ⟨b, a⟩
  have h2 : ∀ W, Tabs W → OrdAt W → Calls Tryd.prog 19 #[.string ⟨#[31, 139, 8, 0, 0, 0, 0, 0, 0, 255, 75, 4, 0, 67, 190, 183, 232, 1, 0, 0, 0]⟩, .int .i64 1] W fun e w' => e = .returned (.tuple #[.string ⟨#[97]⟩, .nilIface]) ∧ Below W.heap.size W w' := by
    intro W hT hO
    have h := gunzip_any [75, 4, 0, 67, 190, 183, 232, 1, 0, 0, 0] 1 W (by decide) (by decide) hT hO (fun t n h => by
      have h3 := infl_back [97] [67, 190, 183, 232, 1, 0, 0, 0] 1 (by decide)
      rw [deflate_a, if_pos (by decide)] at h3
      rw [show [75, 4, 0] ++ [67, 190, 183, 232, 1, 0, 0, 0] = ([75, 4, 0, 67, 190, 183, 232, 1, 0, 0, 0] : List UInt8) from rfl, h] at h3
      injection h3 with h3
      injection h3 with h4 h5
      rw [h4, h5]
      decide)
    rw [gun_a] at h
    exact h.mono fun e w' ⟨a, b⟩ => ⟨b, a⟩
  have h3 : ∀ W, Tabs W → Calls Tryd.prog 9 #[.string ⟨#[97]⟩] W fun e w' => e = .returned (.string ⟨#[75, 4, 0]⟩) ∧ Below W.heap.size W w' := by
    intro W hT
    have h := deflate_any ⟨#[97]⟩ W (by decide) hT
    rw [show (⟨#[97]⟩ : ByteArray).data.toList = [97] from rfl, deflate_a] at h
    exact h
  have h4 : ∀ W, Calls Tryd.prog 11 #[.string ⟨#[49, 50, 51, 52, 53, 54, 55, 56, 57]⟩] W fun e w' => e = .returned (.int .u32 3421780262) ∧ Below W.heap.size W w' := by
    intro W
    have h := crc_any ⟨#[49, 50, 51, 52, 53, 54, 55, 56, 57]⟩ W (by decide)
    rw [show (⟨#[49, 50, 51, 52, 53, 54, 55, 56, 57]⟩ : ByteArray).data.toList = [49, 50, 51, 52, 53, 54, 55, 56, 57] from rfl, crc_nine] at h
    exact h
  have h5 : ∀ W, Tabs W → Calls Tryd.prog 13 #[.string ⟨#[97]⟩] W fun e w' => e = .returned (.string ⟨#[31, 139, 8, 0, 0, 0, 0, 0, 0, 255, 75, 4, 0, 67, 190, 183, 232, 1, 0, 0, 0]⟩) ∧ Below W.heap.size W w' := by
    intro W hT
    have h := gzip_any ⟨#[97]⟩ W (by decide) hT
    rw [show (⟨#[97]⟩ : ByteArray).data.toList = [97] from rfl, gzip_a] at h
    exact h
  have tb : ∀ W, Below w.heap.size w W → Tabs W ∧ OrdAt W := by
    intro W hb
    have h4 := hT.2.2
    refine ⟨⟨hT.1.below hb (by omega), hT.2.1.below hb (by omega), Nat.lt_of_lt_of_le h4 hb.size⟩, fun i hi => ?_⟩
    rw [hb.cell (p := ⟨3, i, none⟩) (by show 3 < _; omega)]
    exact hO i hi
  have HC := Lib.hid (Below.refl w.heap.size w)
  have H1 := Lib.hid h1'
  have H2 := Lib.hid h2
  have H3 := Lib.hid h3
  have H4 := Lib.hid h4
  have H5 := Lib.hid h5
  have Tb := Lib.hid tb
  clear h1 h1' h2 h3 h4 h5 hT hO tb
  go_enter Tryd.func10, Tryd.ntmps10
  go_wp2_with (first
    | (go_at_call 16; refine (H1.out).mono ?_; rintro e w1 ⟨rfl, hb⟩
       have hq := HC.out.trans (hb.mono HC.out.size)
       clear HC hb
       have HC := Lib.hid hq
       clear hq)
    | (go_at_call 19; refine (H2.out _ (Tb.out _ HC.out).1 (Tb.out _ HC.out).2).mono ?_; rintro e w2 ⟨rfl, hb⟩
       have hq := HC.out.trans (hb.mono HC.out.size)
       clear HC hb
       have HC := Lib.hid hq
       clear hq)
    | (go_at_call 9; refine (H3.out _ (Tb.out _ HC.out).1).mono ?_; rintro e w3 ⟨rfl, hb⟩
       have hq := HC.out.trans (hb.mono HC.out.size)
       clear HC hb
       have HC := Lib.hid hq
       clear hq)
    | (go_at_call 11; refine (H4.out _).mono ?_; rintro e w4 ⟨rfl, hb⟩
       have hq := HC.out.trans (hb.mono HC.out.size)
       clear HC hb
       have HC := Lib.hid hq
       clear hq)
    | (go_at_call 13; refine (H5.out _ (Tb.out _ HC.out).1).mono ?_; rintro e w5 ⟨rfl, hb⟩
       have hq := HC.out.trans (hb.mono HC.out.size)
       clear HC hb
       have HC := Lib.hid hq
       clear hq))
  go_ret
  exact ⟨rfl, HC.out⟩
end Go.Proofs.YtjielagabnkimaaDoor
