/- strataref06.Deflate, Gzip; what FlateDeflates and FlateGzips answer: true. -/
import Derived.Test.YtjielagabnkimaaDoorFRefS
import Derived.Test.YtjielagabnkimaaDoorFLaws
set_option linter.unusedSimpArgs false
set_option linter.unusedVariables false
namespace Go.Proofs.YtjielagabnkimaaDoor
open Go.RowKit

set_option maxRecDepth 100000 in
set_option maxHeartbeats 2000000 in
theorem rdeflate_any (s : ByteArray) (w : World) (hs : s.size < 2 ^ 30) :
    Calls Tryd.prog 8 #[.string s] w fun e w' => e = .returned (.string (bs (deflateP s.data.toList))) ∧ Below w.heap.size w w' := by
  have h1 := fun W => rstored_any s W hs
  have h2 := fun W => rshort_any s W hs
  have hblk : s.data.toList.length ≤ 65535 * blocksN s.size ∧ 0 < blocksN s.size := by show s.size ≤ _ ∧ _; unfold blocksN; omega
  have hsl := storedP_length (blocksN s.size) s.data.toList hblk.1 hblk.2
  have hd : deflateP s.data.toList = if (storedP (blocksN s.size) s.data.toList).length ≤ (shortP s.data.toList).length then storedP (blocksN s.size) s.data.toList else shortP s.data.toList := by
    rw [hsl]
    unfold deflateP
    by_cases h : (shortP s.data.toList).length < s.data.toList.length + 5 * blocksN s.data.toList.length
    · rw [if_pos h, if_neg (by omega)]
    · rw [if_neg h, if_pos (by omega)]; rfl
  obtain ⟨a, ha⟩ : ∃ a, a = bs (storedP (blocksN s.size) s.data.toList) := ⟨_, rfl⟩
  obtain ⟨b, hb⟩ : ∃ b, b = bs (shortP s.data.toList) := ⟨_, rfl⟩
  have hd2 : bs (deflateP s.data.toList) = if a.size ≤ b.size then a else b := by
    rw [hd, ha, hb]
    show _ = if (storedP (blocksN s.size) s.data.toList).length ≤ (shortP s.data.toList).length then _ else _
    split <;> rfl
  have ha2 : a.size < 2 ^ 40 := by rw [ha]; show (storedP (blocksN s.size) s.data.toList).length < _; rw [hsl]; show s.size + 5 * blocksN s.size < _; unfold blocksN; omega
  have hb2 : b.size < 2 ^ 40 := by
    rw [hb]
    show (packed (shortBits s.data.toList)).length < _
    have h := shortBits_length s.data.toList
    have h' : s.data.toList.length = s.size := rfl
    rw [packed_length]; omega
  rw [← ha] at h1
  rw [← hb] at h2
  rw [hd2]
  have H1 := Lib.hid h1
  have H2 := Lib.hid h2
  clear h1 h2 hblk hsl hd ha hb hd2 hs
  by_cases hab : (a.size : Int) ≤ (b.size : Int)
  · rw [if_pos (by omega)]
    go_enter Tryd.func8, Tryd.ntmps8
    go_wp2_with (first
      | (go_at_call 20; refine (H1.out _).mono ?_; rintro e w1 ⟨rfl, hq1⟩
         have Hq1 := Lib.hid hq1
         clear hq1)
      | (go_at_call 21; refine (H2.out _).mono ?_; rintro e w2 ⟨rfl, hq2⟩
         have Hq2 := Lib.hid hq2
         clear hq2))
    go_ret
    exact ⟨rfl, Hq1.out.trans (Hq2.out.mono Hq1.out.size)⟩
  · rw [if_neg (by omega)]
    go_enter Tryd.func8, Tryd.ntmps8
    go_wp2_with (first
      | (go_at_call 20; refine (H1.out _).mono ?_; rintro e w1 ⟨rfl, hq1⟩
         have Hq1 := Lib.hid hq1
         clear hq1)
      | (go_at_call 21; refine (H2.out _).mono ?_; rintro e w2 ⟨rfl, hq2⟩
         have Hq2 := Lib.hid hq2
         clear hq2))
    go_ret
    exact ⟨rfl, Hq1.out.trans (Hq2.out.mono Hq1.out.size)⟩

set_option maxRecDepth 100000 in
set_option maxHeartbeats 2000000 in
theorem rgzip_any (s : ByteArray) (w : World) (hs : s.size < 2 ^ 30) :
    Calls Tryd.prog 14 #[.string s] w fun e w' => e = .returned (.string (bs (gzipP s.data.toList))) ∧ Below w.heap.size w w' := by
  have hd := rdeflate_any s w hs
  have hcl := crcP_lt s.data.toList
  obtain ⟨d, hdd⟩ : ∃ d, d = bs (deflateP s.data.toList) := ⟨_, rfl⟩
  have hds : d.size < 2 ^ 31 := by rw [hdd]; exact deflateP_small (show s.data.toList.length < 2 ^ 30 from hs)
  obtain ⟨c, hc⟩ : ∃ c, c = crcP s.data.toList := ⟨_, rfl⟩
  have hcr := fun W => rcrc_any s W (by omega)
  rw [← hdd] at hd
  rw [← hc] at hcl
  rw [← hc] at hcr
  obtain ⟨f1, hf1⟩ : ∃ f, f = bs (fourP c) := ⟨_, rfl⟩
  obtain ⟨f2, hf2⟩ : ∃ f, f = bs (fourP s.size) := ⟨_, rfl⟩
  have hf1s : f1.size = 4 := by rw [hf1]; rfl
  have hf2s : f2.size = 4 := by rw [hf2]; rfl
  have hF1 := fun W => rfour_any c W hcl
  have hF2 := fun W => rfour_any s.size W (by omega)
  rw [← hf1] at hF1
  rw [← hf2] at hF2
  have hfin : ((⟨#[31, 139, 8, 0, 0, 0, 0, 0, 0, 255]⟩ ++ d) ++ f1) ++ f2 = bs (gzipP s.data.toList) := by
    rw [hf1, hf2, hdd, hc, append_bs, append_bs, append_bs]
    unfold gzipP tailL frameL
    rw [Nat.mod_eq_of_lt (show s.data.toList.length < 4294967296 by show s.size < 4294967296; omega)]
    simp only [bs, List.append_assoc]
    rfl
  have hf1s' : f1.size ≤ 4 := by omega
  have hf2s' : f2.size ≤ 4 := by omega
  have Hd := Lib.hid hd
  have Hcr := Lib.hid hcr
  have HF1 := Lib.hid hF1
  have HF2 := Lib.hid hF2
  have Hfin := Lib.hid hfin
  clear hd hdd hc hcr hf1 hf2 hF1 hF2 hfin hf1s hf2s
  go_enter Tryd.func14, Tryd.ntmps14
  go_wp2_with (go_at_call 8; refine (Hd.out).mono ?_; rintro e w1 ⟨rfl, hb1⟩; clear Hd
               have Hb1 := Lib.hid hb1
               clear hb1)
  go_wp2_with (go_at_call 12; refine (Hcr.out _).mono ?_; rintro e w2 ⟨rfl, rfl⟩; clear Hcr)
  have HF1' := HF1
  go_wp2_with (go_at_call 24; refine (HF1.out _).mono ?_; rintro e w3 ⟨rfl, hb3⟩; clear HF1
               have Hb3 := Lib.hid hb3
               clear hb3)
  go_wp2_with (go_at_call 24; refine (HF2.out _).mono ?_; rintro e w4 ⟨rfl, hb4⟩; clear HF2
               have Hb4 := Lib.hid hb4
               clear hb4)
  go_ret
  have h1 := Hb1.out.size
  have h3 := Hb3.out.size
  exact ⟨ret_str Hfin.out, Hb1.out.trans ((Hb3.out.mono (by omega)).trans (Hb4.out.mono (by omega)))⟩


set_option maxRecDepth 100000 in
set_option maxHeartbeats 4000000 in
theorem flateDeflates_any (s : ByteArray) (w : World) (hs : s.size ≤ 9223372036854775807) (hT : Tabs w) (hO : OrdAt w) :
    Calls Tryd.prog 3 #[.string s] w fun e w' => e = .returned (.bool true) ∧ Below w.heap.size w w' := by
  by_cases hbig : (131072 : Int) < (s.size : Int)
  · clear hT hO
    go_enter Tryd.func3, Tryd.ntmps3
    go_wp2_with fail
    go_ret
    exact ⟨rfl, Below.refl _ _⟩
  · have h1 := fun W hb => deflate_any s W (by omega) (tabs_below (W := W) hT hO hb).1
    have h2 := fun W => rdeflate_any s W (by omega)
    obtain ⟨c, hc⟩ : ∃ c, c = bs (deflateP s.data.toList) := ⟨_, rfl⟩
    rw [← hc] at h2
    simp only [← hc] at h1
    have h3 := fun W hb => works_any W (tabs_below (W := W) hT hO hb).1 (tabs_below hT hO hb).2
    have HC := Lib.hid (Below.refl w.heap.size w)
    have H1 := Lib.hid h1
    have H2 := Lib.hid h2
    have H3 := Lib.hid h3
    clear h1 h2 h3 hc hT hO
    go_enter Tryd.func3, Tryd.ntmps3
    go_wp2_with (first
      | (go_at_call 8; refine (H2.out _).mono ?_; rintro e w2 ⟨rfl, hb⟩
         have hq := HC.out.trans (hb.mono HC.out.size)
         clear HC hb
         have HC := Lib.hid hq
         clear hq)
      | (go_at_call 9; refine (H1.out _ HC.out).mono ?_; rintro e w1 ⟨rfl, hb⟩
         have hq := HC.out.trans (hb.mono HC.out.size)
         clear HC hb
         have HC := Lib.hid hq
         clear hq)
      | (go_at_call 10; refine (H3.out _ HC.out).mono ?_; rintro e w3 ⟨rfl, hb⟩
         have hq := HC.out.trans (hb.mono HC.out.size)
         clear HC hb
         have HC := Lib.hid hq
         clear hq))
    go_ret
    exact ⟨rfl, HC.out⟩

set_option maxRecDepth 100000 in
set_option maxHeartbeats 4000000 in
theorem flateGzips_any (s : ByteArray) (w : World) (hs : s.size ≤ 9223372036854775807) (hT : Tabs w) (hO : OrdAt w) :
    Calls Tryd.prog 5 #[.string s] w fun e w' => e = .returned (.bool true) ∧ Below w.heap.size w w' := by
  by_cases hbig : (131072 : Int) < (s.size : Int)
  · clear hT hO
    go_enter Tryd.func5, Tryd.ntmps5
    go_wp2_with fail
    go_ret
    exact ⟨rfl, Below.refl _ _⟩
  · have h1 := fun W hb => gzip_any s W (by omega) (tabs_below (W := W) hT hO hb).1
    have h2 := fun W => rgzip_any s W (by omega)
    obtain ⟨c, hc⟩ : ∃ c, c = bs (gzipP s.data.toList) := ⟨_, rfl⟩
    rw [← hc] at h2
    simp only [← hc] at h1
    have h3 := fun W hb => works_any W (tabs_below (W := W) hT hO hb).1 (tabs_below hT hO hb).2
    have HC := Lib.hid (Below.refl w.heap.size w)
    have H1 := Lib.hid h1
    have H2 := Lib.hid h2
    have H3 := Lib.hid h3
    clear h1 h2 h3 hc hT hO
    go_enter Tryd.func5, Tryd.ntmps5
    go_wp2_with (first
      | (go_at_call 14; refine (H2.out _).mono ?_; rintro e w2 ⟨rfl, hb⟩
         have hq := HC.out.trans (hb.mono HC.out.size)
         clear HC hb
         have HC := Lib.hid hq
         clear hq)
      | (go_at_call 13; refine (H1.out _ HC.out).mono ?_; rintro e w1 ⟨rfl, hb⟩
         have hq := HC.out.trans (hb.mono HC.out.size)
         clear HC hb
         have HC := Lib.hid hq
         clear hq)
      | (go_at_call 10; refine (H3.out _ HC.out).mono ?_; rintro e w3 ⟨rfl, hb⟩
         have hq := HC.out.trans (hb.mono HC.out.size)
         clear HC hb
         have HC := Lib.hid hq
         clear hq))
    go_ret
    exact ⟨rfl, HC.out⟩
end Go.Proofs.YtjielagabnkimaaDoor
