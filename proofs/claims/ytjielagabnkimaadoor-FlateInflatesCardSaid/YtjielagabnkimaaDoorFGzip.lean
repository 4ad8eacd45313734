/- flate.Gzip; flate.head and flate.Gunzip of what stands in the frame that Gzip writes. -/
import Derived.Test.YtjielagabnkimaaDoorFInflH
import Derived.Test.YtjielagabnkimaaDoorFFour
import Derived.Test.YtjielagabnkimaaDoorFBack
set_option linter.unusedSimpArgs false
set_option linter.unusedVariables false
namespace Go.Proofs.YtjielagabnkimaaDoor
open Go.RowKit
def frameL : List UInt8 := [31, 139, 8, 0, 0, 0, 0, 0, 0, 255]
def tailL (s : List UInt8) : List UInt8 := fourP (crcP s) ++ fourP (s.length % 4294967296)
def gzipP (s : List UInt8) : List UInt8 := frameL ++ (deflateP s ++ tailL s)
theorem deflateP_length (s : List UInt8) : (deflateP s).length ≤ s.length + 5 * blocksN s.length := by
  have hblk : s.length ≤ 65535 * blocksN s.length ∧ 0 < blocksN s.length := by unfold blocksN; omega
  unfold deflateP
  split
  · omega
  · rw [storedP_length _ s hblk.1 hblk.2]; exact Nat.le_refl _
theorem deflateP_small {s : List UInt8} (h : s.length < 2 ^ 30) : (deflateP s).length < 2 ^ 31 := by
  have := deflateP_length s
  unfold blocksN at this
  omega
theorem fourP_length (x : Nat) : (fourP x).length = 4 := rfl
theorem crcP_lt (l : List UInt8) : crcP l < 4294967296 := by unfold crcP; omega
theorem gzipP_length (s : List UInt8) : (gzipP s).length = (deflateP s).length + 18 := by
  unfold gzipP tailL
  simp only [List.length_append, fourP_length]
  show 10 + _ = _
  omega

set_option maxRecDepth 100000 in
set_option maxHeartbeats 2000000 in
theorem gzip_any (s : ByteArray) (w : World) (hs : s.size < 2 ^ 30) (hT : Tabs w) :
    Calls Tryd.prog 13 #[.string s] w fun e w' => e = .returned (.string (bs (gzipP s.data.toList))) ∧ Below w.heap.size w w' := by
  have hd := deflate_any s w hs hT
  have hcl := crcP_lt s.data.toList
  obtain ⟨d, hdd⟩ : ∃ d, d = bs (deflateP s.data.toList) := ⟨_, rfl⟩
  have hds : d.size < 2 ^ 31 := by rw [hdd]; exact deflateP_small (show s.data.toList.length < 2 ^ 30 from hs)
  obtain ⟨c, hc⟩ : ∃ c, c = crcP s.data.toList := ⟨_, rfl⟩
  have hcr := fun W => crc_any s W (by omega)
  rw [← hdd] at hd
  rw [← hc] at hcl
  rw [← hc] at hcr
  obtain ⟨f1, hf1⟩ : ∃ f, f = bs (fourP c) := ⟨_, rfl⟩
  obtain ⟨f2, hf2⟩ : ∃ f, f = bs (fourP s.size) := ⟨_, rfl⟩
  have hf1s : f1.size = 4 := by rw [hf1]; rfl
  have hf2s : f2.size = 4 := by rw [hf2]; rfl
  have hF1 := fun W => four_any c W hcl
  have hF2 := fun W => four_any s.size W (by omega)
  rw [← hf1] at hF1
  rw [← hf2] at hF2
  have hfin : ((⟨#[31, 139, 8, 0, 0, 0, 0, 0, 0, 255]⟩ ++ d) ++ f1) ++ f2 = bs (gzipP s.data.toList) := by
    rw [hf1, hf2, hdd, hc, append_bs, append_bs, append_bs]
    unfold gzipP tailL frameL
    rw [Nat.mod_eq_of_lt (show s.data.toList.length < 4294967296 by show s.size < 4294967296; omega)]
    simp only [bs, List.append_assoc]
    rfl
  have hf1s' : f1.size ≤ 4 := by omega
  have hf2s' : f2.size ≤ 4 := by omega
  have Hd := Lib.hid hd
  have Hcr := Lib.hid hcr
  have HF1 := Lib.hid hF1
  have HF2 := Lib.hid hF2
  have Hfin := Lib.hid hfin
  clear hd hdd hc hcr hf1 hf2 hF1 hF2 hfin hf1s hf2s hT
  go_enter Tryd.func13, Tryd.ntmps13
  go_wp2_with (go_at_call 9; refine (Hd.out).mono ?_; rintro e w1 ⟨rfl, hb1⟩; clear Hd
               have Hb1 := Lib.hid hb1
               clear hb1)
  go_wp2_with (go_at_call 11; refine (Hcr.out _).mono ?_; rintro e w2 ⟨rfl, hb2⟩; clear Hcr
               have Hb2 := Lib.hid hb2
               clear hb2)
  have HF1' := HF1
  go_wp2_with (go_at_call 23; refine (HF1.out _).mono ?_; rintro e w3 ⟨rfl, hb3⟩; clear HF1
               have Hb3 := Lib.hid hb3
               clear hb3)
  go_wp2_with (go_at_call 23; refine (HF2.out _).mono ?_; rintro e w4 ⟨rfl, hb4⟩; clear HF2
               have Hb4 := Lib.hid hb4
               clear hb4)
  go_ret
  have h1 := Hb1.out.size
  have h2 := Hb2.out.size
  have h3 := Hb3.out.size
  exact ⟨ret_str Hfin.out, Hb1.out.trans ((Hb2.out.mono (by omega)).trans ((Hb3.out.mono (by omega)).trans (Hb4.out.mono (by omega))))⟩

/-- the head of such a frame -/
def HeadOk (s : ByteArray) : Prop := ∃ h : 10 ≤ s.size, s[0]'(by omega) = 31 ∧ s[1]'(by omega) = 139 ∧ s[2]'(by omega) = 8 ∧ s[3]'(by omega) = 0
theorem headOk_of {l : List UInt8} : HeadOk (bs (frameL ++ l)) := ⟨by show 10 ≤ (frameL ++ l).length; rw [List.length_append]; show 10 ≤ 10 + _; omega, rfl, rfl, rfl, rfl⟩

set_option maxRecDepth 100000 in
set_option maxHeartbeats 4000000 in
theorem head_ok (s : ByteArray) (w : World) (h : HeadOk s) (hs : s.size < 2 ^ 40) :
    Calls Tryd.prog 41 #[.string s] w fun e w' => e = .returned (.tuple #[.int .i64 10, .nilIface]) ∧ Same w w' := by
  obtain ⟨h10, b0, b1, b2, b3⟩ := h
  have n0 : 0 < s.size := by omega
  have n1 : 1 < s.size := by omega
  have n2 : 2 < s.size := by omega
  have n3 : 3 < s.size := by omega
  have i0 : (0 : Int) < (s.size : Int) := by omega
  have i1 : (1 : Int) < (s.size : Int) := by omega
  have i2 : (2 : Int) < (s.size : Int) := by omega
  have i3 : (3 : Int) < (s.size : Int) := by omega
  have z0 : ((0 : Int) == (s.size : Int)) = false := beq_eq_false_iff_ne.2 (by omega)
  have z1 : ((1 : Int) == (s.size : Int)) = false := beq_eq_false_iff_ne.2 (by omega)
  have z2 : ((2 : Int) == (s.size : Int)) = false := beq_eq_false_iff_ne.2 (by omega)
  have z3 : ((3 : Int) == (s.size : Int)) = false := beq_eq_false_iff_ne.2 (by omega)
  go_enter Tryd.func41, Tryd.ntmps41
  go_wp2_with fail
  go_loopw [9] (fun iv wr => ∃ i : Nat, iv = .int .i64 (i : Int) ∧ i ≤ 4 ∧ Same w wr) (fun iv _ => 4 - (intOf iv).toNat)
  case atStart => exact ⟨0, rfl, by omega, Same.refl w⟩
  case round =>
    obtain ⟨i, rfl, hi, hsm⟩ := hrel
    have Hsm := Lib.hid hsm
    clear hsm
    by_cases h4 : i = 4
    · subst h4
      have f8 : (bits BinOp.and IntKind.u8 0 8 != 0) = false := by decide
      have f16 : (bits BinOp.and IntKind.u8 0 16 != 0) = false := by decide
      have f4 : (bits BinOp.and IntKind.u8 0 4 != 0) = false := by decide
      have f2 : (bits BinOp.and IntKind.u8 0 2 != 0) = false := by decide
      have l10 : decide ((s.size : Int) < 10) = false := by simp; omega
      go_wp2_with fail
      go_loopw [6, 7] (fun av bv wr2 => av = .int .i64 10 ∧ (bv = .int .u8 8 ∨ bv = .int .u8 16 ∨ bv = .int .u8 32) ∧ Same w wr2) (fun _ bv _ => 40 - (intOf bv).toNat)
      case atStart => exact ⟨rfl, .inl rfl, Hsm.out⟩
      case round =>
        obtain ⟨rfl, hbv, hsm2⟩ := hrel
        have Hsm2 := Lib.hid hsm2
        clear hsm2
        obtain rfl | rfl | rfl := hbv
        · go_wp2_with fail
          go_roundw
          case rel => exact ⟨rfl, .inr (.inl rfl), Hsm2.out⟩
          case measure => simp [intOf]
        · go_wp2_with fail
          go_roundw
          case rel => exact ⟨rfl, .inr (.inr rfl), Hsm2.out⟩
          case measure => simp [intOf]
        · go_wp2_with fail
          go_ret2
          exact ⟨rfl, Hsm2.out⟩
    · obtain rfl | rfl | rfl | rfl : i = 0 ∨ i = 1 ∨ i = 2 ∨ i = 3 := by omega
      · go_wp2_with fail
        go_quiet (fail)
        go_wp2_with fail
        go_roundw
        case rel => exact ⟨1, by go_num, by omega, Hsm.out.drewN _⟩
        case measure => simp [intOf]
      · go_wp2_with fail
        go_quiet (fail)
        go_wp2_with fail
        go_roundw
        case rel => exact ⟨2, by go_num, by omega, Hsm.out.drewN _⟩
        case measure => simp [intOf]
      · go_wp2_with fail
        go_quiet (fail)
        go_wp2_with fail
        go_roundw
        case rel => exact ⟨3, by go_num, by omega, Hsm.out.drewN _⟩
        case measure => simp [intOf]
      · go_wp2_with fail
        go_quiet (fail)
        go_wp2_with fail
        go_roundw
        case rel => exact ⟨4, by go_num, by omega, Hsm.out.drewN _⟩
        case measure => simp [intOf]
end Go.Proofs.YtjielagabnkimaaDoor
