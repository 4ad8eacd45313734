/- flate.Inflate: the loop over the symbols of a block, whole; the loop over the bytes of a stored one. -/
import Derived.Test.YtjielagabnkimaaDoorFInflE
set_option linter.unusedSimpArgs false
set_option linter.unusedVariables false
namespace Go.Proofs.YtjielagabnkimaaDoor
open Go.RowKit
theorem InfQ.inBlock {w : World} {M T K E R O : Nat} {most : Int} {res : Except Nat (List UInt8 × Nat)} {Q : Exit → Act → World → Prop} (h : InfQ w M T K E R O most res Q) (id : Nat) : InfQ w M T K E R O most res (Exit.inBlock id Q) := ⟨h.pan, h.ret, h.fr⟩
theorem InfQ.next {w : World} {M T K E R O : Nat} {most : Int} {res : Except Nat (List UInt8 × Nat)} {Q : Exit → Act → World → Prop} (h : InfQ w M T K E R O most res Q) (J : Act → World → Prop) : InfQ w M T K E R O most res (Exit.then J Q) := ⟨h.pan, h.ret, h.fr⟩

set_option maxRecDepth 100000 in
set_option maxHeartbeats 4000000 in
theorem blk5_any (w W : World) (M T K E R O A B base : Nat) (s : ByteArray) (most : Int) (la lb : List Nat) (en : Bool) (g : Nat) (tm : Array Value) (out : List UInt8) (r : List Bool) (res : Except Nat (List UInt8 × Nat)) (Q : Exit → Act → World → Prop)
    (hE : BEnv w M T K E R O A B base s most la lb) (hQ : InfQ w M T K E R O most res Q) (herr : ∀ no, blockGo most la lb g out r = .error no → res = .error no)
    (hF : IFr tm M T K E R O) (hen : tm.getD 10 undef = .bool en) (hA : tm.getD 11 undef = .pointer (some ⟨A, 0, none⟩)) (hB : tm.getD 12 undef = .pointer (some ⟨B, 0, none⟩))
    (hI : InfAt w W M T K E R O base s most out r) (hca : CodeAt W A base la) (hcb : CodeAt W B base lb) (hrl : r.length < g) (hom : out.length = 0 ∨ (out.length : Int) ≤ most)
    (hnext : ∀ tm' W' out' r', IFr tm' M T K E R O → tm'.getD 10 undef = .bool en → InfAt w W' M T K E R O base s most out' r' → (out'.length = 0 ∨ (out'.length : Int) ≤ most) → blockGo most la lb g out r = .ok (out', r') → Q .normal ⟨tm', infD T K E⟩ W') :
    Code.wp Tryd.prog blk5 Q ⟨tm, infD T K E⟩ W := by
  conv => arg 2; whnf
  refine wp_block ?_
  refine wp_loop_ghost_k (BI w M T K E R O A B base s most la lb en (blockGo most la lb g out r)) g ⟨tm, out, r, rfl, hF, hen, hA, hB, hI, hca, hcb, hrl, hom, rfl⟩ ?_
  rintro n a wr ⟨tm2, out2, r2, rfl, hF2, hen2, hA2, hB2, hI2, hca2, hcb2, hrl2, hom2, hgo2⟩ J K2 hJ hK
  have hnx : ∀ tm' W' out' r', IFr tm' M T K E R O → tm'.getD 10 undef = .bool en → InfAt w W' M T K E R O base s most out' r' → (out'.length = 0 ∨ (out'.length : Int) ≤ most) → blockGo most la lb g out r = .ok (out', r') → Exit.inBlock 5 Q (.exit 5) ⟨tm', infD T K E⟩ W' := hnext
  have hKJ : ∀ n' a' w', n' < n → BI w M T K E R O A B base s most la lb en (blockGo most la lb g out r) n' a' w' → K2 a' w' := fun n' a' w' hlt h => hK a' w' ⟨n', hlt, hJ n' a' w' h⟩
  by_cases hc : ∃ y r', symP la r2 = .ok (y, r') ∧ 256 < y ∧ y ≤ 285
  · obtain ⟨y0, r1, hsp, h1, h2⟩ := hc
    exact blk6_match w wr M T K E R O A B base s most la lb en _ n tm2 out2 r2 res (Exit.inBlock 5 Q) K2 hE (hQ.inBlock 5) herr hF2 hen2 hA2 hB2 hI2 hca2 hcb2 hrl2 hom2 hgo2 hKJ y0 r1 hsp h1 h2
  · refine blk6_easy w wr M T K E R O A B base s most la lb en _ n tm2 out2 r2 res (Exit.inBlock 5 Q) K2 hE (hQ.inBlock 5) herr hF2 hen2 hA2 hB2 hI2 hca2 hcb2 hrl2 hom2 hgo2 hnx hKJ ?_
    intro y r' hy
    by_cases h : y ≤ 256
    · exact .inl h
    · refine .inr ?_
      by_cases h3 : 285 < y
      · exact h3
      · exact absurd ⟨y, r', hy, by omega, by omega⟩ hc
noncomputable def blk3 : Code := ((Tryd.f16.body.bind (findBlock 3)).getD .skip)
theorem IFr.open5 {tm : Array Value} {M T K E R O n : Nat} {en : Bool} (h : IFr tm M T K E R O) (hen : tm.getD 10 undef = .bool en) (hn : tm.getD 49 undef = .int .i64 (n : Int)) (hk : tm.getD 50 undef = .int .i64 0) : ∃ x : Nat → Value, tm = #[x 0, x 1, x 2, .pointer (some ⟨M, 0, none⟩), .pointer (some ⟨T, 0, none⟩), .pointer (some ⟨K, 0, none⟩), .pointer (some ⟨E, 0, none⟩), .pointer (some ⟨R, 0, none⟩), .pointer (some ⟨O, 0, none⟩), putIV M O, .bool en, x 11, x 12, x 13, x 14, x 15, x 16, x 17, x 18, x 19, x 20, x 21, x 22, x 23, x 24, x 25, x 26, x 27, x 28, x 29, x 30, x 31, x 32, x 33, x 34, x 35, x 36, x 37, x 38, x 39, x 40, x 41, x 42, x 43, x 44, x 45, x 46, x 47, x 48, .int .i64 (n : Int), .int .i64 0, x 51, x 52, x 53, x 54, x 55, x 56, x 57, x 58, x 59, x 60, x 61, x 62, x 63, x 64, x 65, x 66, x 67, x 68, x 69, x 70, x 71, x 72, x 73, x 74, x 75, x 76, x 77, x 78, x 79, x 80, x 81, x 82, x 83, x 84, x 85, x 86, x 87, x 88, x 89, x 90, x 91, x 92, x 93, x 94, x 95, x 96, x 97, x 98, x 99, x 100, x 101, x 102, x 103, x 104, x 105, x 106, x 107, x 108, x 109, x 110, x 111, x 112, x 113, x 114, x 115, x 116, x 117, x 118, x 119, x 120, x 121, x 122, x 123, x 124, x 125, x 126, x 127, x 128, x 129, x 130, x 131, x 132, x 133, x 134, x 135, x 136, x 137, x 138, x 139, x 140, x 141, x 142, x 143, x 144, x 145, x 146, x 147, x 148, x 149, x 150, x 151, x 152, x 153, x 154, x 155] := by
  obtain ⟨hz, h3, h4, h5, h6, h7, h8, h9⟩ := h
  obtain ⟨x, hx, hg⟩ := arr156 tm hz
  refine ⟨x, ?_⟩
  rw [← hg 3] at h3
  rw [← hg 4] at h4
  rw [← hg 5] at h5
  rw [← hg 6] at h6
  rw [← hg 7] at h7
  rw [← hg 8] at h8
  rw [← hg 9] at h9
  rw [← hg 10] at hen
  rw [← hg 49] at hn
  rw [← hg 50] at hk
  rw [h3, h4, h5, h6, h7, h8, h9, hen, hn, hk] at hx
  exact hx

set_option maxRecDepth 100000 in
set_option maxHeartbeats 4000000 in
theorem blk3_any (w W : World) (M T K E R O base : Nat) (s : ByteArray) (most : Int) (en : Bool) (n : Nat) (tm : Array Value) (out : List UInt8) (r : List Bool) (res : Except Nat (List UInt8 × Nat)) (Q : Exit → Act → World → Prop)
    (hs : s.size < 2 ^ 40) (hls : most < 2 ^ 40) (hbO : base ≤ O + 1) (hn : n < 65536)
    (hQ : InfQ w M T K E R O most res Q) (herr : ∀ no, storedGo most n out r = .error no → res = .error no)
    (hF : IFr tm M T K E R O) (hen : tm.getD 10 undef = .bool en) (hn49 : tm.getD 49 undef = .int .i64 (n : Int)) (hk50 : tm.getD 50 undef = .int .i64 0)
    (hI : InfAt w W M T K E R O base s most out r) (hom : out.length = 0 ∨ (out.length : Int) ≤ most)
    (hnext : ∀ tm' W' out' r', IFr tm' M T K E R O → tm'.getD 10 undef = .bool en → InfAt w W' M T K E R O base s most out' r' → (out'.length = 0 ∨ (out'.length : Int) ≤ most) → storedGo most n out r = .ok (out', r') → Q .normal ⟨tm', infD T K E⟩ W') :
    Code.wp Tryd.prog blk3 Q ⟨tm, infD T K E⟩ W := by
  obtain ⟨x, rfl⟩ := hF.open5 hen hn49 hk50
  obtain ⟨TT, hTT⟩ : ∃ t, t = storedGo most n out r := ⟨_, rfl⟩
  rw [← hTT] at herr hnext
  have HTT := Lib.hid hTT
  have HQ := Lib.hid hQ
  have Herr := Lib.hid herr
  have HI := Lib.hid hI
  have Hom := Lib.hid hom
  have Hnext := Lib.hid hnext
  clear hTT hQ herr hF hen hn49 hk50 hI hom hnext
  unfold infD putIV
  conv => arg 2; whnf
  go_wp2_with fail
  go_loopw [50] (fun kv wr => ∃ (k : Nat) (out2 : List UInt8) (r2 : List Bool), kv = .int .i64 (k : Int) ∧ k ≤ n ∧ InfAt w wr M T K E R O base s most out2 r2 ∧ (out2.length = 0 ∨ (out2.length : Int) ≤ most) ∧ storedGo most (n - k) out2 r2 = TT) (fun kv _ => n - (intOf kv).toNat)
  case atStart => exact ⟨0, out, r, rfl, Nat.zero_le _, HI.out, Hom.out, HTT.out.symm⟩
  case round =>
    obtain ⟨k, out2, r2, rfl, hk, hI2, hom2, hgo⟩ := hrel
    have hol : out2.length < 2 ^ 40 := by omega
    by_cases hlt : (k : Int) < (n : Int)
    · obtain ⟨f, hf⟩ : ∃ f, n - k = f + 1 := ⟨n - k - 1, by omega⟩
      rw [hf, storedGo] at hgo
      obtain ⟨po, co, cO⟩ := hI2.outLen
      obtain ⟨e1, e2, e3, e4, e5, e6, e7, e8, e9, e10, e11, e12, e13⟩ := hI2.l.cells
      have HI2 := Lib.hid hI2
      have Hom2 := Lib.hid hom2
      have Hf := Lib.hid hf
      clear hI2 hom2 hf
      by_cases hfull : most ≤ (out2.length : Int)
      · rw [if_pos hfull] at hgo
        have hres := Herr.out 5 hgo.symm
        have Hres := Lib.hid hres
        clear hres hgo
        go_wp2_with fail
        exact HQ.out.ret 5 _ _ ⟨rfl, rfl, rfl, rfl, rfl, rfl, rfl, rfl⟩ (HI2.out.l.ret 5) Hres.out
      · rw [if_neg hfull] at hgo
        by_cases hb : 8 ≤ r2.length
        · rw [takeB_ok hb] at hgo
          obtain ⟨r3, hr3⟩ : ∃ x, x = r2.drop 8 := ⟨_, rfl⟩
          obtain ⟨v, hv⟩ : ∃ x, x = num (r2.take 8) := ⟨_, rfl⟩
          have hv256 : v < 256 := by rw [hv]; exact num_take_lt 8 r2
          have hbb := bits_ok R s r2 8 wr HI2.out.src (by decide) hs hb
          rw [← hr3, ← hv] at hbb hgo
          simp only [] at hgo
          have Hb := Lib.hid hbb
          have Hgo := Lib.hid hgo
          clear hbb hgo hr3 hv hb
          go_wp2_with (first
            | (go_at_call 35; refine (Hb.out).mono ?_; rintro e w8 ⟨rfl, hS8, hk8⟩; clear Hb
               have hI8 := HI2.out.bits hS8 hk8
               have hp := fput_ok O M base out2 most (UInt8.ofNat v) w8 hI8.out hI8.l.m (by omega) (by omega) hol
               rw [show ((UInt8.ofNat v).toNat : Int) = (v : Int) from by simp; omega] at hp
               have Hp := Lib.hid hp
               have HI8 := Lib.hid hI8
               clear hS8 hk8 hI8 hp)
            | (go_at_call 34; refine (Hp.out).mono ?_; rintro e w9 ⟨rfl, hO9, hk9⟩; clear Hp
               have hI9 := HI8.out.put hO9 hk9
               have HI9 := Lib.hid hI9
               clear hO9 hk9 hI9))
          go_roundw
          case rel => exact ⟨k + 1, out2 ++ [UInt8.ofNat v], r3, by go_num, by omega, HI9.out, by right; rw [List.length_append, List.length_singleton]; omega, by rw [show n - (k + 1) = f by have := Hf.out; omega]; exact Hgo.out⟩
          case measure => simp [intOf]; omega
        · rw [takeB_no hb] at hgo
          simp only [] at hgo
          have hbb := bits_short R s r2 8 wr HI2.out.src (by decide) hs (by omega)
          have hres := Herr.out 2 hgo.symm
          have Hres := Lib.hid hres
          have Hb := Lib.hid hbb
          clear hbb hres hgo hb
          go_wp2_with (go_at_call 35; refine (Hb.out).mono ?_; rintro e w8 ⟨rfl, hk8⟩; clear Hb)
          exact HQ.out.pan 2 _ _ ⟨rfl, rfl, rfl, rfl, rfl, rfl, rfl, rfl⟩ (HI2.out.low hk8 (fun k o h => by show k ≠ R; have := HI2.out.o; omega)) Hres.out
    · obtain rfl : k = n := by omega
      rw [Nat.sub_self, storedGo] at hgo
      have Hgo := Lib.hid hgo
      have HI2 := Lib.hid hI2
      have Hom2 := Lib.hid hom2
      clear hgo hI2 hom2
      go_wp2_with fail
      exact Hnext.out _ _ out2 r2 ⟨rfl, rfl, rfl, rfl, rfl, rfl, rfl, rfl⟩ rfl HI2.out Hom2.out Hgo.out.symm
end Go.Proofs.YtjielagabnkimaaDoor
