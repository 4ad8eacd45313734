/- flate.Inflate: the loop over the symbols of a block. -/
import Derived.Test.YtjielagabnkimaaDoorFInflC
import Derived.Test.YtjielagabnkimaaDoorFCodes
set_option linter.unusedSimpArgs false
set_option linter.unusedVariables false
namespace Go.Proofs.YtjielagabnkimaaDoor
open Go.RowKit
attribute [local go_sem ↓] Go.wp_at_zero Go.wp_at_succ
noncomputable def blk6 : Code := ((Tryd.f16.body.bind (findBlock 6)).getD .skip)
noncomputable def blk5 : Code := ((Tryd.f16.body.bind (findBlock 5)).getD .skip)
/-- what does not change while a block is read -/
structure BEnv (w : World) (M T K E R O A B base : Nat) (s : ByteArray) (most : Int) (la lb : List Nat) : Prop where
  tabs : Tabs w
  m4 : 3 < M
  o : E < R ∧ R < O ∧ O < base
  b : base ≤ O + 1
  a : O < A ∧ O < B
  s : s.size < 2 ^ 40
  most : most < 2 ^ 40
  la : la.length ≤ 1000
  lb : lb.length ≤ 1000
/-- the head of a round -/
def BI (w : World) (M T K E R O A B base : Nat) (s : ByteArray) (most : Int) (la lb : List Nat) (en : Bool) (TT : Except Nat (List UInt8 × List Bool)) (n : Nat) (a : Act) (W : World) : Prop :=
  ∃ (tm : Array Value) (out : List UInt8) (r : List Bool), a = ⟨tm, infD T K E⟩ ∧ IFr tm M T K E R O ∧ tm.getD 10 undef = .bool en ∧ tm.getD 11 undef = .pointer (some ⟨A, 0, none⟩) ∧ tm.getD 12 undef = .pointer (some ⟨B, 0, none⟩) ∧
    InfAt w W M T K E R O base s most out r ∧ CodeAt W A base la ∧ CodeAt W B base lb ∧ r.length < n ∧ (out.length = 0 ∨ (out.length : Int) ≤ most) ∧ blockGo most la lb n out r = TT
theorem IFr.open4 {tm : Array Value} {M T K E R O A B : Nat} {en : Bool} (h : IFr tm M T K E R O) (hen : tm.getD 10 undef = .bool en) (hA : tm.getD 11 undef = .pointer (some ⟨A, 0, none⟩)) (hB : tm.getD 12 undef = .pointer (some ⟨B, 0, none⟩)) : ∃ x : Nat → Value, tm = #[x 0, x 1, x 2, .pointer (some ⟨M, 0, none⟩), .pointer (some ⟨T, 0, none⟩), .pointer (some ⟨K, 0, none⟩), .pointer (some ⟨E, 0, none⟩), .pointer (some ⟨R, 0, none⟩), .pointer (some ⟨O, 0, none⟩), putIV M O, .bool en, .pointer (some ⟨A, 0, none⟩), .pointer (some ⟨B, 0, none⟩), x 13, x 14, x 15, x 16, x 17, x 18, x 19, x 20, x 21, x 22, x 23, x 24, x 25, x 26, x 27, x 28, x 29, x 30, x 31, x 32, x 33, x 34, x 35, x 36, x 37, x 38, x 39, x 40, x 41, x 42, x 43, x 44, x 45, x 46, x 47, x 48, x 49, x 50, x 51, x 52, x 53, x 54, x 55, x 56, x 57, x 58, x 59, x 60, x 61, x 62, x 63, x 64, x 65, x 66, x 67, x 68, x 69, x 70, x 71, x 72, x 73, x 74, x 75, x 76, x 77, x 78, x 79, x 80, x 81, x 82, x 83, x 84, x 85, x 86, x 87, x 88, x 89, x 90, x 91, x 92, x 93, x 94, x 95, x 96, x 97, x 98, x 99, x 100, x 101, x 102, x 103, x 104, x 105, x 106, x 107, x 108, x 109, x 110, x 111, x 112, x 113, x 114, x 115, x 116, x 117, x 118, x 119, x 120, x 121, x 122, x 123, x 124, x 125, x 126, x 127, x 128, x 129, x 130, x 131, x 132, x 133, x 134, x 135, x 136, x 137, x 138, x 139, x 140, x 141, x 142, x 143, x 144, x 145, x 146, x 147, x 148, x 149, x 150, x 151, x 152, x 153, x 154, x 155] := by
  obtain ⟨hz, h3, h4, h5, h6, h7, h8, h9⟩ := h
  obtain ⟨x, hx, hg⟩ := arr156 tm hz
  refine ⟨x, ?_⟩
  rw [← hg 3] at h3
  rw [← hg 4] at h4
  rw [← hg 5] at h5
  rw [← hg 6] at h6
  rw [← hg 7] at h7
  rw [← hg 8] at h8
  rw [← hg 9] at h9
  rw [← hg 10] at hen
  rw [← hg 11] at hA
  rw [← hg 12] at hB
  rw [h3, h4, h5, h6, h7, h8, h9, hen, hA, hB] at hx
  exact hx
theorem symGo_less {l : List Nat} : ∀ {f k x first : Nat} {r : List Bool} {y : Nat} {r' : List Bool}, symGo l f k x first r = .ok (y, r') → r'.length < r.length
  | 0, k, x, first, r, y, r', h => by simp [symGo] at h
  | f + 1, k, x, first, [], y, r', h => by simp [symGo] at h
  | f + 1, k, x, first, b :: r, y, r', h => by
    rw [symGo] at h
    generalize (if b = true then 1 else 0) = c at h
    rw [List.length_cons]
    by_cases h1 : 2 * x + c < 2 * first + cntN l (k + 1)
    · rw [if_pos h1] at h
      injection h with h
      injection h with _ h4
      rw [h4]; omega
    · rw [if_neg h1] at h
      by_cases h2 : (symsN l).length = 1
      · rw [if_pos h2] at h; cases h
      · rw [if_neg h2] at h
        have := symGo_less h
        omega
theorem symP_less {l : List Nat} {r : List Bool} {y : Nat} {r' : List Bool} (h : symP l r = .ok (y, r')) : r'.length < r.length := by
  unfold symP at h
  split at h
  · cases h
  · exact symGo_less h
/-- a code stands while bytes come -/
theorem CodeAt.put {w w' : World} {C O base : Nat} {l : List Nat} (h : CodeAt w C base l) (hk : Keeps (okOut O base) w w') (hC : O < C) (hb : O < base) : CodeAt w' C base l :=
  h.keeps hk (fun cur => ⟨by omega, .inr (fun cs fz e => by injection e with _ e2 _; revert e2; decide)⟩) (fun k cs hk => ⟨by omega, .inr (fun cs fz e => by injection e with _ e2 _; revert e2; decide)⟩)

theorem InfLow.cells {w W : World} {M T K E : Nat} {most : Int} (h : InfLow w W M T K E most) :
    W.cell? ⟨M, 0, none⟩ = some (.int .i64 most) ∧ W.cell? ⟨T, 0, none⟩ = some (.string ⟨#[]⟩) ∧ W.cell? ⟨K, 0, none⟩ = some (.int .i64 0) ∧ W.cell? ⟨E, 0, none⟩ = some .nilIface ∧
      W.frozen? ⟨T, 0, none⟩ = false ∧ W.frozen? ⟨K, 0, none⟩ = false ∧ W.frozen? ⟨E, 0, none⟩ = false ∧ T < W.heap.size ∧ K < W.heap.size ∧ E < W.heap.size ∧ T ≠ K ∧ T ≠ E ∧ K ≠ E := by
  obtain ⟨h1, h2, h3⟩ := h.o
  exact ⟨h.m.cell, h.t.cell, h.k.cell, h.e.cell, h.t.frozen, h.k.frozen, h.e.frozen, h.t.lt, h.k.lt, h.e.lt, by omega, by omega, by omega⟩
theorem InfLow.ret {w W : World} {M T K E : Nat} {most : Int} (h : InfLow w W M T K E most) (no : Nat) :
    InfRet w (((W.setCell ⟨T, 0, none⟩ (.string ⟨#[]⟩)).setCell ⟨K, 0, none⟩ (.int .i64 0)).setCell ⟨E, 0, none⟩ (.iface 55 (.int .i64 (no : Int)))) M T K E no := by
  obtain ⟨h1, h2, h3⟩ := h.o
  have hTK : T ≠ K := by omega
  have hTE : T ≠ E := by omega
  have hKE : K ≠ E := by omega
  refine ⟨((h.t.set _).other hTK _).other hTE _, ((h.k.other (Ne.symm hTK) _).set _).other hKE _, ((h.e.other (Ne.symm hTE) _).other (Ne.symm hKE) _).set _, ?_⟩
  exact ((h.low.setCell (p := ⟨T, 0, none⟩) (by show M ≤ T; omega) _).setCell (p := ⟨K, 0, none⟩) (by show M ≤ K; omega) _).setCell (p := ⟨E, 0, none⟩) (by show M ≤ E; omega) _
theorem InfAt.outLen {w W : World} {M T K E R O base : Nat} {s : ByteArray} {most : Int} {out : List UInt8} {r : List Bool} (h : InfAt w W M T K E R O base s most out r) : ∃ p c, W.cell? ⟨O, 0, none⟩ = some (.slice p out.length c) := by
  obtain ⟨ov, hb, hr⟩ := h.out
  obtain ⟨p, n, c, rfl⟩ := ownsRow_slice hr
  obtain rfl := ownsRow_nn hr
  exact ⟨p, c, hb.cell⟩
set_option maxRecDepth 100000 in
set_option maxHeartbeats 8000000 in
theorem blk6_easy (w wr : World) (M T K E R O A B base : Nat) (s : ByteArray) (most : Int) (la lb : List Nat) (en : Bool) (TT : Except Nat (List UInt8 × List Bool)) (n : Nat) (tm : Array Value) (out : List UInt8) (r : List Bool) (res : Except Nat (List UInt8 × Nat)) (Q : Exit → Act → World → Prop) (J : Act → World → Prop)
    (hE : BEnv w M T K E R O A B base s most la lb) (hQ : InfQ w M T K E R O most res Q) (herr : ∀ no, TT = .error no → res = .error no)
    (hF : IFr tm M T K E R O) (hen : tm.getD 10 undef = .bool en) (hA : tm.getD 11 undef = .pointer (some ⟨A, 0, none⟩)) (hB : tm.getD 12 undef = .pointer (some ⟨B, 0, none⟩))
    (hI : InfAt w wr M T K E R O base s most out r) (hca : CodeAt wr A base la) (hcb : CodeAt wr B base lb) (hrl : r.length < n) (hom : out.length = 0 ∨ (out.length : Int) ≤ most) (hgo : blockGo most la lb n out r = TT)
    (hnext : ∀ tm' W' out' r', IFr tm' M T K E R O → tm'.getD 10 undef = .bool en → InfAt w W' M T K E R O base s most out' r' → (out'.length = 0 ∨ (out'.length : Int) ≤ most) → TT = .ok (out', r') → Q (.exit 5) ⟨tm', infD T K E⟩ W')
    (hJ : ∀ n' a' w', n' < n → BI w M T K E R O A B base s most la lb en TT n' a' w' → J a' w')
    (hcase : ∀ y r', symP la r = .ok (y, r') → y ≤ 256 ∨ 285 < y) :
    Code.wp Tryd.prog blk6 (Exit.then J Q) ⟨tm, infD T K E⟩ wr := by
  obtain ⟨n, rfl⟩ : ∃ m, n = m + 1 := ⟨n - 1, by omega⟩
  obtain ⟨x, rfl⟩ := hF.open4 hen hA hB
  rw [blockGo] at hgo
  have Hcase := Lib.hid hcase
  clear hcase
  have hsym := fsymbol_any R A base s r la wr hI.src hca hE.s hE.la
  have hls := hE.most
  have hol : out.length < 2 ^ 40 := by omega
  obtain ⟨hoE, hoR, hoO⟩ := hE.o
  obtain ⟨haA, haB⟩ := hE.a
  have hbO := hE.b
  have HE := Lib.hid hE
  have Hom := Lib.hid hom
  have HQ := Lib.hid hQ
  have Herr := Lib.hid herr
  have HI := Lib.hid hI
  have Hca := Lib.hid hca
  have Hcb := Lib.hid hcb
  have Hnext := Lib.hid hnext
  have HJ := Lib.hid hJ
  have hlow := hI.l
  have Hlow := Lib.hid hlow
  clear hom hE hQ herr hF hen hA hB hI hca hcb hnext hJ hlow
  unfold infD putIV
  cases hsp : symP la r with
  | error no =>
    have hb1 : blockOne most la lb out r = .error no := by unfold blockOne; rw [hsp]
    rw [hb1] at hgo
    simp only [] at hgo
    rw [hsp] at hsym
    have hres := Herr.out no hgo.symm
    have Hsym := Lib.hid hsym
    have Hres := Lib.hid hres
    clear hsym hres hgo hb1 hsp
    conv => arg 2; whnf
    go_wp2_with (go_at_call 38; refine (Hsym.out).mono ?_; rintro e w7 ⟨rfl, hk7⟩; clear Hsym)
    exact HQ.out.pan no _ _ ⟨rfl, rfl, rfl, rfl, rfl, rfl, rfl, rfl⟩ (HI.out.low hk7 (fun k o h => by show k ≠ R; omega)) Hres.out
  | ok v =>
    obtain ⟨y0, r1⟩ := v
    have hless := symP_less hsp
    rw [hsp] at hsym
    by_cases h256 : y0 = 256
    · subst h256
      have hb1 : blockOne most la lb out r = .ok (none, r1) := by unfold blockOne; rw [hsp]; rfl
      rw [hb1] at hgo
      simp only [] at hgo
      have Hsym := Lib.hid hsym
      have Hgo := Lib.hid hgo
      clear hsym hgo hb1 hsp
      conv => arg 2; whnf
      go_wp2_with (go_at_call 38; refine (Hsym.out).mono ?_; rintro e w7 ⟨rfl, hS7, hk7⟩; clear Hsym)
      exact Hnext.out _ _ out r1 ⟨rfl, rfl, rfl, rfl, rfl, rfl, rfl, rfl⟩ rfl (HI.out.bits hS7 hk7) Hom.out Hgo.out.symm
    · have q256 : ((y0 : Int) == 256) = false := beq_eq_false_iff_ne.2 (by omega)
      by_cases hlit : y0 < 256
      · have q1 : (y0 : Int) < 256 := by omega
        by_cases hfull : most ≤ (out.length : Int)
        · have hb1 : blockOne most la lb out r = .error 5 := by unfold blockOne; rw [hsp]; simp only []; rw [if_neg h256, if_pos hlit, if_pos hfull]
          rw [hb1] at hgo
          simp only [] at hgo
          have hres := Herr.out 5 hgo.symm
          have Hsym := Lib.hid hsym
          have Hres := Lib.hid hres
          clear hsym hres hgo hb1 hsp
          conv => arg 2; whnf
          go_wp2_with (go_at_call 38; refine (Hsym.out).mono ?_; rintro e w7 ⟨rfl, hS7, hk7⟩; clear Hsym
                       have hI7 := HI.out.bits hS7 hk7
                       have hp := fput_full O M base out most (y0 : Int) w7 hI7.out hI7.l.m hfull
                       have Hp := Lib.hid hp
                       have HI7 := Lib.hid hI7
                       clear hS7 hk7 hI7 hp)
          go_wp2_with (go_at_call 34; refine (Hp.out).mono ?_; rintro e w8 ⟨rfl, rfl⟩; clear Hp)
          exact HQ.out.pan 5 _ _ ⟨rfl, rfl, rfl, rfl, rfl, rfl, rfl, rfl⟩ HI7.out.l Hres.out
        · have hb1 : blockOne most la lb out r = .ok (some (out ++ [UInt8.ofNat y0]), r1) := by unfold blockOne; rw [hsp]; simp only []; rw [if_neg h256, if_pos hlit, if_neg hfull]
          rw [hb1] at hgo
          simp only [] at hgo
          have Hsym := Lib.hid hsym
          have Hgo := Lib.hid hgo
          clear hsym hgo hb1 hsp
          conv => arg 2; whnf
          go_wp2_with (go_at_call 38; refine (Hsym.out).mono ?_; rintro e w7 ⟨rfl, hS7, hk7⟩; clear Hsym
                       have hI7 := HI.out.bits hS7 hk7
                       have hp := fput_ok O M base out most (UInt8.ofNat y0) w7 hI7.out hI7.l.m (by omega) (by omega) hol
                       rw [show ((UInt8.ofNat y0).toNat : Int) = (y0 : Int) from by simp; omega] at hp
                       have Hp := Lib.hid hp
                       have HI7 := Lib.hid hI7
                       have hca7 := Hca.out.notAt HI.out.src hk7
                       have hcb7 := Hcb.out.notAt HI.out.src hk7
                       have Hca7 := Lib.hid hca7
                       have Hcb7 := Lib.hid hcb7
                       clear hS7 hk7 hI7 hp hca7 hcb7)
          go_wp2_with (go_at_call 34; refine (Hp.out).mono ?_; rintro e w8 ⟨rfl, hO8, hk8⟩; clear Hp)
          refine HJ.out n _ _ (by omega) ⟨_, out ++ [UInt8.ofNat y0], r1, rfl, ⟨rfl, rfl, rfl, rfl, rfl, rfl, rfl, rfl⟩, rfl, rfl, rfl, HI7.out.put hO8 hk8, Hca7.out.put hk8 haA hoO, Hcb7.out.put hk8 haB hoO, by omega, ?_, Hgo.out⟩
          rw [List.length_append, List.length_singleton]
          right; omega
      · have q1 : ¬ (y0 : Int) < 256 := by omega
        by_cases hbig : 285 < y0
        · have q2 : (285 : Int) < (y0 : Int) := by omega
          have hb1 : blockOne most la lb out r = .error 4 := by unfold blockOne; rw [hsp]; simp only []; rw [if_neg h256, if_neg hlit, if_pos hbig]
          rw [hb1] at hgo
          simp only [] at hgo
          have hres := Herr.out 4 hgo.symm
          have Hsym := Lib.hid hsym
          have Hres := Lib.hid hres
          clear hsym hres hgo hb1 hsp
          conv => arg 2; whnf
          go_wp2_with (go_at_call 38; refine (Hsym.out).mono ?_; rintro e w7 ⟨rfl, hS7, hk7⟩; clear Hsym
                       have hI7 := HI.out.bits hS7 hk7
                       obtain ⟨e1, e2, e3, e4, e5, e6, e7, e8, e9, e10, e11, e12, e13⟩ := hI7.l.cells
                       have HI7 := Lib.hid hI7
                       clear hS7 hk7 hI7)
          exact HQ.out.ret 4 _ _ ⟨rfl, rfl, rfl, rfl, rfl, rfl, rfl, rfl⟩ (HI7.out.l.ret 4) Hres.out
        · have q2 : ¬ (285 : Int) < (y0 : Int) := by omega
          have := Hcase.out y0 r1 hsp
          omega
end Go.Proofs.YtjielagabnkimaaDoor
