/- flate.Inflate: a round of its outer loop. -/
import Derived.Test.YtjielagabnkimaaDoorFInflF
import Derived.Test.YtjielagabnkimaaDoorFLess
set_option linter.unusedSimpArgs false
set_option linter.unusedVariables false
namespace Go.Proofs.YtjielagabnkimaaDoor
open Go.RowKit
/-- what does not change -/
structure OEnv (w : World) (M T K E R O base : Nat) (s : ByteArray) (most : Int) : Prop where
  tabs : Tabs w
  ord : OrdAt w
  m4 : 3 < M
  o : E < R ∧ R < O ∧ O < base
  b : base ≤ O + 1
  s : s.size < 2 ^ 40
  most : most < 2 ^ 40
theorem OEnv.benv {w : World} {M T K E R O A B base : Nat} {s : ByteArray} {most : Int} {la lb : List Nat} (h : OEnv w M T K E R O base s most) (hA : O < A) (hB : O < B) (ha : la.length ≤ 1000) (hb : lb.length ≤ 1000) : BEnv w M T K E R O A B base s most la lb := ⟨h.tabs, h.m4, h.o, h.b, ⟨hA, hB⟩, h.s, h.most, ha, hb⟩
/-- the head of a round -/
def OI (w : World) (M T K E R O base : Nat) (s : ByteArray) (most : Int) (TT : Except Nat (List UInt8 × List Bool)) (n : Nat) (a : Act) (W : World) : Prop :=
  ∃ (tm : Array Value) (en : Bool) (out : List UInt8) (r : List Bool), a = ⟨tm, infD T K E⟩ ∧ IFr tm M T K E R O ∧ tm.getD 10 undef = .bool en ∧
    InfAt w W M T K E R O base s most out r ∧ (out.length = 0 ∨ (out.length : Int) ≤ most) ∧ (en = true ∧ TT = .ok (out, r) ∨ en = false ∧ r.length < n ∧ inflGo most n out r = TT)
theorem IFr.open6 {tm : Array Value} {M T K E R O : Nat} {en : Bool} (h : IFr tm M T K E R O) (hen : tm.getD 10 undef = .bool en) : ∃ x : Nat → Value, tm = #[x 0, x 1, x 2, .pointer (some ⟨M, 0, none⟩), .pointer (some ⟨T, 0, none⟩), .pointer (some ⟨K, 0, none⟩), .pointer (some ⟨E, 0, none⟩), .pointer (some ⟨R, 0, none⟩), .pointer (some ⟨O, 0, none⟩), putIV M O, .bool en, x 11, x 12, x 13, x 14, x 15, x 16, x 17, x 18, x 19, x 20, x 21, x 22, x 23, x 24, x 25, x 26, x 27, x 28, x 29, x 30, x 31, x 32, x 33, x 34, x 35, x 36, x 37, x 38, x 39, x 40, x 41, x 42, x 43, x 44, x 45, x 46, x 47, x 48, x 49, x 50, x 51, x 52, x 53, x 54, x 55, x 56, x 57, x 58, x 59, x 60, x 61, x 62, x 63, x 64, x 65, x 66, x 67, x 68, x 69, x 70, x 71, x 72, x 73, x 74, x 75, x 76, x 77, x 78, x 79, x 80, x 81, x 82, x 83, x 84, x 85, x 86, x 87, x 88, x 89, x 90, x 91, x 92, x 93, x 94, x 95, x 96, x 97, x 98, x 99, x 100, x 101, x 102, x 103, x 104, x 105, x 106, x 107, x 108, x 109, x 110, x 111, x 112, x 113, x 114, x 115, x 116, x 117, x 118, x 119, x 120, x 121, x 122, x 123, x 124, x 125, x 126, x 127, x 128, x 129, x 130, x 131, x 132, x 133, x 134, x 135, x 136, x 137, x 138, x 139, x 140, x 141, x 142, x 143, x 144, x 145, x 146, x 147, x 148, x 149, x 150, x 151, x 152, x 153, x 154, x 155] := by
  obtain ⟨hz, h3, h4, h5, h6, h7, h8, h9⟩ := h
  obtain ⟨x, hx, hg⟩ := arr156 tm hz
  refine ⟨x, ?_⟩
  rw [← hg 3] at h3
  rw [← hg 4] at h4
  rw [← hg 5] at h5
  rw [← hg 6] at h6
  rw [← hg 7] at h7
  rw [← hg 8] at h8
  rw [← hg 9] at h9
  rw [← hg 10] at hen
  rw [h3, h4, h5, h6, h7, h8, h9, hen] at hx
  exact hx
/-- the source, its last bits thrown away -/
theorem SrcIn.skip {w : World} {R a h v : Nat} {s : ByteArray} {r : List Bool} (hs : SrcIn w R s a h v r) (hv : v < 8) : SrcAt ((w.setCell ⟨R, 2, none⟩ (.int .i64 0)).setCell ⟨R, 3, none⟩ (.int .i64 0)) R s (r.drop (r.length % 8)) := by
  refine ⟨a, 0, 0, ⟨hs.set2 0 0, hs.le, by decide, ?_⟩, by decide⟩
  have hr := hs.r
  have hl : r.length % 8 = v := by rw [hr, List.length_append, low_length, bitsOf_length]; omega
  rw [hl, hr, List.drop_left' (low_length v h)]
  rfl
/-- other blocks than the two codes -/
def okAB (A B : Nat) (k : Nat) (o : Obj) : Prop := (k ≠ A ∧ k ≠ B) ∨ notRow 64 o
theorem InfAt.keeps2 {w W W' : World} {M T K E R O base : Nat} {s : ByteArray} {most : Int} {out : List UInt8} {r r' : List Bool} {ok : Nat → Obj → Prop} (h : InfAt w W M T K E R O base s most out r) (hk : Keeps ok W W') (hS : SrcAt W' R s r')
    (hok : ∀ k o, k ≤ O → k ≠ R → ok k o) (hrow : ∀ k cs, base ≤ k → ok k (.cells cs 5 (0, 0))) : InfAt w W' M T K E R O base s most out r' := by
  obtain ⟨h1, h2, h3⟩ := h.o
  refine ⟨h.l.keeps hk (fun k o hkE _ => hok k o (by omega) (by omega)), hS, ?_, h.o⟩
  obtain ⟨ov, hb, hr⟩ := h.out
  exact ⟨ov, hk.boxed hb (hok _ _ (Nat.le_refl _) (by omega)), ownsRow_keeps hr hk fun k cs e => hrow k cs (hr.lt k e).1⟩
theorem rows_two {w : World} {A B : Nat} {ca cb c1 c2 : Array Value} (hA : w.heap[A]? = some (.cells c1 64 (0, 0))) (hB : w.heap[B]? = some (.cells c2 64 (0, 0))) (hAB : A ≠ B) :
    ((w.setRow A ca).setRow B cb).heap[A]? = some (.cells ca 64 (0, 0)) ∧ ((w.setRow A ca).setRow B cb).heap[B]? = some (.cells cb 64 (0, 0)) ∧ Keeps (okAB A B) w ((w.setRow A ca).setRow B cb) := by
  have hB1 : (w.setRow A ca).heap[B]? = some (.cells c2 64 (0, 0)) := (setRow_other w A B ca (Ne.symm hAB)).trans hB
  refine ⟨(setRow_other _ B A cb hAB).trans (setRow_heap w A _ ca _ _ hA), setRow_heap _ B _ cb _ _ hB1, rfl, rfl, rfl, by simp, ?_⟩
  intro k o hk ho
  by_cases h1 : k = A
  · subst h1
    rw [hA] at hk
    cases hk
    rcases ho with ho | ho
    · exact absurd rfl ho.1
    · exact absurd rfl (ho _ _)
  · by_cases h2 : k = B
    · subst h2
      rw [hB] at hk
      cases hk
      rcases ho with ho | ho
      · exact absurd rfl ho.2
      · exact absurd rfl (ho _ _)
    · exact (setRow_other _ B k cb h2).trans ((setRow_other w A k ca h1).trans hk)
theorem codeAt_row {w w' : World} {C base b : Nat} {l : List Nat} {sv : Value} (ho : w'.heap[C]? = some (.cells (codeCs l sv).toArray 64 (0, 0))) (hr : w.ownsRow b 3 1 sv (symsN l).length ((symsN l).map encI)) {ok : Nat → Obj → Prop} (hk : Keeps ok w w') (hok : ∀ k cs, b ≤ k → ok k (.cells cs 3 (0, 0))) (hb : base ≤ b) : CodeAt w' C base l := by
  refine ⟨_, sv, ho, fun n hn => ?_, ?_, ownsRow_mono (ownsRow_keeps hr hk fun k cs e => hok k cs (hr.lt k e).1) hb⟩
  · simp [codeCs, List.getElem?_append, hn]
  · simp [codeCs]
theorem ordAt_low {w W : World} {M T K E R O base : Nat} {s : ByteArray} {most : Int} (hE : OEnv w M T K E R O base s most) (h : InfLow w W M T K E most) : OrdAt W := by
  intro i hi
  have h4 := hE.m4
  rw [h.low.cell (p := ⟨3, i, none⟩) (by show 3 < M; omega)]
  exact hE.ord i hi
noncomputable def blk0 : Code := ((Tryd.f16.body.bind (findBlock 0)).getD .skip)
def loopBody : Code → Code
  | .block _ (.loop c) => c
  | _ => .skip
noncomputable def rnd0 : Code := loopBody blk0

set_option maxRecDepth 100000 in
set_option maxHeartbeats 2000000 in
theorem rnd0_end (w wr : World) (M T K E R O : Nat) (tm : Array Value) (Q : Exit → Act → World → Prop) (J : Act → World → Prop) (hF : IFr tm M T K E R O) (hen : tm.getD 10 undef = .bool true)
    (hnext : ∀ tm', IFr tm' M T K E R O → Q (.exit 0) ⟨tm', infD T K E⟩ wr) : Code.wp Tryd.prog rnd0 (Exit.then J Q) ⟨tm, infD T K E⟩ wr := by
  obtain ⟨x, rfl⟩ := hF.open6 hen
  have Hnext := Lib.hid hnext
  clear hnext hF hen
  conv => arg 2; whnf
  go_wp2_with fail
  exact Hnext.out _ ⟨rfl, rfl, rfl, rfl, rfl, rfl, rfl, rfl⟩

set_option maxRecDepth 100000 in
set_option maxHeartbeats 16000000 in
theorem rnd0_any (w wr : World) (M T K E R O base : Nat) (s : ByteArray) (most : Int) (TT : Except Nat (List UInt8 × List Bool)) (n : Nat) (tm : Array Value) (out : List UInt8) (r : List Bool) (res : Except Nat (List UInt8 × Nat)) (Q : Exit → Act → World → Prop) (J : Act → World → Prop)
    (hE : OEnv w M T K E R O base s most) (hQ : InfQ w M T K E R O most res Q) (herr : ∀ no, TT = .error no → res = .error no)
    (hF : IFr tm M T K E R O) (hen : tm.getD 10 undef = .bool false) (hI : InfAt w wr M T K E R O base s most out r) (hom : out.length = 0 ∨ (out.length : Int) ≤ most) (hrl : r.length < n) (hgo : inflGo most n out r = TT)
    (hJ : ∀ n' a' w', n' < n → OI w M T K E R O base s most TT n' a' w' → J a' w') :
    Code.wp Tryd.prog rnd0 (Exit.then J Q) ⟨tm, infD T K E⟩ wr := by
  obtain ⟨n, rfl⟩ : ∃ m, n = m + 1 := ⟨n - 1, by omega⟩
  obtain ⟨x, rfl⟩ := hF.open6 hen
  rw [inflGo] at hgo
  have hls := hE.most
  have hss := hE.s
  obtain ⟨hoE, hoR, hoO⟩ := hE.o
  have hbO := hE.b
  have hm4 := hE.m4
  have hME : M < E := by have := hI.l.o; omega
  obtain ⟨one, hone⟩ : ∃ b, b = inflOne most out r := ⟨_, rfl⟩
  rw [← hone] at hgo
  unfold inflOne at hone
  have herr2 : ∀ no, one = .error no → res = .error no := by
    intro no hno
    rw [hno] at hgo
    exact herr no hgo.symm
  -- what the end of a round wants
  have hend : ∀ (tm' : Array Value) (W' : World) (en : Bool) (out' : List UInt8) (r' : List Bool), IFr tm' M T K E R O → tm'.getD 10 undef = .bool en → InfAt w W' M T K E R O base s most out' r' → (out'.length = 0 ∨ (out'.length : Int) ≤ most) → one = .ok (en, out', r') → r'.length < r.length → J ⟨tm', infD T K E⟩ W' := by
    intro tm' W' en out' r' h1 h2 h3 h4 h5 h6
    rw [h5] at hgo
    refine hJ n _ _ (by omega) ⟨tm', en, out', r', rfl, h1, h2, h3, h4, ?_⟩
    cases en with
    | true => exact .inl ⟨rfl, hgo.symm⟩
    | false => exact .inr ⟨rfl, by omega, hgo⟩
  have HE := Lib.hid hE
  have Hom := Lib.hid hom
  have HQ := Lib.hid hQ
  have Herr := Lib.hid herr2
  have HI := Lib.hid hI
  have Hend := Lib.hid hend
  clear hom hE hQ herr herr2 hF hen hI hJ hgo hend
  have hfl : litLen = fun i => if i < 144 then 8 else if i < 256 then 9 else if i < 280 then 7 else 8 := rfl
  by_cases hb : 1 ≤ r.length
  · rw [takeB_ok hb] at hone
    obtain ⟨r1, hr1⟩ : ∃ x, x = r.drop 1 := ⟨_, rfl⟩
    obtain ⟨l, hl⟩ : ∃ x, x = num (r.take 1) := ⟨_, rfl⟩
    have hl2 : l < 2 := by rw [hl]; exact num_take_lt 1 r
    have hr1l : r1.length < r.length := by rw [hr1, List.length_drop]; omega
    have hb1 := bits_ok R s r 1 wr HI.out.src (by decide) hss hb
    rw [← hr1, ← hl] at hb1 hone
    simp only [] at hone
    obtain ⟨en, hen⟩ : ∃ b : Bool, b = ((l : Int) == 1) := ⟨_, rfl⟩
    have hen2 : (l == 1) = en := by
      rw [hen]
      by_cases h : l = 1
      · subst h; rfl
      · rw [beq_eq_false_iff_ne.2 h]; symm; exact beq_eq_false_iff_ne.2 (by omega)
    rw [hen2] at hone
    have len := hen.symm
    have Hb1 := Lib.hid hb1
    clear hb1 hr1 hl hb hen hen2
    by_cases hb : 2 ≤ r1.length
    · rw [takeB_ok hb] at hone
      obtain ⟨r2, hr2⟩ : ∃ x, x = r1.drop 2 := ⟨_, rfl⟩
      obtain ⟨k, hk⟩ : ∃ x, x = num (r1.take 2) := ⟨_, rfl⟩
      have hk4 : k < 4 := by rw [hk]; exact num_take_lt 2 r1
      have hr2l : r2.length ≤ r1.length := by rw [hr2, List.length_drop]; omega
      have hb2 := fun W (hW : SrcAt W R s r1) => bits_ok R s r1 2 W hW (by decide) hss hb
      rw [← hr2, ← hk] at hb2 hone
      simp only [] at hone
      have Hb2 := Lib.hid hb2
      clear hb2 hr2 hk hb
      by_cases k0 : k = 0
      · have k0b : ((k : Int) == 0) = true := by rw [k0]; rfl
        rw [if_pos k0] at hone
        unfold storedB at hone
        clear k0
        obtain ⟨r3, hr3⟩ : ∃ x, x = r2.drop (r2.length % 8) := ⟨_, rfl⟩
        have hr3l : r3.length ≤ r2.length := by rw [hr3, List.length_drop]; omega
        rw [← hr3] at hone
        have hsk : ∀ W a h v, SrcIn W R s a h v r2 → v < 8 → SrcAt ((W.setCell ⟨R, 2, none⟩ (.int .i64 0)).setCell ⟨R, 3, none⟩ (.int .i64 0)) R s r3 := fun W a h v hin hv => by rw [hr3]; exact hin.skip hv
        have Hsk := Lib.hid hsk
        clear hsk hr3
        by_cases hb : 16 ≤ r3.length
        · rw [takeB_ok hb] at hone
          obtain ⟨r4, hr4⟩ : ∃ x, x = r3.drop 16 := ⟨_, rfl⟩
          obtain ⟨nn, hnn⟩ : ∃ x, x = num (r3.take 16) := ⟨_, rfl⟩
          have hnn16 : nn < 65536 := by rw [hnn]; exact num_take_lt 16 r3
          have hr4l : r4.length ≤ r3.length := by rw [hr4, List.length_drop]; omega
          have hb3 := fun W (hW : SrcAt W R s r3) => bits_ok R s r3 16 W hW (by decide) hss hb
          rw [← hr4, ← hnn] at hb3 hone
          simp only [] at hone
          have Hb3 := Lib.hid hb3
          clear hb3 hr4 hnn hb
          by_cases hb : 16 ≤ r4.length
          · rw [takeB_ok hb] at hone
            obtain ⟨r5, hr5⟩ : ∃ x, x = r4.drop 16 := ⟨_, rfl⟩
            obtain ⟨mm, hmm⟩ : ∃ x, x = num (r4.take 16) := ⟨_, rfl⟩
            have hmm16 : mm < 65536 := by rw [hmm]; exact num_take_lt 16 r4
            have hr5l : r5.length ≤ r4.length := by rw [hr5, List.length_drop]; omega
            have hb4 := fun W (hW : SrcAt W R s r4) => bits_ok R s r4 16 W hW (by decide) hss hb
            rw [← hr5, ← hmm] at hb4 hone
            simp only [] at hone
            have Hb4 := Lib.hid hb4
            clear hb4 hr5 hmm hb
            obtain ⟨xx, hxx⟩ : ∃ x, x = nn ^^^ mm := ⟨_, rfl⟩
            have hxor : bits BinOp.xor IntKind.i64 (nn : Int) (mm : Int) = ((xx : Nat) : Int) := by rw [hxx]; exact i64_xor_nat nn mm (by omega) (by omega)
            rw [← hxx] at hone
            clear hxx
            by_cases hx : xx = 65535
            · have hxb : ((xx : Int) != 65535) = false := by rw [hx]; rfl
              rw [if_neg (by omega)] at hone
              have Hone := Lib.hid hone
              clear hone hx
              have herr3 : ∀ no, storedGo most nn out r5 = .error no → res = .error no := fun no h => Herr.out no (by rw [Hone.out, h])
              have Herr3 := Lib.hid herr3
              clear herr3
              conv => arg 2; whnf
              go_upto_block 3 with (first
                | (go_at_call 35; refine (Hb1.out).mono ?_; rintro e w1 ⟨rfl, hS1, hk1⟩; clear Hb1
                   have hI1 := HI.out.bits hS1 hk1
                   obtain ⟨w1a, hw1a⟩ : ∃ x, x = (w1.alloc (.cells zeroCode 64)).alloc (.cells zeroCode 64) := ⟨_, rfl⟩
                   have hka : Keeps (fun _ _ => True) w1 w1a := by rw [hw1a]; exact ((Keeps.refl _ _).alloc _).alloc _
                   have hA1 : w1a.heap[w1.heap.size]? = some (.cells zeroCode 64 (0, 0)) := by
                     rw [hw1a, heap_alloc_old _ _ (by simp only [World.size_alloc]; omega)]
                     exact World.alloc_heap_new w1 _
                   have hB1 : w1a.heap[w1.heap.size + 1]? = some (.cells zeroCode 64 (0, 0)) := by
                     rw [hw1a]
                     have h := World.alloc_heap_new (w1.alloc (.cells zeroCode 64)) (.cells zeroCode 64)
                     simp only [World.size_alloc] at h
                     exact h
                   have hI1a := hI1.keeps hka (hI1.src.keeps hka (fun _ => trivial)) (fun _ _ _ _ => trivial)
                   have hS1a := hI1a.src
                   rw [hw1a] at hS1a
                   unfold zeroCode at hS1a
                   have hOA : O < w1.heap.size := by obtain ⟨ov, hb, _⟩ := hI1.out; exact hb.lt
                   have HS1a := Lib.hid hS1a
                   have HI1a := Lib.hid hI1a
                   have HA1 := Lib.hid hA1
                   have HB1 := Lib.hid hB1
                   have Hw1a := Lib.hid hw1a
                   clear hS1 hk1 hI1 hka hA1 hB1 hI1a hS1a hw1a)
                | (go_at_call 35; refine (Hb2.out _ HS1a.out).mono ?_; rintro e w2 ⟨rfl, hS2, hk2⟩; clear Hb2 HS1a
                   change Keeps (notAt R) ((w1.alloc (.cells zeroCode 64)).alloc (.cells zeroCode 64)) w2 at hk2
                   rw [← Hw1a.out] at hk2
                   have hRA : R < w1.heap.size := by omega
                   have hA2 := hk2.block _ _ HA1.out (by show w1.heap.size ≠ R; omega)
                   have hB2 := hk2.block _ _ HB1.out (by show w1.heap.size + 1 ≠ R; omega)
                   have hI2 := HI1a.out.bits hS2 hk2
                   have HI2 := Lib.hid hI2
                   have HA2 := Lib.hid hA2
                   have HB2 := Lib.hid hB2
                   obtain ⟨e1, e2, e3, e4, e5, e6, e7, e8, e9, e10, e11, e12, e13⟩ := hI2.l.cells
                   obtain ⟨a0, h0, v0, hin0, hv0⟩ := hS2
                   obtain ⟨s0, s1, s2, s3, z1, z2, z3⟩ := hin0.cells
                   have Hin0 := Lib.hid hin0
                   clear hin0
                   clear hk2 hI2 hA2 hB2 HI1a HA1 HB1 Hw1a)
                | (go_at_call 35; refine (Hb3.out _ (Hsk.out w2 a0 h0 v0 Hin0.out hv0)).mono ?_; rintro e w4 ⟨rfl, hS4, hk4'⟩; clear Hb3
                   have hI3 : InfAt w ((w2.setCell ⟨R, 2, none⟩ (.int .i64 0)).setCell ⟨R, 3, none⟩ (.int .i64 0)) M T K E R O base s most out r3 := HI2.out.bits (Hsk.out w2 a0 h0 v0 Hin0.out hv0) (((Keeps.refl (notAt R) w2).setAt 2 _).setAt 3 _)
                   have hI4 := hI3.bits hS4 hk4'
                   have HI4 := Lib.hid hI4
                   clear hI3 hS4 hk4' hI4)
                | (go_at_call 35; refine (Hb4.out w4 HI4.out.src).mono ?_; rintro e w5 ⟨rfl, hS5, hk5⟩; clear Hb4
                   have hI5 := HI4.out.bits hS5 hk5
                   have HI5 := Lib.hid hI5
                   clear hS5 hk5 hI5))
              refine blk3_any w w5 M T K E R O base s most en nn _ out r5 res _ hss hls hbO hnn16 ⟨HQ.out.pan, HQ.out.ret, HQ.out.fr⟩ Herr3.out ⟨rfl, rfl, rfl, rfl, rfl, rfl, rfl, rfl⟩ rfl rfl rfl HI5.out Hom.out ?_
              intro tm' W' out' r' h1 h2 h3 h4 h5
              have h6 := storedGo_less h5
              go_wp2_with fail
              exact Hend.out tm' W' en out' r' h1 h2 h3 h4 (by rw [Hone.out, h5]) (by omega)
            · have hxb : ((xx : Int) != 65535) = true := by simp; omega
              rw [if_pos hx] at hone
              have hres := Herr.out 4 hone
              have Hres := Lib.hid hres
              clear hone hres hx
              conv => arg 2; whnf
              go_wp2_with (first
                | (go_at_call 35; refine (Hb1.out).mono ?_; rintro e w1 ⟨rfl, hS1, hk1⟩; clear Hb1
                   have hI1 := HI.out.bits hS1 hk1
                   obtain ⟨w1a, hw1a⟩ : ∃ x, x = (w1.alloc (.cells zeroCode 64)).alloc (.cells zeroCode 64) := ⟨_, rfl⟩
                   have hka : Keeps (fun _ _ => True) w1 w1a := by rw [hw1a]; exact ((Keeps.refl _ _).alloc _).alloc _
                   have hA1 : w1a.heap[w1.heap.size]? = some (.cells zeroCode 64 (0, 0)) := by
                     rw [hw1a, heap_alloc_old _ _ (by simp only [World.size_alloc]; omega)]
                     exact World.alloc_heap_new w1 _
                   have hB1 : w1a.heap[w1.heap.size + 1]? = some (.cells zeroCode 64 (0, 0)) := by
                     rw [hw1a]
                     have h := World.alloc_heap_new (w1.alloc (.cells zeroCode 64)) (.cells zeroCode 64)
                     simp only [World.size_alloc] at h
                     exact h
                   have hI1a := hI1.keeps hka (hI1.src.keeps hka (fun _ => trivial)) (fun _ _ _ _ => trivial)
                   have hS1a := hI1a.src
                   rw [hw1a] at hS1a
                   unfold zeroCode at hS1a
                   have hOA : O < w1.heap.size := by obtain ⟨ov, hb, _⟩ := hI1.out; exact hb.lt
                   have HS1a := Lib.hid hS1a
                   have HI1a := Lib.hid hI1a
                   have HA1 := Lib.hid hA1
                   have HB1 := Lib.hid hB1
                   have Hw1a := Lib.hid hw1a
                   clear hS1 hk1 hI1 hka hA1 hB1 hI1a hS1a hw1a)
                | (go_at_call 35; refine (Hb2.out _ HS1a.out).mono ?_; rintro e w2 ⟨rfl, hS2, hk2⟩; clear Hb2 HS1a
                   change Keeps (notAt R) ((w1.alloc (.cells zeroCode 64)).alloc (.cells zeroCode 64)) w2 at hk2
                   rw [← Hw1a.out] at hk2
                   have hRA : R < w1.heap.size := by omega
                   have hA2 := hk2.block _ _ HA1.out (by show w1.heap.size ≠ R; omega)
                   have hB2 := hk2.block _ _ HB1.out (by show w1.heap.size + 1 ≠ R; omega)
                   have hI2 := HI1a.out.bits hS2 hk2
                   have HI2 := Lib.hid hI2
                   have HA2 := Lib.hid hA2
                   have HB2 := Lib.hid hB2
                   obtain ⟨e1, e2, e3, e4, e5, e6, e7, e8, e9, e10, e11, e12, e13⟩ := hI2.l.cells
                   obtain ⟨a0, h0, v0, hin0, hv0⟩ := hS2
                   obtain ⟨s0, s1, s2, s3, z1, z2, z3⟩ := hin0.cells
                   have Hin0 := Lib.hid hin0
                   clear hin0
                   clear hk2 hI2 hA2 hB2 HI1a HA1 HB1 Hw1a)
                | (go_at_call 35; refine (Hb3.out _ (Hsk.out w2 a0 h0 v0 Hin0.out hv0)).mono ?_; rintro e w4 ⟨rfl, hS4, hk4'⟩; clear Hb3
                   have hI3 : InfAt w ((w2.setCell ⟨R, 2, none⟩ (.int .i64 0)).setCell ⟨R, 3, none⟩ (.int .i64 0)) M T K E R O base s most out r3 := HI2.out.bits (Hsk.out w2 a0 h0 v0 Hin0.out hv0) (((Keeps.refl (notAt R) w2).setAt 2 _).setAt 3 _)
                   have hI4 := hI3.bits hS4 hk4'
                   have HI4 := Lib.hid hI4
                   clear hI3 hS4 hk4' hI4)
                | (go_at_call 35; refine (Hb4.out w4 HI4.out.src).mono ?_; rintro e w5 ⟨rfl, hS5, hk5⟩; clear Hb4
                   have hI5 := HI4.out.bits hS5 hk5
                   have HI5 := Lib.hid hI5
                   obtain ⟨g1, g2, g3, g4, g5, g6, g7, g8, g9, g10, g11, g12, g13⟩ := hI5.l.cells
                   clear hS5 hk5 hI5))
              exact HQ.out.ret 4 _ _ ⟨rfl, rfl, rfl, rfl, rfl, rfl, rfl, rfl⟩ (HI5.out.l.ret 4) Hres.out
          · rw [takeB_no hb] at hone
            simp only [] at hone
            have hb4 := fun W (hW : SrcAt W R s r4) => bits_short R s r4 16 W hW (by decide) hss (by omega)
            have hres := Herr.out 2 hone
            have Hres := Lib.hid hres
            have Hb4 := Lib.hid hb4
            clear hb4 hres hone hb
            conv => arg 2; whnf
            go_wp2_with (first
              | (go_at_call 35; refine (Hb1.out).mono ?_; rintro e w1 ⟨rfl, hS1, hk1⟩; clear Hb1
                 have hI1 := HI.out.bits hS1 hk1
                 obtain ⟨w1a, hw1a⟩ : ∃ x, x = (w1.alloc (.cells zeroCode 64)).alloc (.cells zeroCode 64) := ⟨_, rfl⟩
                 have hka : Keeps (fun _ _ => True) w1 w1a := by rw [hw1a]; exact ((Keeps.refl _ _).alloc _).alloc _
                 have hA1 : w1a.heap[w1.heap.size]? = some (.cells zeroCode 64 (0, 0)) := by
                   rw [hw1a, heap_alloc_old _ _ (by simp only [World.size_alloc]; omega)]
                   exact World.alloc_heap_new w1 _
                 have hB1 : w1a.heap[w1.heap.size + 1]? = some (.cells zeroCode 64 (0, 0)) := by
                   rw [hw1a]
                   have h := World.alloc_heap_new (w1.alloc (.cells zeroCode 64)) (.cells zeroCode 64)
                   simp only [World.size_alloc] at h
                   exact h
                 have hI1a := hI1.keeps hka (hI1.src.keeps hka (fun _ => trivial)) (fun _ _ _ _ => trivial)
                 have hS1a := hI1a.src
                 rw [hw1a] at hS1a
                 unfold zeroCode at hS1a
                 have hOA : O < w1.heap.size := by obtain ⟨ov, hb, _⟩ := hI1.out; exact hb.lt
                 have HS1a := Lib.hid hS1a
                 have HI1a := Lib.hid hI1a
                 have HA1 := Lib.hid hA1
                 have HB1 := Lib.hid hB1
                 have Hw1a := Lib.hid hw1a
                 clear hS1 hk1 hI1 hka hA1 hB1 hI1a hS1a hw1a)
              | (go_at_call 35; refine (Hb2.out _ HS1a.out).mono ?_; rintro e w2 ⟨rfl, hS2, hk2⟩; clear Hb2 HS1a
                 change Keeps (notAt R) ((w1.alloc (.cells zeroCode 64)).alloc (.cells zeroCode 64)) w2 at hk2
                 rw [← Hw1a.out] at hk2
                 have hRA : R < w1.heap.size := by omega
                 have hA2 := hk2.block _ _ HA1.out (by show w1.heap.size ≠ R; omega)
                 have hB2 := hk2.block _ _ HB1.out (by show w1.heap.size + 1 ≠ R; omega)
                 have hI2 := HI1a.out.bits hS2 hk2
                 have HI2 := Lib.hid hI2
                 have HA2 := Lib.hid hA2
                 have HB2 := Lib.hid hB2
                 obtain ⟨e1, e2, e3, e4, e5, e6, e7, e8, e9, e10, e11, e12, e13⟩ := hI2.l.cells
                 obtain ⟨a0, h0, v0, hin0, hv0⟩ := hS2
                 obtain ⟨s0, s1, s2, s3, z1, z2, z3⟩ := hin0.cells
                 have Hin0 := Lib.hid hin0
                 clear hin0
                 clear hk2 hI2 hA2 hB2 HI1a HA1 HB1 Hw1a)
              | (go_at_call 35; refine (Hb3.out _ (Hsk.out w2 a0 h0 v0 Hin0.out hv0)).mono ?_; rintro e w4 ⟨rfl, hS4, hk4'⟩; clear Hb3
                 have hI3 : InfAt w ((w2.setCell ⟨R, 2, none⟩ (.int .i64 0)).setCell ⟨R, 3, none⟩ (.int .i64 0)) M T K E R O base s most out r3 := HI2.out.bits (Hsk.out w2 a0 h0 v0 Hin0.out hv0) (((Keeps.refl (notAt R) w2).setAt 2 _).setAt 3 _)
                 have hI4 := hI3.bits hS4 hk4'
                 have HI4 := Lib.hid hI4
                 clear hI3 hS4 hk4' hI4)
              | (go_at_call 35; refine (Hb4.out w4 HI4.out.src).mono ?_; rintro e w5 ⟨rfl, hk5⟩; clear Hb4))
            exact HQ.out.pan 2 _ _ ⟨rfl, rfl, rfl, rfl, rfl, rfl, rfl, rfl⟩ (HI4.out.low hk5 (fun k o h => by show k ≠ R; omega)) Hres.out
        · rw [takeB_no hb] at hone
          simp only [] at hone
          have hb3 := fun W (hW : SrcAt W R s r3) => bits_short R s r3 16 W hW (by decide) hss (by omega)
          have hres := Herr.out 2 hone
          have Hres := Lib.hid hres
          have Hb3 := Lib.hid hb3
          clear hb3 hres hone hb
          conv => arg 2; whnf
          go_wp2_with (first
            | (go_at_call 35; refine (Hb1.out).mono ?_; rintro e w1 ⟨rfl, hS1, hk1⟩; clear Hb1
               have hI1 := HI.out.bits hS1 hk1
               obtain ⟨w1a, hw1a⟩ : ∃ x, x = (w1.alloc (.cells zeroCode 64)).alloc (.cells zeroCode 64) := ⟨_, rfl⟩
               have hka : Keeps (fun _ _ => True) w1 w1a := by rw [hw1a]; exact ((Keeps.refl _ _).alloc _).alloc _
               have hA1 : w1a.heap[w1.heap.size]? = some (.cells zeroCode 64 (0, 0)) := by
                 rw [hw1a, heap_alloc_old _ _ (by simp only [World.size_alloc]; omega)]
                 exact World.alloc_heap_new w1 _
               have hB1 : w1a.heap[w1.heap.size + 1]? = some (.cells zeroCode 64 (0, 0)) := by
                 rw [hw1a]
                 have h := World.alloc_heap_new (w1.alloc (.cells zeroCode 64)) (.cells zeroCode 64)
                 simp only [World.size_alloc] at h
                 exact h
               have hI1a := hI1.keeps hka (hI1.src.keeps hka (fun _ => trivial)) (fun _ _ _ _ => trivial)
               have hS1a := hI1a.src
               rw [hw1a] at hS1a
               unfold zeroCode at hS1a
               have hOA : O < w1.heap.size := by obtain ⟨ov, hb, _⟩ := hI1.out; exact hb.lt
               have HS1a := Lib.hid hS1a
               have HI1a := Lib.hid hI1a
               have HA1 := Lib.hid hA1
               have HB1 := Lib.hid hB1
               have Hw1a := Lib.hid hw1a
               clear hS1 hk1 hI1 hka hA1 hB1 hI1a hS1a hw1a)
            | (go_at_call 35; refine (Hb2.out _ HS1a.out).mono ?_; rintro e w2 ⟨rfl, hS2, hk2⟩; clear Hb2 HS1a
               change Keeps (notAt R) ((w1.alloc (.cells zeroCode 64)).alloc (.cells zeroCode 64)) w2 at hk2
               rw [← Hw1a.out] at hk2
               have hRA : R < w1.heap.size := by omega
               have hA2 := hk2.block _ _ HA1.out (by show w1.heap.size ≠ R; omega)
               have hB2 := hk2.block _ _ HB1.out (by show w1.heap.size + 1 ≠ R; omega)
               have hI2 := HI1a.out.bits hS2 hk2
               have HI2 := Lib.hid hI2
               have HA2 := Lib.hid hA2
               have HB2 := Lib.hid hB2
               obtain ⟨e1, e2, e3, e4, e5, e6, e7, e8, e9, e10, e11, e12, e13⟩ := hI2.l.cells
               obtain ⟨a0, h0, v0, hin0, hv0⟩ := hS2
               obtain ⟨s0, s1, s2, s3, z1, z2, z3⟩ := hin0.cells
               have Hin0 := Lib.hid hin0
               clear hin0
               clear hk2 hI2 hA2 hB2 HI1a HA1 HB1 Hw1a)
            | (go_at_call 35; refine (Hb3.out _ (Hsk.out w2 a0 h0 v0 Hin0.out hv0)).mono ?_; rintro e w4 ⟨rfl, hk4'⟩; clear Hb3
               have hI3 : InfAt w ((w2.setCell ⟨R, 2, none⟩ (.int .i64 0)).setCell ⟨R, 3, none⟩ (.int .i64 0)) M T K E R O base s most out r3 := HI2.out.bits (Hsk.out w2 a0 h0 v0 Hin0.out hv0) (((Keeps.refl (notAt R) w2).setAt 2 _).setAt 3 _)
               have HI3 := Lib.hid hI3
               clear hI3))
          exact HQ.out.pan 2 _ _ ⟨rfl, rfl, rfl, rfl, rfl, rfl, rfl, rfl⟩ (HI3.out.low hk4' (fun k o h => by show k ≠ R; omega)) Hres.out
      · have k0b : ((k : Int) == 0) = false := beq_eq_false_iff_ne.2 (by omega)
        rw [if_neg k0] at hone
        by_cases k1 : k = 1
        · have k1b : ((k : Int) == 1) = true := by rw [k1]; rfl
          rw [if_pos k1] at hone
          change one = (match blockGo most fixL fixD (r2.length + 1) out r2 with | .error e => .error e | .ok (o, r3) => .ok (en, o, r3)) at hone
          have Hone := Lib.hid hone
          clear hone k0 k1
          have herr3 : ∀ no, blockGo most fixL fixD (r2.length + 1) out r2 = .error no → res = .error no := fun no h => Herr.out no (by rw [Hone.out, h])
          have Herr3 := Lib.hid herr3
          clear herr3
          obtain ⟨la, hla⟩ : ∃ l, l = fixL := ⟨_, rfl⟩
          obtain ⟨lb, hlb⟩ : ∃ l, l = fixD := ⟨_, rfl⟩
          have hlal : la.length ≤ 1000 := by rw [hla]; simp [fixL]
          have hlbl : lb.length ≤ 1000 := by rw [hlb]; simp [fixD]
          rw [← hla, ← hlb] at Hone Herr3
          have hfix : ∀ W : World, Calls Tryd.prog 36 #[] W fun e w' => ∃ sa sb, e = .returned (.tuple #[codeV la sa, codeV lb sb]) ∧ w'.ownsRow W.heap.size 3 1 sa (symsN la).length ((symsN la).map encI) ∧ w'.ownsRow W.heap.size 3 1 sb (symsN lb).length ((symsN lb).map encI) ∧ Below W.heap.size W w' := by
            rw [hla, hlb]; exact fun W => fixed_any W
          have Hfix := Lib.hid hfix
          clear hfix hla hlb
          conv => arg 2; whnf
          go_upto_block 5 with (first
            | (go_at_call 35; refine (Hb1.out).mono ?_; rintro e w1 ⟨rfl, hS1, hk1⟩; clear Hb1
               have hI1 := HI.out.bits hS1 hk1
               obtain ⟨w1a, hw1a⟩ : ∃ x, x = (w1.alloc (.cells zeroCode 64)).alloc (.cells zeroCode 64) := ⟨_, rfl⟩
               have hka : Keeps (fun _ _ => True) w1 w1a := by rw [hw1a]; exact ((Keeps.refl _ _).alloc _).alloc _
               have hA1 : w1a.heap[w1.heap.size]? = some (.cells zeroCode 64 (0, 0)) := by
                 rw [hw1a, heap_alloc_old _ _ (by simp only [World.size_alloc]; omega)]
                 exact World.alloc_heap_new w1 _
               have hB1 : w1a.heap[w1.heap.size + 1]? = some (.cells zeroCode 64 (0, 0)) := by
                 rw [hw1a]
                 have h := World.alloc_heap_new (w1.alloc (.cells zeroCode 64)) (.cells zeroCode 64)
                 simp only [World.size_alloc] at h
                 exact h
               have hI1a := hI1.keeps hka (hI1.src.keeps hka (fun _ => trivial)) (fun _ _ _ _ => trivial)
               have hS1a := hI1a.src
               rw [hw1a] at hS1a
               unfold zeroCode at hS1a
               have hOA : O < w1.heap.size := by obtain ⟨ov, hb, _⟩ := hI1.out; exact hb.lt
               have HS1a := Lib.hid hS1a
               have HI1a := Lib.hid hI1a
               have HA1 := Lib.hid hA1
               have HB1 := Lib.hid hB1
               have Hw1a := Lib.hid hw1a
               clear hS1 hk1 hI1 hka hA1 hB1 hI1a hS1a hw1a)
            | (go_at_call 35; refine (Hb2.out _ HS1a.out).mono ?_; rintro e w2 ⟨rfl, hS2, hk2⟩; clear Hb2 HS1a
               change Keeps (notAt R) ((w1.alloc (.cells zeroCode 64)).alloc (.cells zeroCode 64)) w2 at hk2
               rw [← Hw1a.out] at hk2
               have hRA : R < w1.heap.size := by omega
               have hA2 := hk2.block _ _ HA1.out (by show w1.heap.size ≠ R; omega)
               have hB2 := hk2.block _ _ HB1.out (by show w1.heap.size + 1 ≠ R; omega)
               have hI2 := HI1a.out.bits hS2 hk2
               have HI2 := Lib.hid hI2
               have HA2 := Lib.hid hA2
               have HB2 := Lib.hid hB2
               obtain ⟨e1, e2, e3, e4, e5, e6, e7, e8, e9, e10, e11, e12, e13⟩ := hI2.l.cells
               clear hS2 hk2 hI2 hA2 hB2 HI1a HA1 HB1 Hw1a)
            | (go_at_call 36; refine (Hfix.out w2).mono ?_; rintro e w3 ⟨sa, sb, rfl, hsa, hsb, hb3⟩; clear Hfix
               have hk3 : Keeps (fun k _ => k < w2.heap.size) w2 w3 := Keeps.of_below hb3 (fun k o h _ => heap_lt h)
               have hI3 := HI2.out.keeps hk3 (HI2.out.src.keeps hk3 (fun _ => by show R < w2.heap.size; have := heap_lt HA2.out; omega)) (fun k o h _ => heap_lt h)
               clear hb3
               obtain ⟨ca, hca⟩ : ∃ c, c = (codeCs la sa).toArray := ⟨_, rfl⟩
               obtain ⟨cb, hcb⟩ : ∃ c, c = (codeCs lb sb).toArray := ⟨_, rfl⟩
               rw [show codeV la sa = .agg ca from by rw [hca]; rfl, show codeV lb sb = .agg cb from by rw [hcb]; rfl]
               have hca1 := codeCs_one la hsa
               rw [← hca] at hca1
               have hcaz := codeCs_size la sa
               rw [← hca] at hcaz
               have hcb1 := codeCs_one lb hsb
               rw [← hcb] at hcb1
               have hcbz := codeCs_size lb sb
               rw [← hcb] at hcbz
               have hA3 := hk3.block _ _ HA2.out (heap_lt HA2.out)
               have hB3 := hk3.block _ _ HB2.out (heap_lt HB2.out)
               have HA3 := Lib.hid hA3
               have HB3 := Lib.hid hB3
               have Hca := Lib.hid hca
               have Hca1 := Lib.hid hca1
               have Hcb := Lib.hid hcb
               have Hcb1 := Lib.hid hcb1
               have Hsa := Lib.hid hsa
               have Hsb := Lib.hid hsb
               have HI3 := Lib.hid hI3
               have Hl2 := heap_lt HB2.out
               clear hca hca1 hcb hcb1 hsa hsb hA3 hB3 hk3 hI3)
            | (refine wpList_store_row rfl _ _ _ rfl w1.heap.size ca rfl rfl 64 _ HA3.out (by rw [hcaz]; kernel_rfl) (by rw [hcaz]; rfl) Hca1.out ?_)
            | (refine wpList_store_row rfl _ _ _ rfl (w1.heap.size + 1) cb rfl rfl 64 _ ((setRow_other w3 w1.heap.size (w1.heap.size + 1) ca (by omega)).trans HB3.out) (by rw [hcbz]; kernel_rfl) (by rw [hcbz]; rfl) Hcb1.out ?_))
          obtain ⟨w4, hw4⟩ : ∃ x, x = (w3.setRow w1.heap.size ca).setRow (w1.heap.size + 1) cb := ⟨_, rfl⟩
          rw [← hw4]
          obtain ⟨hA4, hB4, hk4⟩ := rows_two (ca := ca) (cb := cb) HA3.out HB3.out (by omega)
          rw [← hw4] at hA4 hB4 hk4
          rw [Hca.out] at hA4
          rw [Hcb.out] at hB4
          have hI4 := HI3.out.keeps2 hk4 (HI3.out.src.keeps hk4 (fun _ => .inl ⟨by omega, by omega⟩)) (fun k o h _ => .inl ⟨by omega, by omega⟩) (fun k cs _ => .inr (fun cs' fz e => by injection e with _ e2 _; revert e2; decide))
          have hbb : base ≤ w2.heap.size := by omega
          have hca4 : CodeAt w4 w1.heap.size base la := codeAt_row hA4 Hsa.out hk4 (fun k cs h => .inl ⟨by omega, by omega⟩) hbb
          have hcb4 : CodeAt w4 (w1.heap.size + 1) base lb := codeAt_row hB4 Hsb.out hk4 (fun k cs h => .inl ⟨by omega, by omega⟩) hbb
          clear hw4 hA4 hB4 hk4
          refine blk5_any w w4 M T K E R O w1.heap.size (w1.heap.size + 1) base s most la lb en (r2.length + 1) _ out r2 res _ (HE.out.benv hOA (by omega) hlal hlbl) ⟨HQ.out.pan, HQ.out.ret, HQ.out.fr⟩ Herr3.out ⟨rfl, rfl, rfl, rfl, rfl, rfl, rfl, rfl⟩ rfl rfl rfl hI4 hca4 hcb4 (by omega) Hom.out ?_
          intro tm' W' out' r' h1 h2 h3 h4 h5
          have h6 := blockGo_less _ h5
          go_wp2_with fail
          exact Hend.out tm' W' en out' r' h1 h2 h3 h4 (by rw [Hone.out, h5]) (by omega)
        · have k1b : ((k : Int) == 1) = false := beq_eq_false_iff_ne.2 (by omega)
          rw [if_neg k1] at hone
          by_cases k2 : k = 2
          · have k2b : ((k : Int) == 2) = true := by rw [k2]; rfl
            rw [if_pos k2] at hone
            clear k0 k1 k2
            have hcod := fun W (hW : SrcAt W R s r2) (hO : OrdAt W) (hR : R < W.heap.size) => codes_any R s r2 W hW hO hss hR (by omega) (by omega)
            cases hcp : codesP r2 with
            | error no =>
              rw [hcp] at hone hcod
              simp only [] at hone
              have hres := Herr.out no hone
              have Hres := Lib.hid hres
              have Hcod := Lib.hid hcod
              clear hone hres hcod hcp
              conv => arg 2; whnf
              go_wp2_with (first
                | (go_at_call 35; refine (Hb1.out).mono ?_; rintro e w1 ⟨rfl, hS1, hk1⟩; clear Hb1
                   have hI1 := HI.out.bits hS1 hk1
                   obtain ⟨w1a, hw1a⟩ : ∃ x, x = (w1.alloc (.cells zeroCode 64)).alloc (.cells zeroCode 64) := ⟨_, rfl⟩
                   have hka : Keeps (fun _ _ => True) w1 w1a := by rw [hw1a]; exact ((Keeps.refl _ _).alloc _).alloc _
                   have hA1 : w1a.heap[w1.heap.size]? = some (.cells zeroCode 64 (0, 0)) := by
                     rw [hw1a, heap_alloc_old _ _ (by simp only [World.size_alloc]; omega)]
                     exact World.alloc_heap_new w1 _
                   have hB1 : w1a.heap[w1.heap.size + 1]? = some (.cells zeroCode 64 (0, 0)) := by
                     rw [hw1a]
                     have h := World.alloc_heap_new (w1.alloc (.cells zeroCode 64)) (.cells zeroCode 64)
                     simp only [World.size_alloc] at h
                     exact h
                   have hI1a := hI1.keeps hka (hI1.src.keeps hka (fun _ => trivial)) (fun _ _ _ _ => trivial)
                   have hS1a := hI1a.src
                   rw [hw1a] at hS1a
                   unfold zeroCode at hS1a
                   have hOA : O < w1.heap.size := by obtain ⟨ov, hb, _⟩ := hI1.out; exact hb.lt
                   have HS1a := Lib.hid hS1a
                   have HI1a := Lib.hid hI1a
                   have HA1 := Lib.hid hA1
                   have HB1 := Lib.hid hB1
                   have Hw1a := Lib.hid hw1a
                   clear hS1 hk1 hI1 hka hA1 hB1 hI1a hS1a hw1a)
                | (go_at_call 35; refine (Hb2.out _ HS1a.out).mono ?_; rintro e w2 ⟨rfl, hS2, hk2⟩; clear Hb2 HS1a
                   change Keeps (notAt R) ((w1.alloc (.cells zeroCode 64)).alloc (.cells zeroCode 64)) w2 at hk2
                   rw [← Hw1a.out] at hk2
                   have hRA : R < w1.heap.size := by omega
                   have hA2 := hk2.block _ _ HA1.out (by show w1.heap.size ≠ R; omega)
                   have hB2 := hk2.block _ _ HB1.out (by show w1.heap.size + 1 ≠ R; omega)
                   have hI2 := HI1a.out.bits hS2 hk2
                   have HI2 := Lib.hid hI2
                   have HA2 := Lib.hid hA2
                   have HB2 := Lib.hid hB2
                   obtain ⟨e1, e2, e3, e4, e5, e6, e7, e8, e9, e10, e11, e12, e13⟩ := hI2.l.cells
                   clear hS2 hk2 hI2 hA2 hB2 HI1a HA1 HB1 Hw1a)
                | (go_at_call 37; refine (Hcod.out w2 HI2.out.src (ordAt_low HE.out HI2.out.l) (by have := heap_lt HA2.out; omega)).mono ?_; rintro e w3 ⟨rfl, hk3⟩; clear Hcod))
              exact HQ.out.pan no _ _ ⟨rfl, rfl, rfl, rfl, rfl, rfl, rfl, rfl⟩ (HI2.out.low hk3 (fun k o h => ⟨by have := heap_lt HA2.out; omega, by omega⟩)) Hres.out
            | ok v =>
              obtain ⟨la, lb, r3⟩ := v
              obtain ⟨hlal, hlbl, hr3l⟩ := codesP_spec hcp
              rw [hcp] at hone hcod
              simp only [] at hone
              have Hone := Lib.hid hone
              have Hcod := Lib.hid hcod
              clear hone hcod hcp
              have herr3 : ∀ no, blockGo most la lb (r3.length + 1) out r3 = .error no → res = .error no := fun no h => Herr.out no (by rw [Hone.out, h])
              have Herr3 := Lib.hid herr3
              clear herr3
              conv => arg 2; whnf
              go_upto_block 5 with (first
                | (go_at_call 35; refine (Hb1.out).mono ?_; rintro e w1 ⟨rfl, hS1, hk1⟩; clear Hb1
                   have hI1 := HI.out.bits hS1 hk1
                   obtain ⟨w1a, hw1a⟩ : ∃ x, x = (w1.alloc (.cells zeroCode 64)).alloc (.cells zeroCode 64) := ⟨_, rfl⟩
                   have hka : Keeps (fun _ _ => True) w1 w1a := by rw [hw1a]; exact ((Keeps.refl _ _).alloc _).alloc _
                   have hA1 : w1a.heap[w1.heap.size]? = some (.cells zeroCode 64 (0, 0)) := by
                     rw [hw1a, heap_alloc_old _ _ (by simp only [World.size_alloc]; omega)]
                     exact World.alloc_heap_new w1 _
                   have hB1 : w1a.heap[w1.heap.size + 1]? = some (.cells zeroCode 64 (0, 0)) := by
                     rw [hw1a]
                     have h := World.alloc_heap_new (w1.alloc (.cells zeroCode 64)) (.cells zeroCode 64)
                     simp only [World.size_alloc] at h
                     exact h
                   have hI1a := hI1.keeps hka (hI1.src.keeps hka (fun _ => trivial)) (fun _ _ _ _ => trivial)
                   have hS1a := hI1a.src
                   rw [hw1a] at hS1a
                   unfold zeroCode at hS1a
                   have hOA : O < w1.heap.size := by obtain ⟨ov, hb, _⟩ := hI1.out; exact hb.lt
                   have HS1a := Lib.hid hS1a
                   have HI1a := Lib.hid hI1a
                   have HA1 := Lib.hid hA1
                   have HB1 := Lib.hid hB1
                   have Hw1a := Lib.hid hw1a
                   clear hS1 hk1 hI1 hka hA1 hB1 hI1a hS1a hw1a)
                | (go_at_call 35; refine (Hb2.out _ HS1a.out).mono ?_; rintro e w2 ⟨rfl, hS2, hk2⟩; clear Hb2 HS1a
                   change Keeps (notAt R) ((w1.alloc (.cells zeroCode 64)).alloc (.cells zeroCode 64)) w2 at hk2
                   rw [← Hw1a.out] at hk2
                   have hRA : R < w1.heap.size := by omega
                   have hA2 := hk2.block _ _ HA1.out (by show w1.heap.size ≠ R; omega)
                   have hB2 := hk2.block _ _ HB1.out (by show w1.heap.size + 1 ≠ R; omega)
                   have hI2 := HI1a.out.bits hS2 hk2
                   have HI2 := Lib.hid hI2
                   have HA2 := Lib.hid hA2
                   have HB2 := Lib.hid hB2
                   obtain ⟨e1, e2, e3, e4, e5, e6, e7, e8, e9, e10, e11, e12, e13⟩ := hI2.l.cells
                   clear hS2 hk2 hI2 hA2 hB2 HI1a HA1 HB1 Hw1a)
                | (go_at_call 37; refine (Hcod.out w2 HI2.out.src (ordAt_low HE.out HI2.out.l) (by have := heap_lt HA2.out; omega)).mono ?_; rintro e w3 ⟨sa, sb, rfl, hsa, hsb, hS3, hk3⟩; clear Hcod
                   have hI3 := HI2.out.keeps hk3 hS3 (fun k o h hn => ⟨heap_lt h, hn⟩)
                   clear hS3
                   obtain ⟨ca, hca⟩ : ∃ c, c = (codeCs la sa).toArray := ⟨_, rfl⟩
                   obtain ⟨cb, hcb⟩ : ∃ c, c = (codeCs lb sb).toArray := ⟨_, rfl⟩
                   rw [show codeV la sa = .agg ca from by rw [hca]; rfl, show codeV lb sb = .agg cb from by rw [hcb]; rfl]
                   have hca1 := codeCs_one la hsa
                   rw [← hca] at hca1
                   have hcaz := codeCs_size la sa
                   rw [← hca] at hcaz
                   have hcb1 := codeCs_one lb hsb
                   rw [← hcb] at hcb1
                   have hcbz := codeCs_size lb sb
                   rw [← hcb] at hcbz
                   have hA3 := hk3.block _ _ HA2.out (⟨heap_lt HA2.out, by omega⟩)
                   have hB3 := hk3.block _ _ HB2.out (⟨heap_lt HB2.out, by omega⟩)
                   have HA3 := Lib.hid hA3
                   have HB3 := Lib.hid hB3
                   have Hca := Lib.hid hca
                   have Hca1 := Lib.hid hca1
                   have Hcb := Lib.hid hcb
                   have Hcb1 := Lib.hid hcb1
                   have Hsa := Lib.hid hsa
                   have Hsb := Lib.hid hsb
                   have HI3 := Lib.hid hI3
                   have Hl2 := heap_lt HB2.out
                   clear hca hca1 hcb hcb1 hsa hsb hA3 hB3 hk3 hI3)
                | (refine wpList_store_row rfl _ _ _ rfl w1.heap.size ca rfl rfl 64 _ HA3.out (by rw [hcaz]; kernel_rfl) (by rw [hcaz]; rfl) Hca1.out ?_)
                | (refine wpList_store_row rfl _ _ _ rfl (w1.heap.size + 1) cb rfl rfl 64 _ ((setRow_other w3 w1.heap.size (w1.heap.size + 1) ca (by omega)).trans HB3.out) (by rw [hcbz]; kernel_rfl) (by rw [hcbz]; rfl) Hcb1.out ?_))
              obtain ⟨w4, hw4⟩ : ∃ x, x = (w3.setRow w1.heap.size ca).setRow (w1.heap.size + 1) cb := ⟨_, rfl⟩
              rw [← hw4]
              obtain ⟨hA4, hB4, hk4⟩ := rows_two (ca := ca) (cb := cb) HA3.out HB3.out (by omega)
              rw [← hw4] at hA4 hB4 hk4
              rw [Hca.out] at hA4
              rw [Hcb.out] at hB4
              have hI4 := HI3.out.keeps2 hk4 (HI3.out.src.keeps hk4 (fun _ => .inl ⟨by omega, by omega⟩)) (fun k o h _ => .inl ⟨by omega, by omega⟩) (fun k cs _ => .inr (fun cs' fz e => by injection e with _ e2 _; revert e2; decide))
              have hbb : base ≤ w2.heap.size := by omega
              have hca4 : CodeAt w4 w1.heap.size base la := codeAt_row hA4 Hsa.out hk4 (fun k cs h => .inl ⟨by omega, by omega⟩) hbb
              have hcb4 : CodeAt w4 (w1.heap.size + 1) base lb := codeAt_row hB4 Hsb.out hk4 (fun k cs h => .inl ⟨by omega, by omega⟩) hbb
              clear hw4 hA4 hB4 hk4
              refine blk5_any w w4 M T K E R O w1.heap.size (w1.heap.size + 1) base s most la lb en (r3.length + 1) _ out r3 res _ (HE.out.benv hOA (by omega) (by omega) (by omega)) ⟨HQ.out.pan, HQ.out.ret, HQ.out.fr⟩ Herr3.out ⟨rfl, rfl, rfl, rfl, rfl, rfl, rfl, rfl⟩ rfl rfl rfl hI4 hca4 hcb4 (by omega) Hom.out ?_
              intro tm' W' out' r' h1 h2 h3 h4 h5
              have h6 := blockGo_less _ h5
              go_wp2_with fail
              exact Hend.out tm' W' en out' r' h1 h2 h3 h4 (by rw [Hone.out, h5]) (by omega)
          · have k2b : ((k : Int) == 2) = false := beq_eq_false_iff_ne.2 (by omega)
            rw [if_neg k2] at hone
            have hres := Herr.out 4 hone
            have Hres := Lib.hid hres
            clear hone hres k0 k1 k2
            conv => arg 2; whnf
            go_wp2_with (first
              | (go_at_call 35; refine (Hb1.out).mono ?_; rintro e w1 ⟨rfl, hS1, hk1⟩; clear Hb1
                 have hI1 := HI.out.bits hS1 hk1
                 obtain ⟨w1a, hw1a⟩ : ∃ x, x = (w1.alloc (.cells zeroCode 64)).alloc (.cells zeroCode 64) := ⟨_, rfl⟩
                 have hka : Keeps (fun _ _ => True) w1 w1a := by rw [hw1a]; exact ((Keeps.refl _ _).alloc _).alloc _
                 have hA1 : w1a.heap[w1.heap.size]? = some (.cells zeroCode 64 (0, 0)) := by
                   rw [hw1a, heap_alloc_old _ _ (by simp only [World.size_alloc]; omega)]
                   exact World.alloc_heap_new w1 _
                 have hB1 : w1a.heap[w1.heap.size + 1]? = some (.cells zeroCode 64 (0, 0)) := by
                   rw [hw1a]
                   have h := World.alloc_heap_new (w1.alloc (.cells zeroCode 64)) (.cells zeroCode 64)
                   simp only [World.size_alloc] at h
                   exact h
                 have hI1a := hI1.keeps hka (hI1.src.keeps hka (fun _ => trivial)) (fun _ _ _ _ => trivial)
                 have hS1a := hI1a.src
                 rw [hw1a] at hS1a
                 unfold zeroCode at hS1a
                 have hOA : O < w1.heap.size := by obtain ⟨ov, hb, _⟩ := hI1.out; exact hb.lt
                 have HS1a := Lib.hid hS1a
                 have HI1a := Lib.hid hI1a
                 have HA1 := Lib.hid hA1
                 have HB1 := Lib.hid hB1
                 have Hw1a := Lib.hid hw1a
                 clear hS1 hk1 hI1 hka hA1 hB1 hI1a hS1a hw1a)
              | (go_at_call 35; refine (Hb2.out _ HS1a.out).mono ?_; rintro e w2 ⟨rfl, hS2, hk2⟩; clear Hb2 HS1a
                 change Keeps (notAt R) ((w1.alloc (.cells zeroCode 64)).alloc (.cells zeroCode 64)) w2 at hk2
                 rw [← Hw1a.out] at hk2
                 have hRA : R < w1.heap.size := by omega
                 have hA2 := hk2.block _ _ HA1.out (by show w1.heap.size ≠ R; omega)
                 have hB2 := hk2.block _ _ HB1.out (by show w1.heap.size + 1 ≠ R; omega)
                 have hI2 := HI1a.out.bits hS2 hk2
                 have HI2 := Lib.hid hI2
                 have HA2 := Lib.hid hA2
                 have HB2 := Lib.hid hB2
                 obtain ⟨e1, e2, e3, e4, e5, e6, e7, e8, e9, e10, e11, e12, e13⟩ := hI2.l.cells
                 clear hS2 hk2 hI2 hA2 hB2 HI1a HA1 HB1 Hw1a))
            exact HQ.out.ret 4 _ _ ⟨rfl, rfl, rfl, rfl, rfl, rfl, rfl, rfl⟩ (HI2.out.l.ret 4) Hres.out
    · rw [takeB_no hb] at hone
      simp only [] at hone
      have hb2 := fun W (hW : SrcAt W R s r1) => bits_short R s r1 2 W hW (by decide) hss (by omega)
      have hres := Herr.out 2 hone
      have Hres := Lib.hid hres
      have Hb2 := Lib.hid hb2
      clear hb2 hres hone hb
      conv => arg 2; whnf
      go_wp2_with (first
        | (go_at_call 35; refine (Hb1.out).mono ?_; rintro e w1 ⟨rfl, hS1, hk1⟩; clear Hb1
           have hI1 := HI.out.bits hS1 hk1
           obtain ⟨w1a, hw1a⟩ : ∃ x, x = (w1.alloc (.cells zeroCode 64)).alloc (.cells zeroCode 64) := ⟨_, rfl⟩
           have hka : Keeps (fun _ _ => True) w1 w1a := by rw [hw1a]; exact ((Keeps.refl _ _).alloc _).alloc _
           have hA1 : w1a.heap[w1.heap.size]? = some (.cells zeroCode 64 (0, 0)) := by
             rw [hw1a, heap_alloc_old _ _ (by simp only [World.size_alloc]; omega)]
             exact World.alloc_heap_new w1 _
           have hB1 : w1a.heap[w1.heap.size + 1]? = some (.cells zeroCode 64 (0, 0)) := by
             rw [hw1a]
             have h := World.alloc_heap_new (w1.alloc (.cells zeroCode 64)) (.cells zeroCode 64)
             simp only [World.size_alloc] at h
             exact h
           have hI1a := hI1.keeps hka (hI1.src.keeps hka (fun _ => trivial)) (fun _ _ _ _ => trivial)
           have hS1a := hI1a.src
           rw [hw1a] at hS1a
           unfold zeroCode at hS1a
           have hOA : O < w1.heap.size := by obtain ⟨ov, hb, _⟩ := hI1.out; exact hb.lt
           have HS1a := Lib.hid hS1a
           have HI1a := Lib.hid hI1a
           have HA1 := Lib.hid hA1
           have HB1 := Lib.hid hB1
           have Hw1a := Lib.hid hw1a
           clear hS1 hk1 hI1 hka hA1 hB1 hI1a hS1a hw1a)
        | (go_at_call 35; refine (Hb2.out _ HS1a.out).mono ?_; rintro e w2 ⟨rfl, hk2⟩; clear Hb2 HS1a
           change Keeps (notAt R) ((w1.alloc (.cells zeroCode 64)).alloc (.cells zeroCode 64)) w2 at hk2
           rw [← Hw1a.out] at hk2))
      exact HQ.out.pan 2 _ _ ⟨rfl, rfl, rfl, rfl, rfl, rfl, rfl, rfl⟩ (HI1a.out.low hk2 (fun k o h => by show k ≠ R; omega)) Hres.out
  · rw [takeB_no hb] at hone
    simp only [] at hone
    have hb1 := bits_short R s r 1 wr HI.out.src (by decide) hss (by omega)
    have hres := Herr.out 2 hone
    have Hres := Lib.hid hres
    have Hb1 := Lib.hid hb1
    clear hb1 hres hone hb
    conv => arg 2; whnf
    go_wp2_with (go_at_call 35; refine (Hb1.out).mono ?_; rintro e w1 ⟨rfl, hk1⟩; clear Hb1)
    exact HQ.out.pan 2 _ _ ⟨rfl, rfl, rfl, rfl, rfl, rfl, rfl, rfl⟩ (HI.out.low hk1 (fun k o h => by show k ≠ R; omega)) Hres.out
end Go.Proofs.YtjielagabnkimaaDoor
