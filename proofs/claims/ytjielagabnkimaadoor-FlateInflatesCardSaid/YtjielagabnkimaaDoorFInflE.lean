/- flate.Inflate: the loop over the symbols of a block: a round where a length comes. -/
import Derived.Test.YtjielagabnkimaaDoorFInflD
set_option linter.unusedSimpArgs false
set_option linter.unusedVariables false
namespace Go.Proofs.YtjielagabnkimaaDoor
open Go.RowKit
attribute [local go_sem ↓] Go.wp_at_zero Go.wp_at_succ
theorem lens_least : ∀ k, (lensT.getD k (0, 0)).1 ≤ 258 := by
  intro k
  by_cases h : k < 29
  · exact (by decide : ∀ k, k < 29 → (lensT.getD k (0, 0)).1 ≤ 258) k h
  · rw [List.getD_eq_getElem?_getD, List.getElem?_eq_none (by simp [lensT]; omega)]; simp
theorem dist_least : ∀ k, k < 30 → 1 ≤ (distT.getD k (0, 0)).1 ∧ (distT.getD k (0, 0)).1 ≤ 24577 := by decide
theorem InfAt.lens {w W : World} {M T K E R O A B base : Nat} {s : ByteArray} {most : Int} {la lb : List Nat} {out : List UInt8} {r : List Bool} (hE : BEnv w M T K E R O A B base s most la lb) (h : InfAt w W M T K E R O base s most out r) : TabAt W 0 lensT ∧ TabAt W 1 distT := by
  have := hE.m4
  exact ⟨hE.tabs.1.below h.l.low (by omega), hE.tabs.2.1.below h.l.low (by omega)⟩

set_option maxRecDepth 100000 in
set_option maxHeartbeats 16000000 in
theorem blk6_match (w wr : World) (M T K E R O A B base : Nat) (s : ByteArray) (most : Int) (la lb : List Nat) (en : Bool) (TT : Except Nat (List UInt8 × List Bool)) (n : Nat) (tm : Array Value) (out : List UInt8) (r : List Bool) (res : Except Nat (List UInt8 × Nat)) (Q : Exit → Act → World → Prop) (J : Act → World → Prop)
    (hE : BEnv w M T K E R O A B base s most la lb) (hQ : InfQ w M T K E R O most res Q) (herr : ∀ no, TT = .error no → res = .error no)
    (hF : IFr tm M T K E R O) (hen : tm.getD 10 undef = .bool en) (hA : tm.getD 11 undef = .pointer (some ⟨A, 0, none⟩)) (hB : tm.getD 12 undef = .pointer (some ⟨B, 0, none⟩))
    (hI : InfAt w wr M T K E R O base s most out r) (hca : CodeAt wr A base la) (hcb : CodeAt wr B base lb) (hrl : r.length < n) (hom : out.length = 0 ∨ (out.length : Int) ≤ most) (hgo : blockGo most la lb n out r = TT)
    (hJ : ∀ n' a' w', n' < n → BI w M T K E R O A B base s most la lb en TT n' a' w' → J a' w')
    (y0 : Nat) (r1 : List Bool) (hsp : symP la r = .ok (y0, r1)) (hy1 : 256 < y0) (hy2 : y0 ≤ 285) :
    Code.wp Tryd.prog blk6 (Exit.then J Q) ⟨tm, infD T K E⟩ wr := by
  obtain ⟨n, rfl⟩ : ∃ m, n = m + 1 := ⟨n - 1, by omega⟩
  obtain ⟨x, rfl⟩ := hF.open4 hen hA hB
  rw [blockGo] at hgo
  have hsym := fsymbol_any R A base s r la wr hI.src hca hE.s hE.la
  have hless := symP_less hsp
  rw [hsp] at hsym
  have hls := hE.most
  have hol : out.length < 2 ^ 40 := by omega
  have hss := hE.s
  have hlb := hE.lb
  obtain ⟨hoE, hoR, hoO⟩ := hE.o
  obtain ⟨haA, haB⟩ := hE.a
  have hbO := hE.b
  obtain ⟨i, hi⟩ : ∃ i, i = y0 - 257 := ⟨_, rfl⟩
  have hi29 : i < 29 := by omega
  obtain ⟨l1, hl1⟩ : ∃ v, v = (lensT.getD i (0, 0)).1 := ⟨_, rfl⟩
  obtain ⟨x1, hx1⟩ : ∃ v, v = (lensT.getD i (0, 0)).2 := ⟨_, rfl⟩
  have hl258 : l1 ≤ 258 := by rw [hl1]; exact lens_least i
  have hx5 : x1 ≤ 5 := by rw [hx1]; exact lens_extra i
  have hct : ∀ (W : World) (r' : List Bool), InfAt w W M T K E R O base s most out r' → W.cell? ⟨0, i * 2, none⟩ = some (.int .i64 (l1 : Int)) ∧ W.cell? ⟨0, i * 2 + 1, none⟩ = some (.int .i64 (x1 : Int)) := by
    intro W r' hW
    rw [hl1, hx1]
    exact (InfAt.lens hE hW).1 i hi29
  obtain ⟨b1, hb1⟩ : ∃ b, b = blockOne most la lb out r := ⟨_, rfl⟩
  rw [← hb1] at hgo
  unfold blockOne at hb1
  rw [hsp] at hb1
  simp only [] at hb1
  rw [if_neg (by omega), if_neg (by omega), if_neg (by omega), ← hi, ← hl1, ← hx1] at hb1
  have herr2 : ∀ no, b1 = .error no → res = .error no := by
    intro no hno
    rw [hno] at hgo
    exact herr no hgo.symm
  have qa : ((y0 : Int) == 256) = false := beq_eq_false_iff_ne.2 (by omega)
  have qb : ¬ (y0 : Int) < 256 := by omega
  have qc : ¬ (285 : Int) < (y0 : Int) := by omega
  have eiz : (y0 : Int) - 257 = (i : Int) := by omega
  have eiw : IntKind.i64.wrap ((y0 : Int) - 257) = (i : Int) := by rw [eiz]; exact IntWalk.i64_in _ (by omega)
  have eiw2 : IntKind.i64.wrap (i : Int) = (i : Int) := IntWalk.i64_in _ (by omega)
  have ei0 : (0 : Int) ≤ (i : Int) := by omega
  have ei29 : (i : Int) < 29 := by omega
  have Hi := Lib.hid hi
  have Hl1 := Lib.hid hl1
  have Hx1 := Lib.hid hx1
  have HE := Lib.hid hE
  have Hom := Lib.hid hom
  have HQ := Lib.hid hQ
  have Herr := Lib.hid herr2
  have HI := Lib.hid hI
  have Hca := Lib.hid hca
  have Hcb := Lib.hid hcb
  have HJ := Lib.hid hJ
  have Hct := Lib.hid hct
  have Hsym := Lib.hid hsym
  have Hgo := Lib.hid hgo
  clear hom hE hQ herr herr2 hF hen hA hB hI hca hcb hJ hct hsym hgo hi hl1 hx1 hsp
  unfold infD putIV
  by_cases hbs1 : x1 ≤ r1.length
  · rw [takeB_ok hbs1] at hb1
    obtain ⟨r2, hr2⟩ : ∃ x, x = r1.drop x1 := ⟨_, rfl⟩
    obtain ⟨t1, ht1⟩ : ∃ x, x = num (r1.take x1) := ⟨_, rfl⟩
    have ht32 : t1 < 32 := by rw [ht1]; exact Nat.lt_of_lt_of_le (num_take_lt x1 r1) (Nat.pow_le_pow_right (n := 2) (i := x1) (j := 5) (by decide) hx5)
    have hr2l : r2.length ≤ r1.length := by rw [hr2, List.length_drop]; omega
    have hbb1 := fun W (hW : SrcAt W R s r1) => bits_ok R s r1 x1 W hW (by omega) hss hbs1
    rw [← hr2, ← ht1] at hbb1 hb1
    simp only [] at hb1
    obtain ⟨nn, hnn⟩ : ∃ x, x = l1 + t1 := ⟨_, rfl⟩
    have hnn1 : nn ≤ 289 := by omega
    have enz : (l1 : Int) + (t1 : Int) = (nn : Int) := by omega
    have enw : IntKind.i64.wrap ((l1 : Int) + (t1 : Int)) = (nn : Int) := by rw [enz]; exact IntWalk.i64_in _ (by omega)
    have enw2 : IntKind.i64.wrap (nn : Int) = (nn : Int) := IntWalk.i64_in _ (by omega)
    rw [← hnn] at hb1
    have hsym2 := fun W (hW : SrcAt W R s r2) (hC : CodeAt W B base lb) => fsymbol_any R B base s r2 lb W hW hC hss hlb
    have Hb1 := Lib.hid hbb1
    have Hnn := Lib.hid hnn
    clear hbb1 hr2 ht1 hnn hbs1
    cases hsp2 : symP lb r2 with
    | error no =>
      rw [hsp2] at hb1 hsym2
      simp only [] at hb1
      have hres := Herr.out no hb1
      have Hres := Lib.hid hres
      have Hsym2 := Lib.hid hsym2
      clear hres hsym2 hb1 hsp2
      conv => arg 2; whnf
      go_wp2_with (go_at_call 38; refine (Hsym.out).mono ?_; rintro e w7 ⟨rfl, hS7, hk7⟩; clear Hsym
                   have hca7 := Hca.out.notAt HI.out.src hk7
                   have hcb7 := Hcb.out.notAt HI.out.src hk7
                   have hI7 := HI.out.bits hS7 hk7
                   have HI7 := Lib.hid hI7
                   have Hca7 := Lib.hid hca7
                   have Hcb7 := Lib.hid hcb7
                   obtain ⟨c7a, c7b⟩ := Hct.out w7 r1 hI7
                   clear hS7 hk7 hI7 hca7 hcb7)
      go_region_held3 (fun w' => w'.cell? ⟨0, i * 2, none⟩ = some (.int .i64 (l1 : Int)) ∧ w'.cell? ⟨0, i * 2 + 1, none⟩ = some (.int .i64 (x1 : Int))) (go_keep)
        ((go_at_call 35; refine (Hb1.out _ HI7.out.src.drew).mono ?_; rintro e w8 ⟨rfl, hS8, hk8d⟩
          have hk8 : Keeps (notAt R) w7 w8 := (Keeps.refl (notAt R) w7).drew.trans hk8d
          have hca8 := Hca7.out.notAt HI7.out.src hk8
          have hcb8 := Hcb7.out.notAt HI7.out.src hk8
          have hI8 := HI7.out.bits hS8 hk8
          have HI8 := Lib.hid hI8
          have Hca8 := Lib.hid hca8
          have Hcb8 := Lib.hid hcb8
          obtain ⟨c8a, c8b⟩ := Hct.out w8 r2 hI8
          clear hS8 hk8 hk8d hI8 hca8 hcb8))
      go_wp2_with (go_at_call 38; refine (Hsym2.out w8 HI8.out.src Hcb8.out).mono ?_; rintro e w9 ⟨rfl, hk9⟩; clear Hsym2)
      exact HQ.out.pan no _ _ ⟨rfl, rfl, rfl, rfl, rfl, rfl, rfl, rfl⟩ (HI8.out.low hk9 (fun k o h => by show k ≠ R; omega)) Hres.out
    | ok v2 =>
      obtain ⟨y, r3⟩ := v2
      have hless2 := symP_less hsp2
      rw [hsp2] at hb1 hsym2
      simp only [] at hb1
      have Hsym2 := Lib.hid hsym2
      clear hsym2 hsp2
      by_cases hy29 : 29 < y
      · rw [if_pos hy29] at hb1
        have qd : (29 : Int) < (y : Int) := by omega
        have hres := Herr.out 4 hb1
        have Hres := Lib.hid hres
        clear hres hb1
        conv => arg 2; whnf
        go_wp2_with (go_at_call 38; refine (Hsym.out).mono ?_; rintro e w7 ⟨rfl, hS7, hk7⟩; clear Hsym
                     have hca7 := Hca.out.notAt HI.out.src hk7
                     have hcb7 := Hcb.out.notAt HI.out.src hk7
                     have hI7 := HI.out.bits hS7 hk7
                     have HI7 := Lib.hid hI7
                     have Hca7 := Lib.hid hca7
                     have Hcb7 := Lib.hid hcb7
                     obtain ⟨c7a, c7b⟩ := Hct.out w7 r1 hI7
                     clear hS7 hk7 hI7 hca7 hcb7)
        go_region_held3 (fun w' => w'.cell? ⟨0, i * 2, none⟩ = some (.int .i64 (l1 : Int)) ∧ w'.cell? ⟨0, i * 2 + 1, none⟩ = some (.int .i64 (x1 : Int))) (go_keep)
          ((go_at_call 35; refine (Hb1.out _ HI7.out.src.drew).mono ?_; rintro e w8 ⟨rfl, hS8, hk8d⟩
            have hk8 : Keeps (notAt R) w7 w8 := (Keeps.refl (notAt R) w7).drew.trans hk8d
            have hca8 := Hca7.out.notAt HI7.out.src hk8
            have hcb8 := Hcb7.out.notAt HI7.out.src hk8
            have hI8 := HI7.out.bits hS8 hk8
            have HI8 := Lib.hid hI8
            have Hca8 := Lib.hid hca8
            have Hcb8 := Lib.hid hcb8
            obtain ⟨c8a, c8b⟩ := Hct.out w8 r2 hI8
            clear hS8 hk8 hk8d hI8 hca8 hcb8))
        go_wp2_with (go_at_call 38; refine (Hsym2.out w8 HI8.out.src Hcb8.out).mono ?_; rintro e w9 ⟨rfl, hS9, hk9⟩; clear Hsym2
                     have hI9 := HI8.out.bits hS9 hk9
                     obtain ⟨e1, e2, e3, e4, e5, e6, e7, e8, e9, e10, e11, e12, e13⟩ := hI9.l.cells
                     have HI9 := Lib.hid hI9
                     clear hS9 hk9 hI9)
        exact HQ.out.ret 4 _ _ ⟨rfl, rfl, rfl, rfl, rfl, rfl, rfl, rfl⟩ (HI9.out.l.ret 4) Hres.out
      · rw [if_neg hy29] at hb1
        have qd : ¬ (29 : Int) < (y : Int) := by omega
        have ey0 : (0 : Int) ≤ (y : Int) := by omega
        have ey30 : (y : Int) < 30 := by omega
        obtain ⟨d1, hd1⟩ : ∃ v, v = (distT.getD y (0, 0)).1 := ⟨_, rfl⟩
        obtain ⟨x2, hx2⟩ : ∃ v, v = (distT.getD y (0, 0)).2 := ⟨_, rfl⟩
        obtain ⟨hdl1, hdl2⟩ := dist_least y (by omega)
        rw [← hd1] at hdl1 hdl2
        have hx13 : x2 ≤ 13 := by rw [hx2]; exact dist_extra y
        rw [← hd1, ← hx2] at hb1
        have hdt : ∀ (W : World) (r' : List Bool), InfAt w W M T K E R O base s most out r' → W.cell? ⟨1, y * 2, none⟩ = some (.int .i64 (d1 : Int)) ∧ W.cell? ⟨1, y * 2 + 1, none⟩ = some (.int .i64 (x2 : Int)) := by
          intro W r' hW
          rw [hd1, hx2]
          exact (InfAt.lens HE.out hW).2 y (by show y < 30; omega)
        have Hdt := Lib.hid hdt
        clear hdt hd1 hx2
        by_cases hbs2 : x2 ≤ r3.length
        · rw [takeB_ok hbs2] at hb1
          obtain ⟨r4, hr4⟩ : ∃ x, x = r3.drop x2 := ⟨_, rfl⟩
          obtain ⟨t2, ht2⟩ : ∃ x, x = num (r3.take x2) := ⟨_, rfl⟩
          have ht8 : t2 < 8192 := by rw [ht2]; exact Nat.lt_of_lt_of_le (num_take_lt x2 r3) (Nat.pow_le_pow_right (n := 2) (i := x2) (j := 13) (by decide) hx13)
          have hr4l : r4.length ≤ r3.length := by rw [hr4, List.length_drop]; omega
          have hbb2 := fun W (hW : SrcAt W R s r3) => bits_ok R s r3 x2 W hW (by omega) hss hbs2
          rw [← hr4, ← ht2] at hbb2 hb1
          simp only [] at hb1
          obtain ⟨dd, hdd⟩ : ∃ x, x = d1 + t2 := ⟨_, rfl⟩
          have hdd1 : 1 ≤ dd := by omega
          have hdd2 : dd ≤ 32769 := by omega
          have edz : (d1 : Int) + (t2 : Int) = (dd : Int) := by omega
          have edw : IntKind.i64.wrap ((d1 : Int) + (t2 : Int)) = (dd : Int) := by rw [edz]; exact IntWalk.i64_in _ (by omega)
          have edw2 : IntKind.i64.wrap (dd : Int) = (dd : Int) := IntWalk.i64_in _ (by omega)
          rw [← hdd] at hb1
          have Hb2 := Lib.hid hbb2
          clear hbb2 hr4 ht2 hdd hbs2
          by_cases hfar : out.length < dd
          · rw [if_pos hfar] at hb1
            have qe : (out.length : Int) < (dd : Int) := by omega
            have hres := Herr.out 4 hb1
            have Hres := Lib.hid hres
            clear hres hb1
            conv => arg 2; whnf
            go_wp2_with (go_at_call 38; refine (Hsym.out).mono ?_; rintro e w7 ⟨rfl, hS7, hk7⟩; clear Hsym
                         have hca7 := Hca.out.notAt HI.out.src hk7
                         have hcb7 := Hcb.out.notAt HI.out.src hk7
                         have hI7 := HI.out.bits hS7 hk7
                         have HI7 := Lib.hid hI7
                         have Hca7 := Lib.hid hca7
                         have Hcb7 := Lib.hid hcb7
                         obtain ⟨c7a, c7b⟩ := Hct.out w7 r1 hI7
                         clear hS7 hk7 hI7 hca7 hcb7)
            go_region_held3 (fun w' => w'.cell? ⟨0, i * 2, none⟩ = some (.int .i64 (l1 : Int)) ∧ w'.cell? ⟨0, i * 2 + 1, none⟩ = some (.int .i64 (x1 : Int))) (go_keep)
              ((go_at_call 35; refine (Hb1.out _ HI7.out.src.drew).mono ?_; rintro e w8 ⟨rfl, hS8, hk8d⟩
                have hk8 : Keeps (notAt R) w7 w8 := (Keeps.refl (notAt R) w7).drew.trans hk8d
                have hca8 := Hca7.out.notAt HI7.out.src hk8
                have hcb8 := Hcb7.out.notAt HI7.out.src hk8
                have hI8 := HI7.out.bits hS8 hk8
                have HI8 := Lib.hid hI8
                have Hca8 := Lib.hid hca8
                have Hcb8 := Lib.hid hcb8
                obtain ⟨c8a, c8b⟩ := Hct.out w8 r2 hI8
                clear hS8 hk8 hk8d hI8 hca8 hcb8))
            go_wp2_with (go_at_call 38; refine (Hsym2.out w8 HI8.out.src Hcb8.out).mono ?_; rintro e w9 ⟨rfl, hS9, hk9⟩; clear Hsym2
                         have hca9 := Hca8.out.notAt HI8.out.src hk9
                         have hcb9 := Hcb8.out.notAt HI8.out.src hk9
                         have hI9 := HI8.out.bits hS9 hk9
                         have HI9 := Lib.hid hI9
                         have Hca9 := Lib.hid hca9
                         have Hcb9 := Lib.hid hcb9
                         obtain ⟨d9a, d9b⟩ := Hdt.out w9 r3 hI9
                         obtain ⟨e1, e2, e3, e4, e5, e6, e7, e8, e9, e10, e11, e12, e13⟩ := hI9.l.cells
                         clear hS9 hk9 hI9 hca9 hcb9)
            go_region_held3 (fun w' => w'.cell? ⟨1, y * 2, none⟩ = some (.int .i64 (d1 : Int)) ∧ w'.cell? ⟨1, y * 2 + 1, none⟩ = some (.int .i64 (x2 : Int))) (go_keep)
              ((go_at_call 35; refine (Hb2.out _ HI9.out.src.drew).mono ?_; rintro e w10 ⟨rfl, hS10, hk10d⟩
                have hk10 : Keeps (notAt R) w9 w10 := (Keeps.refl (notAt R) w9).drew.trans hk10d
                have hca10 := Hca9.out.notAt HI9.out.src hk10
                have hcb10 := Hcb9.out.notAt HI9.out.src hk10
                have hI10 := HI9.out.bits hS10 hk10
                have HI10 := Lib.hid hI10
                have Hca10 := Lib.hid hca10
                have Hcb10 := Lib.hid hcb10
                obtain ⟨d10a, d10b⟩ := Hdt.out w10 r4 hI10
                obtain ⟨q1, q2, q3, q4, q5, q6, q7, q8, q9, q10, q11, q12, q13⟩ := hI10.l.cells
                obtain ⟨po, co, cO⟩ := hI10.outLen
                clear hS10 hk10 hk10d hI10 hca10 hcb10))
            go_wp2_with fail
            exact HQ.out.ret 4 _ _ ⟨rfl, rfl, rfl, rfl, rfl, rfl, rfl, rfl⟩ (HI10.out.l.ret 4) Hres.out
          · rw [if_neg hfar] at hb1
            have qe : ¬ (out.length : Int) < (dd : Int) := by omega
            have hmo : (out.length : Int) ≤ most := by rcases Hom.out with h | h <;> omega
            by_cases hmm : most - (out.length : Int) < (nn : Int)
            · rw [if_pos hmm] at hb1
              have hres := Herr.out 5 hb1
              have Hres := Lib.hid hres
              clear hres hb1
              conv => arg 2; whnf
              go_wp2_with (go_at_call 38; refine (Hsym.out).mono ?_; rintro e w7 ⟨rfl, hS7, hk7⟩; clear Hsym
                           have hca7 := Hca.out.notAt HI.out.src hk7
                           have hcb7 := Hcb.out.notAt HI.out.src hk7
                           have hI7 := HI.out.bits hS7 hk7
                           have HI7 := Lib.hid hI7
                           have Hca7 := Lib.hid hca7
                           have Hcb7 := Lib.hid hcb7
                           obtain ⟨c7a, c7b⟩ := Hct.out w7 r1 hI7
                           clear hS7 hk7 hI7 hca7 hcb7)
              go_region_held3 (fun w' => w'.cell? ⟨0, i * 2, none⟩ = some (.int .i64 (l1 : Int)) ∧ w'.cell? ⟨0, i * 2 + 1, none⟩ = some (.int .i64 (x1 : Int))) (go_keep)
                ((go_at_call 35; refine (Hb1.out _ HI7.out.src.drew).mono ?_; rintro e w8 ⟨rfl, hS8, hk8d⟩
                  have hk8 : Keeps (notAt R) w7 w8 := (Keeps.refl (notAt R) w7).drew.trans hk8d
                  have hca8 := Hca7.out.notAt HI7.out.src hk8
                  have hcb8 := Hcb7.out.notAt HI7.out.src hk8
                  have hI8 := HI7.out.bits hS8 hk8
                  have HI8 := Lib.hid hI8
                  have Hca8 := Lib.hid hca8
                  have Hcb8 := Lib.hid hcb8
                  obtain ⟨c8a, c8b⟩ := Hct.out w8 r2 hI8
                  clear hS8 hk8 hk8d hI8 hca8 hcb8))
              go_wp2_with (go_at_call 38; refine (Hsym2.out w8 HI8.out.src Hcb8.out).mono ?_; rintro e w9 ⟨rfl, hS9, hk9⟩; clear Hsym2
                           have hca9 := Hca8.out.notAt HI8.out.src hk9
                           have hcb9 := Hcb8.out.notAt HI8.out.src hk9
                           have hI9 := HI8.out.bits hS9 hk9
                           have HI9 := Lib.hid hI9
                           have Hca9 := Lib.hid hca9
                           have Hcb9 := Lib.hid hcb9
                           obtain ⟨d9a, d9b⟩ := Hdt.out w9 r3 hI9
                           obtain ⟨e1, e2, e3, e4, e5, e6, e7, e8, e9, e10, e11, e12, e13⟩ := hI9.l.cells
                           clear hS9 hk9 hI9 hca9 hcb9)
              go_region_held3 (fun w' => w'.cell? ⟨1, y * 2, none⟩ = some (.int .i64 (d1 : Int)) ∧ w'.cell? ⟨1, y * 2 + 1, none⟩ = some (.int .i64 (x2 : Int))) (go_keep)
                ((go_at_call 35; refine (Hb2.out _ HI9.out.src.drew).mono ?_; rintro e w10 ⟨rfl, hS10, hk10d⟩
                  have hk10 : Keeps (notAt R) w9 w10 := (Keeps.refl (notAt R) w9).drew.trans hk10d
                  have hca10 := Hca9.out.notAt HI9.out.src hk10
                  have hcb10 := Hcb9.out.notAt HI9.out.src hk10
                  have hI10 := HI9.out.bits hS10 hk10
                  have HI10 := Lib.hid hI10
                  have Hca10 := Lib.hid hca10
                  have Hcb10 := Lib.hid hcb10
                  obtain ⟨d10a, d10b⟩ := Hdt.out w10 r4 hI10
                  obtain ⟨q1, q2, q3, q4, q5, q6, q7, q8, q9, q10, q11, q12, q13⟩ := hI10.l.cells
                  obtain ⟨po, co, cO⟩ := hI10.outLen
                  clear hS10 hk10 hk10d hI10 hca10 hcb10))
              go_wp2_with fail
              exact HQ.out.ret 5 _ _ ⟨rfl, rfl, rfl, rfl, rfl, rfl, rfl, rfl⟩ (HI10.out.l.ret 5) Hres.out
            · rw [if_neg hmm] at hb1
              have hgo2 := Hgo.out
              rw [hb1] at hgo2
              simp only [] at hgo2
              have Hgo2 := Lib.hid hgo2
              clear hgo2 hb1
              conv => arg 2; whnf
              go_wp2_with (go_at_call 38; refine (Hsym.out).mono ?_; rintro e w7 ⟨rfl, hS7, hk7⟩; clear Hsym
                           have hca7 := Hca.out.notAt HI.out.src hk7
                           have hcb7 := Hcb.out.notAt HI.out.src hk7
                           have hI7 := HI.out.bits hS7 hk7
                           have HI7 := Lib.hid hI7
                           have Hca7 := Lib.hid hca7
                           have Hcb7 := Lib.hid hcb7
                           obtain ⟨c7a, c7b⟩ := Hct.out w7 r1 hI7
                           clear hS7 hk7 hI7 hca7 hcb7)
              go_region_held3 (fun w' => w'.cell? ⟨0, i * 2, none⟩ = some (.int .i64 (l1 : Int)) ∧ w'.cell? ⟨0, i * 2 + 1, none⟩ = some (.int .i64 (x1 : Int))) (go_keep)
                ((go_at_call 35; refine (Hb1.out _ HI7.out.src.drew).mono ?_; rintro e w8 ⟨rfl, hS8, hk8d⟩
                  have hk8 : Keeps (notAt R) w7 w8 := (Keeps.refl (notAt R) w7).drew.trans hk8d
                  have hca8 := Hca7.out.notAt HI7.out.src hk8
                  have hcb8 := Hcb7.out.notAt HI7.out.src hk8
                  have hI8 := HI7.out.bits hS8 hk8
                  have HI8 := Lib.hid hI8
                  have Hca8 := Lib.hid hca8
                  have Hcb8 := Lib.hid hcb8
                  obtain ⟨c8a, c8b⟩ := Hct.out w8 r2 hI8
                  clear hS8 hk8 hk8d hI8 hca8 hcb8))
              go_wp2_with (go_at_call 38; refine (Hsym2.out w8 HI8.out.src Hcb8.out).mono ?_; rintro e w9 ⟨rfl, hS9, hk9⟩; clear Hsym2
                           have hca9 := Hca8.out.notAt HI8.out.src hk9
                           have hcb9 := Hcb8.out.notAt HI8.out.src hk9
                           have hI9 := HI8.out.bits hS9 hk9
                           have HI9 := Lib.hid hI9
                           have Hca9 := Lib.hid hca9
                           have Hcb9 := Lib.hid hcb9
                           obtain ⟨d9a, d9b⟩ := Hdt.out w9 r3 hI9
                           obtain ⟨e1, e2, e3, e4, e5, e6, e7, e8, e9, e10, e11, e12, e13⟩ := hI9.l.cells
                           clear hS9 hk9 hI9 hca9 hcb9)
              go_region_held3 (fun w' => w'.cell? ⟨1, y * 2, none⟩ = some (.int .i64 (d1 : Int)) ∧ w'.cell? ⟨1, y * 2 + 1, none⟩ = some (.int .i64 (x2 : Int))) (go_keep)
                ((go_at_call 35; refine (Hb2.out _ HI9.out.src.drew).mono ?_; rintro e w10 ⟨rfl, hS10, hk10d⟩
                  have hk10 : Keeps (notAt R) w9 w10 := (Keeps.refl (notAt R) w9).drew.trans hk10d
                  have hca10 := Hca9.out.notAt HI9.out.src hk10
                  have hcb10 := Hcb9.out.notAt HI9.out.src hk10
                  have hI10 := HI9.out.bits hS10 hk10
                  have HI10 := Lib.hid hI10
                  have Hca10 := Lib.hid hca10
                  have Hcb10 := Lib.hid hcb10
                  obtain ⟨d10a, d10b⟩ := Hdt.out w10 r4 hI10
                  obtain ⟨q1, q2, q3, q4, q5, q6, q7, q8, q9, q10, q11, q12, q13⟩ := hI10.l.cells
                  obtain ⟨po, co, cO⟩ := hI10.outLen
                  clear hS10 hk10 hk10d hI10 hca10 hcb10))
              go_upto_block 7 with fail
              refine blk7_any _ _ M T K E R O A B nn dd base out w10 _ ⟨rfl, rfl, rfl, rfl, rfl, rfl, rfl, rfl⟩ rfl rfl rfl rfl rfl HI10.out.out hoO hdd1 (by omega) (by omega) ?_
              intro tm' w11 hF' h10 hA' hB' hO' hk'
              refine HJ.out n _ _ (by omega) ⟨tm', copyN dd nn out, r4, rfl, hF', h10, hA', hB', HI10.out.put hO' hk', Hca10.out.put hk' haA hoO, Hcb10.out.put hk' haB hoO, by omega, ?_, Hgo2.out⟩
              rw [copyN_len]
              right; omega
        · rw [takeB_no hbs2] at hb1
          simp only [] at hb1
          have hbb2 := fun W (hW : SrcAt W R s r3) => bits_short R s r3 x2 W hW (by omega) hss (by omega)
          have hres := Herr.out 2 hb1
          have Hres := Lib.hid hres
          have Hb2 := Lib.hid hbb2
          clear hbb2 hres hb1 hbs2
          conv => arg 2; whnf
          go_wp2_with (go_at_call 38; refine (Hsym.out).mono ?_; rintro e w7 ⟨rfl, hS7, hk7⟩; clear Hsym
                       have hca7 := Hca.out.notAt HI.out.src hk7
                       have hcb7 := Hcb.out.notAt HI.out.src hk7
                       have hI7 := HI.out.bits hS7 hk7
                       have HI7 := Lib.hid hI7
                       have Hca7 := Lib.hid hca7
                       have Hcb7 := Lib.hid hcb7
                       obtain ⟨c7a, c7b⟩ := Hct.out w7 r1 hI7
                       clear hS7 hk7 hI7 hca7 hcb7)
          go_region_held3 (fun w' => w'.cell? ⟨0, i * 2, none⟩ = some (.int .i64 (l1 : Int)) ∧ w'.cell? ⟨0, i * 2 + 1, none⟩ = some (.int .i64 (x1 : Int))) (go_keep)
            ((go_at_call 35; refine (Hb1.out _ HI7.out.src.drew).mono ?_; rintro e w8 ⟨rfl, hS8, hk8d⟩
              have hk8 : Keeps (notAt R) w7 w8 := (Keeps.refl (notAt R) w7).drew.trans hk8d
              have hca8 := Hca7.out.notAt HI7.out.src hk8
              have hcb8 := Hcb7.out.notAt HI7.out.src hk8
              have hI8 := HI7.out.bits hS8 hk8
              have HI8 := Lib.hid hI8
              have Hca8 := Lib.hid hca8
              have Hcb8 := Lib.hid hcb8
              obtain ⟨c8a, c8b⟩ := Hct.out w8 r2 hI8
              clear hS8 hk8 hk8d hI8 hca8 hcb8))
          go_wp2_with (go_at_call 38; refine (Hsym2.out w8 HI8.out.src Hcb8.out).mono ?_; rintro e w9 ⟨rfl, hS9, hk9⟩; clear Hsym2
                       have hca9 := Hca8.out.notAt HI8.out.src hk9
                       have hcb9 := Hcb8.out.notAt HI8.out.src hk9
                       have hI9 := HI8.out.bits hS9 hk9
                       have HI9 := Lib.hid hI9
                       have Hca9 := Lib.hid hca9
                       have Hcb9 := Lib.hid hcb9
                       obtain ⟨d9a, d9b⟩ := Hdt.out w9 r3 hI9
                       obtain ⟨e1, e2, e3, e4, e5, e6, e7, e8, e9, e10, e11, e12, e13⟩ := hI9.l.cells
                       clear hS9 hk9 hI9 hca9 hcb9)
          refine wp_region_any (by kernel_rfl) ?_
          change wpAny _ _ _ _ _ _ _ (World.drew _)
          refine wpAny_take (i := 0) (v := .int .i64 (y : Int)) rfl (by kernel_rfl) (by kernel_rfl) (by kernel_rfl) (fun c a w h => HQ.out.fr c a _ _ w (by decide) h) (Or.inl ⟨by rfl, fun w => by go_simp⟩) ?_
          refine wpAny_take (i := 1) (v := Value.pointer (some ⟨1, y * 2, none⟩)) rfl (by kernel_rfl) (by kernel_rfl) (by kernel_rfl) (fun c a w h => HQ.out.fr c a _ _ w (by decide) h) (Or.inl ⟨by rfl, fun w => by go_simp⟩) ?_
          refine wpAny_take (i := 2) (v := Value.pointer (some ⟨1, y * 2, none⟩)) rfl (by kernel_rfl) (by kernel_rfl) (by kernel_rfl) (fun c a w h => HQ.out.fr c a _ _ w (by decide) h) (Or.inl ⟨by rfl, fun w => by go_simp⟩) ?_
          refine wpAny_take (i := 4) (v := Value.pointer (some ⟨R, 0, none⟩)) rfl (by kernel_rfl) (by kernel_rfl) (by kernel_rfl) (fun c a w h => HQ.out.fr c a _ _ w (by decide) h) (Or.inl ⟨by rfl, fun w => by go_simp⟩) ?_
          refine wpAny_take (i := 5) (v := .int .i64 (y : Int)) rfl (by kernel_rfl) (by kernel_rfl) (by kernel_rfl) (fun c a w h => HQ.out.fr c a _ _ w (by decide) h) (Or.inl ⟨by rfl, fun w => by go_simp⟩) ?_
          refine wpAny_take (i := 6) (v := Value.pointer (some ⟨1, y * 2, none⟩)) rfl (by kernel_rfl) (by kernel_rfl) (by kernel_rfl) (fun c a w h => HQ.out.fr c a _ _ w (by decide) h) (Or.inl ⟨by rfl, fun w => by go_simp⟩) ?_
          refine wpAny_take (i := 7) (v := Value.pointer (some ⟨1, y * 2 + 1, none⟩)) rfl (by kernel_rfl) (by kernel_rfl) (by kernel_rfl) (fun c a w h => HQ.out.fr c a _ _ w (by decide) h) (Or.inl ⟨by rfl, fun w => by go_simp⟩) ?_
          refine wpAny_ready (rs := [3, 8]) (by kernel_rfl) (by simp) ?_
          refine AllReady.cons rfl (fun J hJ => ?_) (AllReady.cons rfl (fun J hJ => ?_) AllReady.nil)
          · go_simp
            refine hJ _ _ ?_
            clear hJ J
            refine wpAny_ready (rs := [8]) (by kernel_rfl) (by simp) ?_
            refine AllReady.cons rfl (fun J hJ => ?_) AllReady.nil
            go_simp
            refine hJ _ _ ?_
            clear hJ J
            refine wpAny_ready (rs := [9]) (by kernel_rfl) (by simp) ?_
            refine AllReady.cons rfl (fun J hJ => ?_) AllReady.nil
            go_simp
            go_wp2_with (go_at_call 35; refine (Hb2.out _ HI9.out.src.drew).mono ?_; rintro e w10 ⟨rfl, hk10⟩; clear Hb2)
            exact HQ.out.pan 2 _ _ ⟨rfl, rfl, rfl, rfl, rfl, rfl, rfl, rfl⟩ ((HI9.out.l.keeps (ok := fun _ _ => True) (Keeps.refl _ _).drew (fun _ _ _ _ => trivial)).keeps hk10 (fun k o hkE _ => by show k ≠ R; omega)) Hres.out
          · go_simp
            refine hJ _ _ ?_
            clear hJ J
            refine wpAny_ready (rs := [3, 9]) (by kernel_rfl) (by simp) ?_
            refine AllReady.cons rfl (fun J hJ => ?_) (AllReady.cons rfl (fun J hJ => ?_) AllReady.nil)
            · go_simp
              refine hJ _ _ ?_
              clear hJ J
              refine wpAny_ready (rs := [9]) (by kernel_rfl) (by simp) ?_
              refine AllReady.cons rfl (fun J hJ => ?_) AllReady.nil
              go_simp
              go_wp2_with (go_at_call 35; refine (Hb2.out _ HI9.out.src.drew).mono ?_; rintro e w10 ⟨rfl, hk10⟩; clear Hb2)
              exact HQ.out.pan 2 _ _ ⟨rfl, rfl, rfl, rfl, rfl, rfl, rfl, rfl⟩ ((HI9.out.l.keeps (ok := fun _ _ => True) (Keeps.refl _ _).drew (fun _ _ _ _ => trivial)).keeps hk10 (fun k o hkE _ => by show k ≠ R; omega)) Hres.out
            · go_simp
              go_wp2_with (go_at_call 35; refine (Hb2.out _ HI9.out.src.drew).mono ?_; rintro e w10 ⟨rfl, hk10⟩; clear Hb2)
              exact HQ.out.pan 2 _ _ ⟨rfl, rfl, rfl, rfl, rfl, rfl, rfl, rfl⟩ ((HI9.out.l.keeps (ok := fun _ _ => True) (Keeps.refl _ _).drew (fun _ _ _ _ => trivial)).keeps hk10 (fun k o hkE _ => by show k ≠ R; omega)) Hres.out
  · rw [takeB_no hbs1] at hb1
    simp only [] at hb1
    have hbb1 := fun W (hW : SrcAt W R s r1) => bits_short R s r1 x1 W hW (by omega) hss (by omega)
    have hres := Herr.out 2 hb1
    have Hres := Lib.hid hres
    have Hb1 := Lib.hid hbb1
    clear hbb1 hres hb1 hbs1
    conv => arg 2; whnf
    go_wp2_with (go_at_call 38; refine (Hsym.out).mono ?_; rintro e w7 ⟨rfl, hS7, hk7⟩; clear Hsym
                 have hca7 := Hca.out.notAt HI.out.src hk7
                 have hcb7 := Hcb.out.notAt HI.out.src hk7
                 have hI7 := HI.out.bits hS7 hk7
                 have HI7 := Lib.hid hI7
                 have Hca7 := Lib.hid hca7
                 have Hcb7 := Lib.hid hcb7
                 obtain ⟨c7a, c7b⟩ := Hct.out w7 r1 hI7
                 clear hS7 hk7 hI7 hca7 hcb7)
    refine wp_region_any (by kernel_rfl) ?_
    change wpAny _ _ _ _ _ _ _ (World.drew _)
    refine wpAny_take (i := 0) (v := .int .i64 (y0 : Int)) rfl (by kernel_rfl) (by kernel_rfl) (by kernel_rfl) (fun c a w h => HQ.out.fr c a _ _ w (by decide) h) (Or.inl ⟨by rfl, fun w => by go_simp⟩) ?_
    refine wpAny_take (i := 1) (v := .int .i64 (i : Int)) rfl (by kernel_rfl) (by kernel_rfl) (by kernel_rfl) (fun c a w h => HQ.out.fr c a _ _ w (by decide) h) (Or.inl ⟨by rfl, fun w => by go_simp⟩) ?_
    refine wpAny_take (i := 2) (v := Value.pointer (some ⟨0, i * 2, none⟩)) rfl (by kernel_rfl) (by kernel_rfl) (by kernel_rfl) (fun c a w h => HQ.out.fr c a _ _ w (by decide) h) (Or.inl ⟨by rfl, fun w => by go_simp⟩) ?_
    refine wpAny_take (i := 3) (v := Value.pointer (some ⟨0, i * 2, none⟩)) rfl (by kernel_rfl) (by kernel_rfl) (by kernel_rfl) (fun c a w h => HQ.out.fr c a _ _ w (by decide) h) (Or.inl ⟨by rfl, fun w => by go_simp⟩) ?_
    refine wpAny_take (i := 5) (v := Value.pointer (some ⟨R, 0, none⟩)) rfl (by kernel_rfl) (by kernel_rfl) (by kernel_rfl) (fun c a w h => HQ.out.fr c a _ _ w (by decide) h) (Or.inl ⟨by rfl, fun w => by go_simp⟩) ?_
    refine wpAny_take (i := 6) (v := .int .i64 (y0 : Int)) rfl (by kernel_rfl) (by kernel_rfl) (by kernel_rfl) (fun c a w h => HQ.out.fr c a _ _ w (by decide) h) (Or.inl ⟨by rfl, fun w => by go_simp⟩) ?_
    refine wpAny_take (i := 7) (v := .int .i64 (i : Int)) rfl (by kernel_rfl) (by kernel_rfl) (by kernel_rfl) (fun c a w h => HQ.out.fr c a _ _ w (by decide) h) (Or.inl ⟨by rfl, fun w => by go_simp⟩) ?_
    refine wpAny_take (i := 8) (v := Value.pointer (some ⟨0, i * 2, none⟩)) rfl (by kernel_rfl) (by kernel_rfl) (by kernel_rfl) (fun c a w h => HQ.out.fr c a _ _ w (by decide) h) (Or.inl ⟨by rfl, fun w => by go_simp⟩) ?_
    refine wpAny_take (i := 9) (v := Value.pointer (some ⟨0, i * 2 + 1, none⟩)) rfl (by kernel_rfl) (by kernel_rfl) (by kernel_rfl) (fun c a w h => HQ.out.fr c a _ _ w (by decide) h) (Or.inl ⟨by rfl, fun w => by go_simp⟩) ?_
    refine wpAny_ready (rs := [4, 10]) (by kernel_rfl) (by simp) ?_
    refine AllReady.cons rfl (fun J hJ => ?_) (AllReady.cons rfl (fun J hJ => ?_) AllReady.nil)
    · go_simp
      refine hJ _ _ ?_
      clear hJ J
      refine wpAny_ready (rs := [10]) (by kernel_rfl) (by simp) ?_
      refine AllReady.cons rfl (fun J hJ => ?_) AllReady.nil
      go_simp
      refine hJ _ _ ?_
      clear hJ J
      refine wpAny_ready (rs := [11]) (by kernel_rfl) (by simp) ?_
      refine AllReady.cons rfl (fun J hJ => ?_) AllReady.nil
      go_simp
      go_wp2_with (go_at_call 35; refine (Hb1.out _ HI7.out.src.drew).mono ?_; rintro e w8 ⟨rfl, hk8⟩; clear Hb1)
      exact HQ.out.pan 2 _ _ ⟨rfl, rfl, rfl, rfl, rfl, rfl, rfl, rfl⟩ ((HI7.out.l.keeps (ok := fun _ _ => True) (Keeps.refl _ _).drew (fun _ _ _ _ => trivial)).keeps hk8 (fun k o hkE _ => by show k ≠ R; omega)) Hres.out
    · go_simp
      refine hJ _ _ ?_
      clear hJ J
      refine wpAny_ready (rs := [4, 11]) (by kernel_rfl) (by simp) ?_
      refine AllReady.cons rfl (fun J hJ => ?_) (AllReady.cons rfl (fun J hJ => ?_) AllReady.nil)
      · go_simp
        refine hJ _ _ ?_
        clear hJ J
        refine wpAny_ready (rs := [11]) (by kernel_rfl) (by simp) ?_
        refine AllReady.cons rfl (fun J hJ => ?_) AllReady.nil
        go_simp
        go_wp2_with (go_at_call 35; refine (Hb1.out _ HI7.out.src.drew).mono ?_; rintro e w8 ⟨rfl, hk8⟩; clear Hb1)
        exact HQ.out.pan 2 _ _ ⟨rfl, rfl, rfl, rfl, rfl, rfl, rfl, rfl⟩ ((HI7.out.l.keeps (ok := fun _ _ => True) (Keeps.refl _ _).drew (fun _ _ _ _ => trivial)).keeps hk8 (fun k o hkE _ => by show k ≠ R; omega)) Hres.out
      · go_simp
        go_wp2_with (go_at_call 35; refine (Hb1.out _ HI7.out.src.drew).mono ?_; rintro e w8 ⟨rfl, hk8⟩; clear Hb1)
        exact HQ.out.pan 2 _ _ ⟨rfl, rfl, rfl, rfl, rfl, rfl, rfl, rfl⟩ ((HI7.out.l.keeps (ok := fun _ _ => True) (Keeps.refl _ _).drew (fun _ _ _ _ => trivial)).keeps hk8 (fun k o hkE _ => by show k ≠ R; omega)) Hres.out
end Go.Proofs.YtjielagabnkimaaDoor
