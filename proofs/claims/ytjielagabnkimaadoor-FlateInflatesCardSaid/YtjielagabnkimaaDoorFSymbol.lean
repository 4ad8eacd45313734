/- flate's source of bits: the next symbol of a code. -/
import Derived.Test.YtjielagabnkimaaDoorFSrc
import Derived.Test.YtjielagabnkimaaDoorFCode
set_option linter.unusedSimpArgs false
set_option linter.unusedVariables false
namespace Go.Proofs.YtjielagabnkimaaDoor
open Go.RowKit
theorem bits_ok (R : Nat) (s : ByteArray) (r : List Bool) (n : Nat) (w : World) (hS : SrcAt w R s r) (hn : n ≤ 16) (hs : s.size < 2 ^ 40) (hr : n ≤ r.length) :
    Calls Tryd.prog 35 #[.pointer (some ⟨R, 0, none⟩), .int .i64 (n : Int)] w fun e w' => e = .returned (.int .i64 ((num (r.take n) : Nat) : Int)) ∧ SrcAt w' R s (r.drop n) ∧ Keeps (notAt R) w w' :=
  (bits_any R s r n w hS hn hs).mono fun e w' h => by
    rcases h with ⟨_, h⟩ | ⟨h, _⟩
    · exact h
    · omega
theorem bits_short (R : Nat) (s : ByteArray) (r : List Bool) (n : Nat) (w : World) (hS : SrcAt w R s r) (hn : n ≤ 16) (hs : s.size < 2 ^ 40) (hr : r.length < n) :
    Calls Tryd.prog 35 #[.pointer (some ⟨R, 0, none⟩), .int .i64 (n : Int)] w fun e w' => e = .panicked (stopC 2) ∧ Keeps (notAt R) w w' :=
  (bits_any R s r n w hS hn hs).mono fun e w' h => by
    rcases h with ⟨h, _⟩ | ⟨_, h⟩
    · omega
    · exact h
def encI (n : Nat) : Value := .int .i64 (n : Int)
/-- block C holds the code of these lengths -/
structure CodeAt (w : World) (C base : Nat) (l : List Nat) : Prop where
  o : ∃ cur sv, w.heap[C]? = some (.cells cur 64 (0, 0)) ∧ (∀ n, n < 16 → cur[n]? = some (encI (cntN l n))) ∧ cur[16]? = some sv ∧ w.ownsRow base 3 1 sv (symsN l).length ((symsN l).map encI)
theorem CodeAt.keeps {ok : Nat → Obj → Prop} {w w' : World} {C base : Nat} {l : List Nat} (h : CodeAt w C base l) (hk : Keeps ok w w') (h1 : ∀ cur, ok C (.cells cur 64 (0, 0))) (h2 : ∀ k cs, base ≤ k → ok k (.cells cs 3 (0, 0))) : CodeAt w' C base l := by
  obtain ⟨cur, sv, ho, h3, h4, h5⟩ := h.o
  refine ⟨cur, sv, hk.block _ _ ho (h1 cur), h3, h4, ownsRow_keeps h5 hk fun k cs e => h2 k cs (h5.lt k e).1⟩
theorem CodeAt.notAt {w w' : World} {C base R : Nat} {s : ByteArray} {r : List Bool} {l : List Nat} (h : CodeAt w C base l) (hS : SrcAt w R s r) (hk : Keeps (notAt R) w w') : CodeAt w' C base l := by
  obtain ⟨a, hh, v, hin, _⟩ := hS
  obtain ⟨cur, sv, ho, h3, h4, h5⟩ := h.o
  have hCR : C ≠ R := by rintro rfl; rw [hin.o] at ho; cases ho
  refine ⟨cur, sv, hk.block _ _ ho hCR, h3, h4, ?_⟩
  refine ⟨h5.1, ?_⟩
  rcases h5.2 with h6 | ⟨g, cap, c2, rfl, hb, hg, h7⟩
  · exact .inl h6
  · refine .inr ⟨g, cap, c2, rfl, hb, hk.block g _ hg ?_, h7⟩
    rintro rfl
    rw [hin.o] at hg; cases hg
theorem CodeAt.cells {w : World} {C base : Nat} {l : List Nat} (h : CodeAt w C base l) :
    (∀ n, n < 16 → w.cell? ⟨C, n, none⟩ = some (.int .i64 ((cntN l n : Nat) : Int))) ∧ ∃ p c, w.cell? ⟨C, 16, none⟩ = some (.slice p (symsN l).length c) ∧ (0 < (symsN l).length → ∃ g, p = some ⟨g, 0, none⟩ ∧ ∀ j, j < (symsN l).length → w.cell? ⟨g, j, none⟩ = some (.int .i64 (((symsN l).getD j 0 : Nat) : Int))) := by
  obtain ⟨cur, sv, ho, h3, h4, h5⟩ := h.o
  refine ⟨fun n hn => by rw [cell_of_row _ _ _ _ _ _ ho]; exact h3 n hn, ?_⟩
  rcases h5.2 with ⟨rfl, h6⟩ | ⟨g, cap, c2, rfl, hb, hg, _, _, hcs, htk⟩
  · exact ⟨none, 0, by rw [cell_of_row _ _ _ _ _ _ ho, h4, h6], fun h => by omega⟩
  · refine ⟨some ⟨g, 0, none⟩, cap, by rw [cell_of_row _ _ _ _ _ _ ho, h4], fun h => ⟨g, rfl, fun j hj => ?_⟩⟩
    rw [cell_of_row _ _ _ _ _ _ hg]
    have h8 := congrArg (fun x => x[j]?) htk
    simp only [Nat.mul_one, List.getElem?_take, hj, if_true, List.getElem?_map, List.getElem?_eq_getElem hj, Option.map_some] at h8
    rw [← Array.getElem?_toList, h8, List.getD_eq_getElem?_getD, List.getElem?_eq_getElem hj]
    rfl
/-- what symbol answers -/
def SymOut (R : Nat) (s : ByteArray) (w : World) (o : Except Nat (Nat × List Bool)) (e : Ending) (w' : World) : Prop := match o with
  | .ok (y, r') => e = .returned (.int .i64 (y : Int)) ∧ SrcAt w' R s r' ∧ Keeps (notAt R) w w'
  | .error no => e = .panicked (stopC (no : Int)) ∧ Keeps (notAt R) w w'

set_option maxRecDepth 100000 in
set_option maxHeartbeats 8000000 in
theorem fsymbol_any (R C base : Nat) (s : ByteArray) (r : List Bool) (l : List Nat) (w : World) (hS : SrcAt w R s r) (hC : CodeAt w C base l) (hs : s.size < 2 ^ 40) (hll : l.length ≤ 1000) :
    Calls Tryd.prog 38 #[.pointer (some ⟨R, 0, none⟩), .pointer (some ⟨C, 0, none⟩)] w fun e w' => SymOut R s w (symP l r) e w' := by
  obtain ⟨c1, p, c, c2, c3⟩ := hC.cells
  by_cases h0 : (symsN l).length = 0
  · have hp : symP l r = .error 4 := by unfold symP; rw [if_pos h0]
    rw [hp]
    rw [h0] at c2
    clear c3
    go_enter Tryd.func38, Tryd.ntmps38
    go_wp2_with fail
    exact ⟨rfl, rfl, Keeps.refl _ _⟩
  · obtain ⟨g, rfl, c4⟩ := c3 (by omega)
    obtain ⟨m, hm⟩ : ∃ m, m = (symsN l).length := ⟨_, rfl⟩
    rw [← hm] at c2 h0
    have Hm := Lib.hid hm
    clear hm
    have hb0 : ((m : Int) == 0) = false := beq_eq_false_iff_ne.2 (by omega)
    obtain ⟨out, hout⟩ : ∃ o, o = symP l r := ⟨_, rfl⟩
    rw [← hout]
    unfold symP at hout
    rw [if_neg (by rw [← Hm.out]; exact h0)] at hout
    have Hout := Lib.hid hout
    have HS := Lib.hid hS
    have HC := Lib.hid hC
    have C1 := Lib.hid c1
    have C4 := Lib.hid c4
    clear hout hS hC c1 c4 c3
    go_enter Tryd.func38, Tryd.ntmps38
    go_wp2_with fail
    go_loopw [5, 6, 7, 8] (fun xv fv av nv wr => ∃ (k x first : Nat) (r' : List Bool), nv = .int .i64 ((k + 1 : Nat) : Int) ∧ k ≤ 15 ∧ xv = .int .i64 (x : Int) ∧ fv = .int .i64 (first : Int) ∧ av = .int .i64 (((symsTo l k).length : Nat) : Int) ∧ first ≤ x ∧ x < 2 ^ k ∧ SrcAt wr R s r' ∧ CodeAt wr C base l ∧ Keeps (notAt R) w wr ∧ symGo l (15 - k) k x first r' = out) (fun _ _ _ nv _ => 17 - (intOf nv).toNat)
    case atStart => exact ⟨0, 0, 0, r, rfl, by omega, rfl, rfl, rfl, Nat.le_refl _, by decide, HS.out, HC.out, Keeps.refl _ _, Hout.out.symm⟩
    case round =>
      obtain ⟨k, x, first, r', rfl, hk, rfl, rfl, rfl, hfx, hxk, hSr, hCr, hKr, hgo⟩ := hrel
      have HSr := Lib.hid hSr
      have HCr := Lib.hid hCr
      have HKr := Lib.hid hKr
      clear hSr hCr hKr
      by_cases h15 : ((k + 1 : Nat) : Int) ≤ 15
      · obtain ⟨f, hf⟩ : ∃ f, 15 - k = f + 1 := ⟨14 - k, by omega⟩
        rw [hf] at hgo
        cases r' with
        | nil =>
          rw [symGo] at hgo
          have Hgo := Lib.hid hgo
          clear hgo hf
          go_wp2_with (go_at_call 35; refine (bits_short R s [] 1 wr HSr.out (by decide) hs (by decide)).mono ?_; rintro e w1 ⟨rfl, hk1⟩)
          rw [← Hgo.out]
          exact ⟨rfl, rfl, HKr.out.trans hk1⟩
        | cons b r2 =>
          rw [symGo] at hgo
          have hxp : 2 ^ k ≤ 2 ^ 14 := Nat.pow_le_pow_right (by decide) (by omega)
          have hnum : num ((b :: r2).take 1) = (if b then 1 else 0) := by simp [num]
          obtain ⟨bn, hbn⟩ : ∃ bn : Nat, bn = (if b then 1 else 0) := ⟨_, rfl⟩
          rw [← hbn] at hgo hnum
          have hbn1 : bn ≤ 1 := by rw [hbn]; split <;> omega
          have hbits := bits_ok R s (b :: r2) 1 wr HSr.out (by decide) hs (by simp)
          rw [hnum] at hbits
          obtain ⟨X, hX⟩ : ∃ X, X = 2 * x + bn := ⟨_, rfl⟩
          obtain ⟨Fi, hFi⟩ : ∃ F, F = 2 * first := ⟨_, rfl⟩
          have e1 : bits BinOp.or IntKind.i64 ((x : Int) * 2) (bn : Int) = (X : Int) := by
            rw [show (x : Int) * 2 = ((x * 2 ^ 1 : Nat) : Int) from by simp, i64_or_nat _ _ (by omega) (by omega), add_or (by omega)]
            omega
          have eF : (first : Int) * 2 = (Fi : Int) := by omega
          have hcn := cntN_le l (k + 1)
          have hsy := symsTo_cnt l k
          have hsl := symsTo_le l (k + 1) 15 (by omega)
          have hsl2 : (symsTo l 15).length = m := Hm.out.symm
          rw [hsl2] at hsl
          clear hsl2
          obtain ⟨A, hA⟩ : ∃ A, A = (symsTo l k).length := ⟨_, rfl⟩
          obtain ⟨cn, hcn2⟩ : ∃ c, c = cntN l (k + 1) := ⟨_, rfl⟩
          rw [hsy, ← hA, ← hcn2] at hsl
          rw [← hcn2] at hcn
          rw [← hcn2, ← hX, ← hFi, ← hA, ← Hm.out] at hgo
          rw [← hA]
          have hXF : Fi ≤ X := by omega
          have hXk : X < 2 ^ (k + 1) := by rw [Nat.pow_succ]; omega
          have hX15 : X < 32768 := by omega
          have hx14 : x < 16384 := by omega
          have hm1 : m ≤ 15000 := by
            rw [Hm.out]
            have hh : ∀ n, (symsTo l n).length ≤ n * 1000 := by
              intro n
              induction n with
              | zero => simp [symsTo]
              | succ n ih => have := symsTo_cnt l n; have := cntN_le l (n + 1); omega
            have := hh 15
            exact this
          have HA := Lib.hid hA
          have Hcn2 := Lib.hid hcn2
          have HX := Lib.hid hX
          have HFi := Lib.hid hFi
          have Hbits := Lib.hid hbits
          have Hgo := Lib.hid hgo
          have Hbn := Lib.hid hbn
          have Hsy := Lib.hid hsy
          have HXk := Lib.hid hXk
          have Hf := Lib.hid hf
          clear hA hcn2 hX hFi hbits hgo hbn hsy hnum hf hxp hxk hXk c2
          by_cases hlt : X < Fi + cn
          · have hgo := Hgo.out
            rw [if_pos hlt] at hgo
            have Hgo2 := Lib.hid hgo
            clear hgo
            obtain ⟨J, hJ⟩ : ∃ J, J = A + (X - Fi) := ⟨_, rfl⟩
            have eJ : (A : Int) + (X : Int) - (Fi : Int) = (J : Int) := by omega
            have hJm : J < m := by omega
            have hJz : (J : Int) < (m : Int) := by omega
            have hltz : (X : Int) - (Fi : Int) < (cn : Int) := by omega
            have HJ := Lib.hid hJ
            clear hJ
            obtain ⟨y, hy⟩ : ∃ y, y = (symsN l).getD J 0 := ⟨_, rfl⟩
            rw [← HJ.out, ← hy] at Hgo2
            have Hy := Lib.hid hy
            clear hy
            go_wp2_with (go_at_call 35; refine (Hbits.out).mono ?_; rintro e w1 ⟨rfl, hS1, hk1⟩
                         have hC1 := HCr.out.notAt HSr.out hk1
                         have hK1 := HKr.out.trans hk1
                         obtain ⟨d1, pp, dc, d2, d3⟩ := hC1.cells
                         rw [← Hm.out] at d2 d3
                         have D1 := d1 (k + 1) (by omega)
                         rw [← Hcn2.out] at D1
                         obtain ⟨g2, rfl, d4⟩ := d3 (by omega)
                         have D4 := d4 J hJm
                         rw [← Hy.out] at D4
                         have HS1 := Lib.hid hS1
                         have HK1 := Lib.hid hK1
                         clear hS1 hC1 hK1 hk1 d1 d3 d4)
            go_ret
            rw [← Hgo2.out]
            exact ⟨rfl, HS1.out, HK1.out⟩
          · have hgo := Hgo.out
            rw [if_neg hlt] at hgo
            have hltz : ¬ (X : Int) - (Fi : Int) < (cn : Int) := by omega
            have hltd : decide ((X : Int) - (Fi : Int) < (cn : Int)) = false := by simpa using hltz
            by_cases hm : m = 1
            · rw [if_pos hm] at hgo
              have Hgo2 := Lib.hid hgo
              clear hgo
              have hmb : ((m : Int) == 1) = true := beq_iff_eq.2 (by omega)
              have Hmm := Lib.hid hm
              clear hm
              go_wp2_with (go_at_call 35; refine (Hbits.out).mono ?_; rintro e w1 ⟨rfl, hS1, hk1⟩
                           have hC1 := HCr.out.notAt HSr.out hk1
                           have hK1 := HKr.out.trans hk1
                           obtain ⟨d1, pp, dc, d2, d3⟩ := hC1.cells
                           rw [← Hm.out] at d2
                           have D1 := d1 (k + 1) (by omega)
                           rw [← Hcn2.out] at D1
                           have HK1 := Lib.hid hK1
                           clear hS1 hC1 hK1 hk1 d1 d3)
              rw [← Hgo2.out]
              exact ⟨rfl, rfl, HK1.out⟩
            · rw [if_neg hm] at hgo
              have Hgo2 := Lib.hid hgo
              clear hgo
              have hmb : ((m : Int) == 1) = false := beq_eq_false_iff_ne.2 (by omega)
              go_wp2_with (go_at_call 35; refine (Hbits.out).mono ?_; rintro e w1 ⟨rfl, hS1, hk1⟩
                           have hC1 := HCr.out.notAt HSr.out hk1
                           have hK1 := HKr.out.trans hk1
                           obtain ⟨d1, pp, dc, d2, d3⟩ := hC1.cells
                           rw [← Hm.out] at d2
                           have D1 := d1 (k + 1) (by omega)
                           rw [← Hcn2.out] at D1
                           have HS1 := Lib.hid hS1
                           have HC1 := Lib.hid hC1
                           have HK1 := Lib.hid hK1
                           clear hS1 hC1 hK1 hk1 d1 d3)
              go_roundw
              case rel => exact ⟨k + 1, X, Fi + cn, r2, by go_num, by omega, rfl, by go_num, by rw [Hsy.out, ← HA.out, ← Hcn2.out]; go_num, by omega, HXk.out, HS1.out, HC1.out, HK1.out, by rw [show 15 - (k + 1) = f by have := Hf.out; omega]; exact Hgo2.out⟩
              case measure => simp [intOf]; omega
      · obtain rfl : k = 15 := by omega
        rw [Nat.sub_self, symGo] at hgo
        have Hgo := Lib.hid hgo
        clear hgo c2
        go_wp2_with fail
        rw [← Hgo.out]
        exact ⟨rfl, rfl, HKr.out⟩
end Go.Proofs.YtjielagabnkimaaDoor
