/- The reference's Inflate; what FlateInflates answers: true; its laid tables. -/
import Derived.Test.YtjielagabnkimaaDoorFInf
import Derived.Test.YtjielagabnkimaaDoorFRefT
import Derived.Test.YtjielagabnkimaaDoorFRow
import Derived.Test.YtjielagabnkimaaDoorFLawBack
import Derived.LaidMore
import Derived.Deep.DeepWitnessRowRef
set_option linter.unusedSimpArgs false
set_option linter.unusedVariables false
namespace Go.Proofs.YtjielagabnkimaaDoor
section
def SmE {α : Type} (x : Except Nat α) : Prop := ∀ e, x = .error e → 0 < e ∧ e ≤ 5
theorem SmE.ok {α : Type} (a : α) : SmE (.ok a : Except Nat α) := fun e h => by cases h
theorem SmE.err {α : Type} {n : Nat} (h : 0 < n ∧ n ≤ 5) : SmE (.error n : Except Nat α) := fun e he => by injection he with he; subst he; exact h
theorem SmE.of {α β : Type} {x : Except Nat α} {e : Nat} (h : SmE x) (hx : x = .error e) : SmE (.error e : Except Nat β) := SmE.err (h e hx)
theorem takeB_sm (n : Nat) (r : List Bool) : SmE (takeB n r) := by
  unfold takeB
  split
  · exact SmE.ok _
  · exact SmE.err (by decide)
theorem symGo_sm (l : List Nat) : ∀ (f k x first : Nat) (r : List Bool), SmE (symGo l f k x first r)
  | 0, _, _, _, _ => SmE.err (by decide)
  | _ + 1, _, _, _, [] => SmE.err (by decide)
  | f + 1, k, x, first, b :: r => by
    unfold symGo
    repeat' split
    all_goals first
      | exact SmE.ok _
      | exact SmE.err (by decide)
      | exact symGo_sm l f _ _ _ _
theorem symP_sm (l : List Nat) (r : List Bool) : SmE (symP l r) := by
  unfold symP
  split
  · exact SmE.err (by decide)
  · exact symGo_sm _ _ _ _ _ _
theorem shortGo_sm : ∀ (f i : Nat) (l : List Nat) (r : List Bool), SmE (shortGo f i l r)
  | 0, _, _, _ => SmE.ok _
  | f + 1, i, l, r => by
    unfold shortGo
    split
    · exact (takeB_sm _ _).of ‹_›
    · exact shortGo_sm f _ _ _
theorem lenOne_sm (short l : List Nat) (r : List Bool) : SmE (lenOne short l r) := by
  unfold lenOne
  cases h : symP short r with
  | error e => exact (symP_sm _ _).of h
  | ok v =>
    obtain ⟨x, r1⟩ := v
    simp only []
    by_cases h16 : x = 16
    · rw [if_pos h16]
      cases h2 : takeB 2 r1 with
      | error e => exact (takeB_sm _ _).of h2
      | ok v =>
        obtain ⟨t, r2⟩ := v
        simp only []
        by_cases h3 : l.length = 0
        · rw [if_pos h3]; exact SmE.err (by decide)
        · rw [if_neg h3]; exact SmE.ok _
    rw [if_neg h16]
    by_cases h17 : x = 17
    · rw [if_pos h17]
      cases h2 : takeB 3 r1 with
      | error e => exact (takeB_sm _ _).of h2
      | ok v => exact SmE.ok _
    rw [if_neg h17]
    by_cases h18 : x = 18
    · rw [if_pos h18]
      cases h2 : takeB 7 r1 with
      | error e => exact (takeB_sm _ _).of h2
      | ok v => exact SmE.ok _
    rw [if_neg h18]
    exact SmE.ok _
theorem lensGo_sm (short : List Nat) (many : Nat) : ∀ (f : Nat) (l : List Nat) (r : List Bool), SmE (lensGo short many f l r)
  | 0, _, _ => SmE.ok _
  | f + 1, l, r => by
    unfold lensGo
    by_cases h0 : l.length < many
    · rw [if_pos h0]
      cases h : lenOne short l r with
      | error e => exact (lenOne_sm _ _ _).of h
      | ok v =>
        obtain ⟨t, x, r1⟩ := v
        simp only []
        by_cases h1 : many - l.length < t
        · rw [if_pos h1]; exact SmE.err (by decide)
        · rw [if_neg h1]; exact lensGo_sm short many f _ _
    · rw [if_neg h0]; exact SmE.ok _
theorem codesP_sm (r : List Bool) : SmE (codesP r) := by
  unfold codesP
  cases h : takeB 5 r with
  | error e => exact (takeB_sm _ _).of h
  | ok v =>
  obtain ⟨x, r1⟩ := v
  simp only []
  cases h : takeB 5 r1 with
  | error e => exact (takeB_sm _ _).of h
  | ok v =>
  obtain ⟨y, r2⟩ := v
  simp only []
  cases h : takeB 4 r2 with
  | error e => exact (takeB_sm _ _).of h
  | ok v =>
  obtain ⟨z, r3⟩ := v
  simp only []
  by_cases h0 : 286 < 257 + x ∨ 30 < 1 + y
  · rw [if_pos h0]; exact SmE.err (by decide)
  rw [if_neg h0]
  cases h : shortGo (4 + z) 0 (List.replicate 19 0) r3 with
  | error e => exact (shortGo_sm _ _ _ _).of h
  | ok v =>
  obtain ⟨sh, r4⟩ := v
  simp only []
  by_cases h1 : kraft sh ≠ 32768
  · rw [if_pos h1]; exact SmE.err (by decide)
  rw [if_neg h1]
  cases h : lensGo sh (257 + x + (1 + y)) (257 + x + (1 + y) + 1) [] r4 with
  | error e => exact (lensGo_sm _ _ _ _ _).of h
  | ok v =>
  obtain ⟨l, r5⟩ := v
  simp only []
  by_cases h2 : badCodes l (257 + x) = true
  · rw [if_pos h2]; exact SmE.err (by decide)
  rw [if_neg h2]
  exact SmE.ok _
theorem storedGo_sm (most : Int) : ∀ (f : Nat) (out : List UInt8) (r : List Bool), SmE (storedGo most f out r)
  | 0, _, _ => SmE.ok _
  | f + 1, out, r => by
    unfold storedGo
    by_cases h0 : most ≤ (out.length : Int)
    · rw [if_pos h0]; exact SmE.err (by decide)
    rw [if_neg h0]
    cases h : takeB 8 r with
    | error e => exact (takeB_sm _ _).of h
    | ok v => exact storedGo_sm most f _ _
theorem storedB_sm (most : Int) (out : List UInt8) (r : List Bool) : SmE (storedB most out r) := by
  unfold storedB
  cases h : takeB 16 (r.drop (r.length % 8)) with
  | error e => exact (takeB_sm _ _).of h
  | ok v =>
  obtain ⟨n, r1⟩ := v
  simp only []
  cases h : takeB 16 r1 with
  | error e => exact (takeB_sm _ _).of h
  | ok v =>
  obtain ⟨m, r2⟩ := v
  simp only []
  by_cases h0 : n ^^^ m ≠ 65535
  · rw [if_pos h0]; exact SmE.err (by decide)
  rw [if_neg h0]
  exact storedGo_sm _ _ _ _
theorem blockOne_sm (most : Int) (la lb : List Nat) (out : List UInt8) (r : List Bool) : SmE (blockOne most la lb out r) := by
  unfold blockOne
  cases h : symP la r with
  | error e => exact (symP_sm _ _).of h
  | ok v =>
  obtain ⟨x, r1⟩ := v
  simp only []
  by_cases h0 : x = 256
  · rw [if_pos h0]; exact SmE.ok _
  rw [if_neg h0]
  by_cases h1 : x < 256
  · rw [if_pos h1]
    by_cases h2 : most ≤ (out.length : Int)
    · rw [if_pos h2]; exact SmE.err (by decide)
    · rw [if_neg h2]; exact SmE.ok _
  rw [if_neg h1]
  by_cases h2 : 285 < x
  · rw [if_pos h2]; exact SmE.err (by decide)
  rw [if_neg h2]
  cases h : takeB (lensT.getD (x - 257) (0, 0)).2 r1 with
  | error e => exact (takeB_sm _ _).of h
  | ok v =>
  obtain ⟨t, r2⟩ := v
  simp only []
  cases h : symP lb r2 with
  | error e => exact (symP_sm _ _).of h
  | ok v =>
  obtain ⟨y, r3⟩ := v
  simp only []
  by_cases h3 : 29 < y
  · rw [if_pos h3]; exact SmE.err (by decide)
  rw [if_neg h3]
  cases h : takeB (distT.getD y (0, 0)).2 r3 with
  | error e => exact (takeB_sm _ _).of h
  | ok v =>
  obtain ⟨u, r4⟩ := v
  simp only []
  by_cases h4 : out.length < (distT.getD y (0, 0)).1 + u
  · rw [if_pos h4]; exact SmE.err (by decide)
  rw [if_neg h4]
  by_cases h5 : most - (out.length : Int) < (((lensT.getD (x - 257) (0, 0)).1 + t : Nat) : Int)
  · rw [if_pos h5]; exact SmE.err (by decide)
  rw [if_neg h5]
  exact SmE.ok _
theorem blockGo_sm (most : Int) (la lb : List Nat) : ∀ (f : Nat) (out : List UInt8) (r : List Bool), SmE (blockGo most la lb f out r)
  | 0, _, _ => SmE.ok _
  | f + 1, out, r => by
    unfold blockGo
    cases h : blockOne most la lb out r with
    | error e => exact (blockOne_sm _ _ _ _ _).of h
    | ok v =>
      obtain ⟨o, r1⟩ := v
      cases o with
      | none => exact SmE.ok _
      | some o => exact blockGo_sm most la lb f _ _
theorem inflOne_sm (most : Int) (out : List UInt8) (r : List Bool) : SmE (inflOne most out r) := by
  unfold inflOne
  cases h : takeB 1 r with
  | error e => exact (takeB_sm _ _).of h
  | ok v =>
  obtain ⟨l, r1⟩ := v
  simp only []
  cases h : takeB 2 r1 with
  | error e => exact (takeB_sm _ _).of h
  | ok v =>
  obtain ⟨k, r2⟩ := v
  simp only []
  by_cases h0 : k = 0
  · rw [if_pos h0]
    cases h : storedB most out r2 with
    | error e => exact (storedB_sm _ _ _).of h
    | ok v => exact SmE.ok _
  rw [if_neg h0]
  by_cases h1 : k = 1
  · rw [if_pos h1]
    cases h : blockGo most ((List.range 288).map (fun i => if i < 144 then 8 else if i < 256 then 9 else if i < 280 then 7 else 8)) (List.replicate 32 5) (r2.length + 1) out r2 with
    | error e => exact (blockGo_sm _ _ _ _ _ _).of h
    | ok v => exact SmE.ok _
  rw [if_neg h1]
  by_cases h2 : k = 2
  · rw [if_pos h2]
    cases h : codesP r2 with
    | error e => exact (codesP_sm _).of h
    | ok v =>
    obtain ⟨la, lb, r3⟩ := v
    simp only []
    cases h : blockGo most la lb (r3.length + 1) out r3 with
    | error e => exact (blockGo_sm _ _ _ _ _ _).of h
    | ok v => exact SmE.ok _
  rw [if_neg h2]
  exact SmE.err (by decide)
theorem inflGo_sm (most : Int) : ∀ (f : Nat) (out : List UInt8) (r : List Bool), SmE (inflGo most f out r)
  | 0, _, _ => SmE.ok _
  | f + 1, out, r => by
    unfold inflGo
    cases h : inflOne most out r with
    | error e => exact (inflOne_sm _ _ _).of h
    | ok v =>
      obtain ⟨l, o, r1⟩ := v
      cases l with
      | true => exact SmE.ok _
      | false => exact inflGo_sm most f _ _
theorem inflP_sm (s : List UInt8) (most : Int) : SmE (inflP s most) := by
  unfold inflP
  split
  · exact (inflGo_sm _ _ _ _).of ‹_›
  · exact SmE.ok _
end
section
open Go.RowKit Go.Maps

section
variable {most : Int} {out : List UInt8} {r : List Bool}
theorem storedGo_neg (hm : most < 0) : ∀ (n : Nat) (out : List UInt8) (r : List Bool), storedGo most n out r = storedGo 0 n out r
  | 0, _, _ => rfl
  | n + 1, out, r => by
    rw [storedGo, storedGo, if_pos (by omega), if_pos (by omega)]
theorem storedB_neg (hm : most < 0) : storedB most out r = storedB 0 out r := by
  unfold storedB
  cases takeB 16 (r.drop (r.length % 8)) with
  | error e => rfl
  | ok v =>
    obtain ⟨n, r1⟩ := v
    simp only []
    cases takeB 16 r1 with
    | error e => rfl
    | ok v =>
      obtain ⟨m, r2⟩ := v
      simp only []
      rw [storedGo_neg hm]
theorem lens_pos : ∀ k, k < 29 → 1 ≤ (lensT.getD k (0, 0)).1 := by decide
theorem blockOne_neg (hm : most < 0) (la lb : List Nat) : blockOne most la lb out r = blockOne 0 la lb out r := by
  cases h : symP la r with
  | error e => rw [one_e1 h, one_e1 h]
  | ok v =>
    obtain ⟨x, r1⟩ := v
    by_cases h256 : x = 256
    · subst h256; rw [one_end h, one_end h]
    · by_cases hx : x < 256
      · rw [one_full h hx (by omega), one_full h hx (by omega)]
      · by_cases h285 : 285 < x
        · rw [one_big h h285, one_big h h285]
        · have h1 : 256 < x := by omega
          have hp := lens_pos (x - 257) (by omega)
          cases ht : takeB (lensT.getD (x - 257) (0, 0)).2 r1 with
          | error e => rw [one_e2 h h1 h285 ht, one_e2 h h1 h285 ht]
          | ok v =>
            obtain ⟨t, r2⟩ := v
            cases hy : symP lb r2 with
            | error e => rw [one_e3 h h1 h285 ht hy, one_e3 h h1 h285 ht hy]
            | ok v =>
              obtain ⟨y, r3⟩ := v
              by_cases h29 : 29 < y
              · rw [one_far h h1 h285 ht hy h29, one_far h h1 h285 ht hy h29]
              · cases hu : takeB (distT.getD y (0, 0)).2 r3 with
                | error e => rw [one_e4 h h1 h285 ht hy h29 hu, one_e4 h h1 h285 ht hy h29 hu]
                | ok v =>
                  obtain ⟨u, r4⟩ := v
                  by_cases hb : out.length < (distT.getD y (0, 0)).1 + u
                  · rw [one_back h h1 h285 ht hy h29 hu hb, one_back h h1 h285 ht hy h29 hu hb]
                  · rw [one_many h h1 h285 ht hy h29 hu hb (by omega), one_many h h1 h285 ht hy h29 hu hb (by omega)]
theorem blockGo_neg (hm : most < 0) (la lb : List Nat) : ∀ (f : Nat) (out : List UInt8) (r : List Bool), blockGo most la lb f out r = blockGo 0 la lb f out r
  | 0, _, _ => rfl
  | f + 1, out, r => by
    rw [blockGo, blockGo, blockOne_neg hm]
    cases blockOne 0 la lb out r with
    | error e => rfl
    | ok v =>
      obtain ⟨o, r1⟩ := v
      cases o with
      | none => rfl
      | some o1 => exact blockGo_neg hm la lb f o1 r1
theorem inflOne_neg (hm : most < 0) : inflOne most out r = inflOne 0 out r := by
  unfold inflOne
  simp only [storedB_neg hm, blockGo_neg hm]
theorem inflGo_neg (hm : most < 0) : ∀ (f : Nat) (out : List UInt8) (r : List Bool), inflGo most f out r = inflGo 0 f out r
  | 0, _, _ => rfl
  | f + 1, out, r => by
    rw [inflGo, inflGo, inflOne_neg hm]
    cases inflOne 0 out r with
    | error e => rfl
    | ok v =>
      obtain ⟨b, o1, r1⟩ := v
      cases b with
      | true => rfl
      | false => exact inflGo_neg hm f o1 r1
end
theorem inflP_max (s : List UInt8) (most : Int) : inflP s most = inflP s (max most 0) := by
  by_cases hm : most < 0
  · rw [Int.max_eq_right (by omega)]
    unfold inflP
    rw [inflGo_neg hm]
  · rw [Int.max_eq_left (by omega)]

/-- how the rest is read, the last block's bit being l -/
def RelN (mm : Nat) (res : Except Nat (List UInt8 × List Bool)) (l : Nat) (o : List UInt8) : RS → Prop
  | .ok r => o.length ≤ mm ∧ (l = 0 → ∃ f, r.length < f ∧ inflGo (mm : Int) f o r = res) ∧ (l ≠ 0 → res = .ok (o, r))
  | .error e => res = .error e
def msN (l : Nat) : RS → Nat
  | .ok r => if l = 0 then r.length + 1 else 0
  | .error _ => 0
/-- what a block of a kind leaves -/
def kindB (mm : Int) (k : Nat) (o : List UInt8) (r : List Bool) : Except Nat (List UInt8 × List Bool) :=
  if k = 0 then storedB mm o r else if k = 1 then blockGo mm fixL fixD (r.length + 1) o r else if k = 2 then dynB mm o (codesP r) else .error 4
theorem fix_eq : ((List.range 288).map (fun i => if i < 144 then 8 else if i < 256 then 9 else if i < 280 then 7 else 8)) = fixL := by
  unfold fixL
  rw [show litLen = (fun i : Nat => if i < 144 then 8 else if i < 256 then 9 else if i < 280 then 7 else 8) from rfl]
theorem one_eq (mm : Int) (o : List UInt8) (r : List Bool) : inflOne mm o r = (match takeB 1 r with
  | .error e => .error e
  | .ok (l, r1) => match takeB 2 r1 with
    | .error e => .error e
    | .ok (k, r2) => match kindB mm k o r2 with
      | .error e => .error e
      | .ok (o, r3) => .ok (l == 1, o, r3)) := by
  unfold inflOne
  cases takeB 1 r with
  | error e => rfl
  | ok v =>
    obtain ⟨l, r1⟩ := v
    simp only []
    cases takeB 2 r1 with
    | error e => rfl
    | ok v =>
      obtain ⟨k, r2⟩ := v
      simp only []
      unfold kindB
      by_cases h0 : k = 0
      · rw [if_pos h0, if_pos h0]
        cases storedB mm o r2 with
        | error e => rfl
        | ok v => obtain ⟨o1, r3⟩ := v; rfl
      · rw [if_neg h0, if_neg h0]
        by_cases h1 : k = 1
        · rw [if_pos h1, if_pos h1, fix_eq, fixD]
          cases blockGo mm fixL (List.replicate 32 5) (r2.length + 1) o r2 with
          | error e => rfl
          | ok v => obtain ⟨o1, r3⟩ := v; rfl
        · rw [if_neg h1, if_neg h1]
          by_cases h2 : k = 2
          · rw [if_pos h2, if_pos h2]
            cases codesP r2 with
            | error e => rw [dynB_error]
            | ok v =>
              obtain ⟨la, lb, r3⟩ := v
              rw [dynB_ok]
              simp only []
              cases blockGo mm la lb (r3.length + 1) o r3 with
              | error e => rfl
              | ok v => obtain ⟨o1, r4⟩ := v; rfl
          · rw [if_neg h2, if_neg h2]
theorem codesP_less' {r r' : List Bool} {la lb : List Nat} (h : codesP r = .ok (la, lb, r')) : r'.length ≤ r.length := (codesP_spec h).2.2
theorem storedB_less {most : Int} {out out' : List UInt8} {r r' : List Bool} (h : storedB most out r = .ok (out', r')) : r'.length ≤ r.length := by
  unfold storedB at h
  cases h1 : takeB 16 (r.drop (r.length % 8)) with
  | error e => rw [h1] at h; cases h
  | ok v =>
    obtain ⟨n, r1⟩ := v
    rw [h1] at h
    simp only [] at h
    cases h2 : takeB 16 r1 with
    | error e => rw [h2] at h; cases h
    | ok v =>
      obtain ⟨m, r2⟩ := v
      rw [h2] at h
      simp only [] at h
      split at h
      · cases h
      · have l1 := takeB_less h1
        have l2 := takeB_less h2
        have l3 := storedGo_less h
        rw [List.length_drop] at l1
        omega
theorem kindB_less {mm : Int} {k : Nat} {o o' : List UInt8} {r r' : List Bool} (h : kindB mm k o r = .ok (o', r')) : r'.length ≤ r.length := by
  unfold kindB at h
  split at h
  · exact storedB_less h
  · split at h
    · exact blockGo_less _ h
    · split at h
      · cases hc : codesP r with
        | error e => rw [hc, dynB_error] at h; cases h
        | ok v =>
          obtain ⟨la, lb, r3⟩ := v
          rw [hc, dynB_ok] at h
          have h1 := codesP_less' hc
          have h2 := blockGo_less _ h
          omega
      · cases h
/-- the head of a block -/
def RelK (mm : Nat) (res : Except Nat (List UInt8 × List Bool)) (l k n : Nat) (o : List UInt8) : RS → Prop
  | .ok r => (∀ e, kindB (mm : Int) k o r = .error e → res = .error e) ∧ (∀ o' r', kindB (mm : Int) k o r = .ok (o', r') → o'.length ≤ mm → RelN mm res l o' (.ok r') ∧ msN l (.ok r') < n)
  | .error e => res = .error e
theorem block_head {mm : Nat} {res : Except Nat (List UInt8 × List Bool)} {o : List UInt8} {r : List Bool} (h : RelN mm res 0 o (.ok r)) :
    RelK mm res (numI (.ok r) 1).1 (numI (numS 1 (.ok r)) 2).1 (r.length + 1) o (numS 2 (numS 1 (.ok r))) := by
  obtain ⟨ho, h1, _⟩ := h
  obtain ⟨f, hf, h⟩ := h1 rfl
  obtain ⟨g, rfl⟩ : ∃ g, f = g + 1 := ⟨f - 1, by omega⟩
  rw [inflGo, one_eq] at h
  cases t1 : takeB 1 r with
  | error e =>
    rw [t1] at h
    rw [numS_error t1]
    exact h.symm
  | ok v =>
    obtain ⟨l, r1⟩ := v
    rw [t1] at h
    have i1 := numI_take t1
    have s1 : numS 1 (.ok r) = .ok r1 := by rw [← numI_S, i1]
    have hl2 : l < 2 := by have := numI_lt (.ok r) 1; rw [i1] at this; exact this
    have l1 := takeB_less t1
    rw [s1, i1]
    simp only [] at h ⊢
    cases t2 : takeB 2 r1 with
    | error e =>
      rw [t2] at h
      rw [numS_error t2]
      exact h.symm
    | ok v =>
      obtain ⟨k, r2⟩ := v
      rw [t2] at h
      have i2 := numI_take t2
      have s2 : numS 2 (.ok r1) = .ok r2 := by rw [← numI_S, i2]
      have l2 := takeB_less t2
      rw [s2, i2]
      simp only [] at h ⊢
      have hless : r2.length < r.length := by
        have h1 : r1.length + 1 ≤ r.length := by
          unfold takeB at t1
          split at t1
          · injection t1 with t1
            injection t1 with _ t1
            rw [← t1, List.length_drop]
            omega
          · cases t1
        omega
      refine ⟨fun e he => ?_, fun o' r' ho' hl' => ?_⟩
      · rw [he] at h
        exact h.symm
      · rw [ho'] at h
        simp only [] at h
        have l3 := kindB_less ho'
        refine ⟨⟨hl', fun h0 => ?_, fun h0 => ?_⟩, ?_⟩
        · subst h0
          exact ⟨g, by omega, h⟩
        · obtain rfl : l = 1 := by omega
          exact h.symm
        · show (if l = 0 then r'.length + 1 else 0) < r.length + 1
          split <;> omega
theorem numI_one (st : RS) : numI st 1 = (bitV st, bitN st) := by
  show ((0 : Nat) + bitV st * 2 ^ 0, bitN st) = _
  rw [Nat.zero_add, Nat.pow_zero, Nat.mul_one]
/-- what stands behind a block -/
theorem RdOut.next {w : World} {R base mm l k n : Nat} {s : ByteArray} {res : Except Nat (List UInt8 × List Bool)} {o : List UInt8} {r : List Bool} (h : RdOut w R base mm s (kindB (mm : Int) k o r)) (hr : RelK mm res l k n o (.ok r)) (hn : 0 < n) : ∃ o' st', RdAt w R base s mm o' st' ∧ RelN mm res l o' st' ∧ msN l st' < n := by
  cases hk : kindB (mm : Int) k o r with
  | error e =>
    rw [hk] at h
    obtain ⟨o', h⟩ := h
    exact ⟨o', .error e, h, hr.1 e hk, hn⟩
  | ok v =>
    obtain ⟨o', r'⟩ := v
    rw [hk] at h
    have h2 := hr.2 o' r' hk h.2
    exact ⟨o', .ok r', h.1, h2.1, h2.2⟩
theorem kraft_fixL : kraft fixL = 32768 := by decide +kernel
theorem kraft_fixD : kraft fixD = 32768 := by decide +kernel
theorem fixL_le : ∀ x ∈ fixL, x ≤ 15 := fixL_15
theorem fixD_le : ∀ x ∈ fixD, x ≤ 15 := fun x hx => by
  have := List.eq_of_mem_replicate (show x ∈ List.replicate 32 5 from hx)
  omega
/-- the table Order, where nothing below changes -/
def OrdR (w : World) : Prop := ∃ a c, a.block < w.heap.size ∧ 2 < w.heap.size ∧ OrdC w a c
theorem OrdC.keeps {w w' : World} {R base c : Nat} {a : Addr} (h : OrdC w a c) (hk : Keeps (okOut R base) w w') (ha : a.block < w.heap.size) (hg : 2 < w.heap.size) (haR : a.block < R) (hgR : 2 < R) (hb : R < base) : OrdC w' a c := by
  refine ⟨?_, fun i hi => ?_⟩
  · rw [World.cell?_of_block (w := w) (hk.block _ _ (Array.getElem?_eq_getElem hg) ⟨by omega, .inl (by omega)⟩ |>.trans (Array.getElem?_eq_getElem hg).symm)]
    exact h.1
  · have e : (a.add i).block = a.block := by unfold Addr.add; split <;> rfl
    have hlt : (a.add i).block < w.heap.size := by rw [e]; exact ha
    rw [World.cell?_of_block (w := w) (hk.block _ _ (Array.getElem?_eq_getElem hlt) ⟨by rw [e]; omega, .inl (by rw [e]; omega)⟩ |>.trans (Array.getElem?_eq_getElem hlt).symm)]
    exact h.2 i hi
theorem CodeM.len {w : World} {C : Nat} {l : List Nat} (h : CodeM w C l) : ∃ N : Nat, (Builtin.len_ #[48] 3 #[.map (some C)]).run Tryd.prog w = .ok (.int .i64 (N : Int)) w := by
  obtain ⟨n, D, hown, hD⟩ := h
  exact ⟨_, hown.len Tryd.underlying48 3⟩
/-- the fixed codes, once they are asked for -/
def FixM (w : World) (a b : Value) : Prop := (a = .map none ∧ b = .map none) ∨ ∃ L M, a = .map (some L) ∧ b = .map (some M) ∧ CodeM w L fixL ∧ CodeM w M fixD
theorem FixM.out {w w' : World} {R base most : Nat} {a b : Value} {s : ByteArray} {out : List UInt8} {st : RS} (h : FixM w a b) (hR : RdAt w R base s most out st) (hk : Keeps (okOut R base) w w') : FixM w' a b := by
  rcases h with h | ⟨L, M, h1, h2, h3, h4⟩
  · exact .inl h
  · exact .inr ⟨L, M, h1, h2, h3.out hR hk, h4.out hR hk⟩
theorem RdIn.bytes {w : World} {R base most a n : Nat} {s : ByteArray} {out : List UInt8} {ov : Value} (h : RdIn w R base s most out a n ov) : ∀ k, (convert 39 9 ov).run Tryd.prog (w.drewN k) = .ok (.string (bs out)) (w.drewN k) := by
  intro k
  obtain ⟨p, q, c, rfl⟩ := ownsRow_slice h.row
  rcases h.row.2 with ⟨h1, h2⟩ | ⟨g, cap, cur, h1, hb2, hg, h3, h4, h5, htk⟩
  · rw [h1]
    obtain rfl : out = [] := List.eq_nil_of_length_eq_zero h2
    have hn : ∀ W : World, (convert 39 9 (.slice none 0 0)).run Tryd.prog W = .ok (.string ⟨#[]⟩) W := fun _ => by kernel_rfl
    exact hn _
  · rw [h1]
    rw [Nat.mul_one] at htk
    exact conv_bytes (w.drewN k) 0 g out.length cap out rfl (cells_take (w := w.drewN k) hg htk)
end
section
open Go.RowKit Go.Maps

def finP (n : Nat) (res : Except Nat (List UInt8 × List Bool)) : Except Nat (List UInt8 × Nat) := match res with
  | .error e => .error e
  | .ok (o, r) => .ok (o, n - r.length / 8)
theorem fin_eq (s : List UInt8) (mm : Int) : inflP s mm = finP s.length (inflGo mm (8 * s.length + 1) [] (bitsOf s)) := rfl
def finV : Except Nat (List UInt8 × Nat) → Value
  | .ok (o, n) => .tuple #[.string (bs o), .int .i64 (n : Int), .int .i64 0]
  | .error no => .tuple #[.string ⟨#[]⟩, .int .i64 0, .int .i64 (no : Int)]
set_option maxRecDepth 100000 in
set_option maxHeartbeats 16000000 in
theorem rinflate_any (s : ByteArray) (most : Int) (w : World) (hs : s.size < 2 ^ 40) (hm : most < 2 ^ 40) (hO : OrdR w) :
    Calls Tryd.prog 15 #[.string s, .int .i64 most] w fun e w' => Below w.heap.size w w' ∧ e = .returned (finV (inflP s.data.toList most)) := by
  rw [inflP_max]
  obtain ⟨mm, hmm⟩ : ∃ mm : Nat, max most 0 = (mm : Int) := ⟨(max most 0).toNat, by have := Int.le_max_right most 0; omega⟩
  have hmm40 : mm < 2 ^ 40 := by have : (mm : Int) < 2 ^ 40 := by rw [← hmm]; exact Int.max_lt.2 ⟨hm, by decide⟩
                                 omega
  rw [hmm]
  obtain ⟨oa, oc, hoa, hog, hoc⟩ := hO
  obtain ⟨R, hR⟩ : ∃ R, R = w.heap.size := ⟨_, rfl⟩
  obtain ⟨wa, hwa⟩ : ∃ W, W = w.alloc (.cells #[.string s, .int .i64 0, .int .i64 0, .slice none 0 0, .int .i64 (mm : Int)] 46) := ⟨_, rfl⟩
  obtain ⟨res, hres⟩ : ∃ r, r = inflGo (mm : Int) (8 * s.data.toList.length + 1) [] (bitsOf s.data.toList) := ⟨_, rfl⟩
  have hfin : inflP s.data.toList (mm : Int) = finP s.data.toList.length res := by rw [hres]; exact fin_eq _ _
  have hrel0 : RelN mm res 0 [] (.ok (bitsOf s.data.toList)) := ⟨Nat.zero_le _, fun _ => ⟨_, by rw [bitsOf_length]; omega, hres.symm⟩, fun h => absurd rfl h⟩
  have hr0 : RdAt wa R (R + 1) s mm [] (.ok (bitsOf s.data.toList)) := by
    refine ⟨0, 0, .slice none 0 0, ⟨?_, World.ownsRow_nil _ _ _ _, Nat.zero_le _, by decide, by omega⟩, rfl⟩
    rw [hwa, hR]
    exact World.alloc_heap_new w _
  have hzwa : wa.heap.size = R + 1 := by rw [hwa, hR]; simp
  have hbel : Below R w wa := by rw [hwa, hR]; exact (Below.refl _ _).alloc (Nat.le_refl _) _
  have hoc1 : OrdC wa oa oc := ⟨by rw [hbel.cell (p := ⟨2, 0, none⟩) (by rw [hR]; exact hog)]; exact hoc.1, fun i hi => by
    have e : (oa.add i).block = oa.block := by unfold Addr.add; split <;> rfl
    rw [hbel.cell (p := oa.add i) (by rw [e, hR]; exact hoa)]
    exact hoc.2 i hi⟩
  have hoS : ∀ W, Keeps (okOut R (R + 1)) wa W → OrdC W oa oc := fun W hk => hoc1.keeps hk (by rw [hzwa, hR]; omega) (by rw [hzwa, hR]; omega) (by rw [hR]; exact hoa) (by rw [hR]; exact hog) (by omega)
  have hlast : ∀ W, Keeps (okOut R (R + 1)) wa W → Below w.heap.size w W := fun W hk => by
    rw [← hR]
    exact hbel.trans ⟨hk.os, hk.tape, hk.output, hk.size, fun k hlt => by
      have hk1 : k < wa.heap.size := by omega
      rw [hk.block k _ (Array.getElem?_eq_getElem hk1) ⟨by omega, .inl (by omega)⟩, Array.getElem?_eq_getElem hk1]⟩
  have Hfin := Lib.hid hfin
  have Hrel0 := Lib.hid hrel0
  have Hr0 := Lib.hid hr0
  have HoS := Lib.hid hoS
  have Hlast := Lib.hid hlast
  have Hwa := Lib.hid hwa
  have HR := Lib.hid hR
  clear hfin hrel0 hr0 hoS hlast hwa hres hoc1 hoc hbel hoa hog hR
  go_enter Tryd.func15, Tryd.ntmps15
  go_upto_region 1 with fail
  go_cut [7] (fun v wx => v = .pointer (some ⟨R, 0, none⟩) ∧ wx = wa)
  case first =>
    have Hmm := Lib.hid hmm
    clear hmm
    go_wp2_with fail
    case inl =>
      go_meet
      exact ⟨by rw [HR.out], by rw [Hwa.out, show (mm : Int) = 0 by rw [← Hmm.out, Int.max_def]; split <;> omega]⟩
    case inr =>
      go_meet
      exact ⟨by rw [HR.out], by rw [Hwa.out, show (mm : Int) = most by rw [← Hmm.out, Int.max_def]; split <;> omega]⟩
  case rest =>
  obtain ⟨rfl, rfl⟩ := hcut
  obtain ⟨wa, hwaa⟩ : ∃ q, q = wc := ⟨_, rfl⟩
  subst hwaa
  go_wp2_with fail
  go_loopg [8, 9, 10] (8 * s.size + 1) (fun g lv av bv wr => ∃ (o : List UInt8) (st : RS) (l : Nat), lv = .int .i64 (l : Int) ∧ l < 2 ∧ msN l st ≤ g ∧ RdAt wr R (R + 1) s mm o st ∧ Keeps (okOut R (R + 1)) wa wr ∧ FixM wr av bv ∧ RelN mm res l o st)
  case atStart => exact ⟨[], .ok (bitsOf s.data.toList), 0, rfl, by omega, by show (bitsOf s.data.toList).length + 1 ≤ _; rw [bitsOf_length]; exact Nat.le_refl _, Hr0.out, Keeps.refl _ _, .inl ⟨rfl, rfl⟩, Hrel0.out⟩
  case round =>
    obtain ⟨o, st, l, rfl, hl2, hms, hr, hk, hfx, hrel⟩ := hrel
    have Hr1 := Lib.hid hr
    have Hk1 := Lib.hid hk
    have Hfx1 := Lib.hid hfx
    have Hrel := Lib.hid hrel
    have hz1 := hk.size
    clear hr hk hfx hrel
    cases st with
    | error e1 =>
      obtain ⟨a1, n1, ov1, hin1, he1⟩ := Hr1.out
      obtain ⟨rfl, hn0⟩ := rs_error he1
      have hnb : ((n1 : Int) == 0) = false := by simp; omega
      have hnb2 : ((n1 : Int) != 0) = true := by simp; omega
      obtain ⟨d0, d1, d2, d3, d4, y1, y2, y3⟩ := hin1.cells
      clear hin1 he1 hn0
      have hend : Below w.heap.size w wr ∧ inflP s.data.toList (mm : Int) = .error n1 := ⟨Hlast.out _ Hk1.out, by rw [Hfin.out, show res = .error n1 from Hrel.out]; rfl⟩
      have Hend := Lib.hid hend
      clear hend
      by_cases hl0 : ((l : Int) == 0) = true
      all_goals
        try rw [Bool.not_eq_true] at hl0
        go_wp2_with fail
        go_quiet (fail)
        go_wp2_with fail
        go_ret3
        exact ⟨below_drewN Hend.out.1 _, by rw [Hend.out.2]; rfl⟩
    | ok r1 =>
      obtain ⟨a1, n1, ov1, hin1, he1⟩ := Hr1.out
      obtain rfl := rs_ok he1
      obtain ⟨d0, d1, d2, d3, d4, y1, y2, y3⟩ := hin1.cells
      by_cases hl0 : l = 0
      · subst hl0
        have hms' : r1.length + 1 ≤ gk := hms
        have hhd := block_head Hrel.out
        have hom := Hrel.out.1
        have hbit := rbit_any R (R + 1) mm s o (.ok r1) wr Hr1.out hs
        have hl1 := bitV_le (.ok r1)
        rw [numI_one, show numS 1 (.ok r1) = bitN (.ok r1) by rw [← numI_S, numI_one]] at hhd
        obtain ⟨lb, hlb⟩ : ∃ q, q = bitV (.ok r1) := ⟨_, rfl⟩
        obtain ⟨sb, hsb⟩ : ∃ q, q = bitN (.ok r1) := ⟨_, rfl⟩
        rw [← hlb] at hbit hl1
        rw [← hsb] at hbit
        rw [← hlb, ← hsb] at hhd
        have hnum := fun W hW => rnumber_any R (R + 1) mm s o sb 2 W hW hs (by decide)
        have hk4 := numI_lt sb 2
        obtain ⟨k, hkq⟩ : ∃ q, q = (numI sb 2).1 := ⟨_, rfl⟩
        obtain ⟨s2, hs2⟩ : ∃ q, q = numS 2 sb := ⟨_, rfl⟩
        rw [← hkq, ← hs2] at hnum hhd
        rw [← hkq] at hk4
        have Hbit := Lib.hid hbit
        have Hnum := Lib.hid hnum
        have Hhd := Lib.hid hhd
        clear hbit hnum hhd hin1 he1 hms Hrel hlb hsb hkq hs2
        cases s2 with
        | error e3 =>
          have hres3 : res = .error e3 := Hhd.out
          have Hres3 := Lib.hid hres3
          clear hres3
          go_wp2_with (first
            | (go_at_call 26; refine (Hnum.out _ Hr2.out).mono ?_; rintro e w3 ⟨rfl, hr3, hk3⟩
               obtain ⟨a3, n3, ov3, hin3, he3⟩ := (show RdAt w3 R (R + 1) s mm o (.error e3) from hr3)
               have hne3 := rs_error he3
               have hnb3 : ((n3 : Int) != 0) = true := (by simp; omega)
               clear hne3
               obtain ⟨g30, g31, g32, g33, g34, k31, k32, k33⟩ := hin3.cells
               clear hin3 he3
               have Hz3 := Lib.hid ((Hk2.out.trans hk3).size)
               have hk_ := Hk2.out.trans hk3
               have hfx_ := Hfx2.out.out Hr2.out hk3
               have Hr3 := Lib.hid hr3
               have Hk3 := Lib.hid hk_
               have Hfx3 := Lib.hid hfx_
               clear hr3 hk3 hk_ hfx_)
            | (go_at_call 25; refine (Hbit.out).mono ?_; rintro e w2 ⟨rfl, hr2, hk2⟩
               have hk_ := Hk1.out.trans hk2
               have hfx_ := Hfx1.out.out Hr1.out hk2
               have Hr2 := Lib.hid hr2
               have Hk2 := Lib.hid hk_
               have Hfx2 := Lib.hid hfx_
               clear hr2 hk2 hk_ hfx_))
          have hend : Below w.heap.size w w3 ∧ inflP s.data.toList (mm : Int) = .error e3 := ⟨Hlast.out _ Hk3.out, by rw [Hfin.out, Hres3.out]; rfl⟩
          have Hend := Lib.hid hend
          clear hend
          go_quiet (fail)
          go_wp2_with fail
          go_ret3
          have hn3 : n3 = e3 := by obtain ⟨a, n, ov, hin, he⟩ := Hr3.out; have h1 := (rs_error he).1; have h2 := hin.cells.2.2.1; rw [g32] at h2; injection h2 with h2; injection h2 with _ h2; omega
          exact ⟨below_drewN Hend.out.1 _, by rw [Hend.out.2, ← hn3]; rfl⟩
        | ok r2 =>
          have hk5 : k = 0 ∨ k = 1 ∨ k = 2 ∨ k = 3 := by omega
          rcases hk5 with rfl | rfl | rfl | rfl
          · have hpl := fun W hW hz => rplain_any R (R + 1) mm s o r2 W hW hz hmm40 hs hom
            have Hpl := Lib.hid hpl
            clear hpl
            go_wp2_with (first
            | (go_at_call 27; refine (Hpl.out _ Hr3.out (by have := Hz3.out; omega)).mono ?_; rintro e w4 ⟨rfl, ho4, hk4⟩
               have hk_ := Hk3.out.trans hk4
               have hfx_ := Hfx3.out.out Hr3.out hk4
               have ho5 : RdOut w4 R (R + 1) mm s (kindB (mm : Int) 0 o r2) := ho4
               have hnx := ho5.next Hhd.out (Nat.succ_pos _)
               have Hk4 := Lib.hid hk_
               have Hfx4 := Lib.hid hfx_
               have Hnx := Lib.hid hnx
               clear ho4 ho5 hk4 hk_ hfx_ hnx)
              | (go_at_call 26; refine (Hnum.out _ Hr2.out).mono ?_; rintro e w3 ⟨rfl, hr3, hk3⟩
                 obtain ⟨a3, n3, ov3, hin3, he3⟩ := (show RdAt w3 R (R + 1) s mm o (.ok r2) from hr3)
                 obtain rfl := rs_ok he3
                 obtain ⟨g30, g31, g32, g33, g34, k31, k32, k33⟩ := hin3.cells
                 clear hin3 he3
                 have Hz3 := Lib.hid ((Hk2.out.trans hk3).size)
                 have hk_ := Hk2.out.trans hk3
                 have hfx_ := Hfx2.out.out Hr2.out hk3
                 have Hr3 := Lib.hid hr3
                 have Hk3 := Lib.hid hk_
                 have Hfx3 := Lib.hid hfx_
                 clear hr3 hk3 hk_ hfx_)
              | (go_at_call 25; refine (Hbit.out).mono ?_; rintro e w2 ⟨rfl, hr2, hk2⟩
                 have hk_ := Hk1.out.trans hk2
                 have hfx_ := Hfx1.out.out Hr1.out hk2
                 have Hr2 := Lib.hid hr2
                 have Hk2 := Lib.hid hk_
                 have Hfx2 := Lib.hid hfx_
                 clear hr2 hk2 hk_ hfx_))
            obtain ⟨o', st', h1, h2, h3⟩ := Hnx.out
            go_roundg (msN lb st')
            case rel => exact ⟨o', st', lb, rfl, by omega, Nat.le_refl _, h1, Hk4.out, Hfx4.out, h2⟩
            case measure => omega
          · have hsy := fun L M W hW hL hM hz => rsymbols_any R (R + 1) mm L M s o r2 fixL fixD W hW hL hM (by rw [kraft_fixL]; exact Nat.le_refl _) fixL_le (by rw [fixL_len']; decide) (by rw [kraft_fixD]; exact Nat.le_refl _) fixD_le (by rw [fixD_len']; decide) hz hmm40 hs hom
            rw [show blockGo (mm : Int) fixL fixD (r2.length + 1) o r2 = kindB (mm : Int) 1 o r2 from rfl] at hsy
            have Hsy := Lib.hid hsy
            clear hsy
            rcases Hfx1.out with ⟨rfl, rfl⟩ | ⟨L, M, rfl, rfl, cL, cM⟩
            · go_upto_if 47 with (first
                | (go_at_call 26; refine (Hnum.out _ Hr2.out).mono ?_; rintro e w3 ⟨rfl, hr3, hk3⟩
                   obtain ⟨a3, n3, ov3, hin3, he3⟩ := (show RdAt w3 R (R + 1) s mm o (.ok r2) from hr3)
                   obtain rfl := rs_ok he3
                   obtain ⟨g30, g31, g32, g33, g34, k31, k32, k33⟩ := hin3.cells
                   clear hin3 he3
                   have Hz3 := Lib.hid ((Hk2.out.trans hk3).size)
                   have hk_ := Hk2.out.trans hk3
                   have hfx_ := Hfx2.out.out Hr2.out hk3
                   have Hr3 := Lib.hid hr3
                   have Hk3 := Lib.hid hk_
                   have Hfx3 := Lib.hid hfx_
                   clear hr3 hk3 hk_ hfx_)
                | (go_at_call 25; refine (Hbit.out).mono ?_; rintro e w2 ⟨rfl, hr2, hk2⟩
                   have hk_ := Hk1.out.trans hk2
                   have hfx_ := Hfx1.out.out Hr1.out hk2
                   have Hr2 := Lib.hid hr2
                   have Hk2 := Lib.hid hk_
                   have Hfx2 := Lib.hid hfx_
                   clear hr2 hk2 hk_ hfx_))
              go_cut [9, 10] (fun av bv wx => ∃ L M, av = .map (some L) ∧ bv = .map (some M) ∧ CodeM wx L fixL ∧ CodeM wx M fixD ∧ RdAt wx R (R + 1) s mm o (.ok r2) ∧ Keeps (okOut R (R + 1)) wa wx)
              case first =>
                go_wp2_with (go_at_call 29; refine (rfixl_any _).mono ?_; rintro e w4 ⟨v4, rfl, hrow, hb4⟩
                             obtain ⟨g4, cap4, rfl, hg4, hI4⟩ := ints_of_row hrow fixL_len' (by decide)
                             have hr4 := Hr3.out.below hb4 (Nat.le_refl _)
                             have hk4 := Hk3.out.young hb4 (Nat.le_refl _)
                             have hca := rcoded_any g4 0 cap4 fixL w4 hI4 hg4 (by rw [fixL_len']; decide) fixL_le (by rw [kraft_fixL]; exact Nat.le_refl _)
                             rw [fixL_len'] at hca
                             have Hr4 := Lib.hid hr4
                             have Hk4 := Lib.hid hk4
                             have Hca := Lib.hid hca
                             clear hrow hI4 hb4 hr4 hk4 hca hg4)
                go_wp2_with (go_at_call 28; refine (Hca.out).mono ?_; rintro e w5 ⟨rfl, hma, hb5⟩
                             clear Hca
                             have hr5 := Hr4.out.below hb5 (Nat.le_refl _)
                             have hk5 := Hk4.out.young hb5 (Nat.le_refl _)
                             have Hr5 := Lib.hid hr5
                             have Hk5 := Lib.hid hk5
                             have Hma := Lib.hid hma
                             clear hr5 hk5 hma hb5)
                go_wp2_with (go_at_call 30; refine (rfixd_any _).mono ?_; rintro e w6 ⟨v6, rfl, hrow, hb6⟩
                             obtain ⟨g6, cap6, rfl, hg6, hI6⟩ := ints_of_row hrow fixD_len' (by decide)
                             have hr6 := Hr5.out.below hb6 (Nat.le_refl _)
                             have hk6 := Hk5.out.young hb6 (Nat.le_refl _)
                             have hma6 := Hma.out.below hb6 Hma.out.lt
                             have hcb := rcoded_any g6 0 cap6 fixD w6 hI6 hg6 (by rw [fixD_len']; decide) fixD_le (by rw [kraft_fixD]; exact Nat.le_refl _)
                             rw [fixD_len'] at hcb
                             have Hr6 := Lib.hid hr6
                             have Hk6 := Lib.hid hk6
                             have Hma6 := Lib.hid hma6
                             have Hcb := Lib.hid hcb
                             clear hrow hI6 hb6 hr6 hk6 hcb hg6 hma6)
                go_wp2_with (go_at_call 28; refine (Hcb.out).mono ?_; rintro e w7 ⟨rfl, hmb, hb7⟩
                             clear Hcb
                             have hr7 := Hr6.out.below hb7 (Nat.le_refl _)
                             have hk7 := Hk6.out.young hb7 (Nat.le_refl _)
                             have hma7 := Hma6.out.below hb7 Hma6.out.lt
                             have Hr7 := Lib.hid hr7
                             have Hk7 := Lib.hid hk7
                             have Hma7 := Lib.hid hma7
                             have Hmb := Lib.hid hmb
                             clear hr7 hk7 hma7 hmb hb7)
                go_wp2_with fail
                go_meet
                exact ⟨_, _, rfl, rfl, Hma7.out, Hmb.out, Hr7.out, Hk7.out⟩
              case rest =>
                obtain ⟨L2, M2, rfl, rfl, hCL, hCM, hrC, hkC⟩ := hcut
                obtain ⟨wd, hwd⟩ : ∃ q, q = wc := ⟨_, rfl⟩
                subst hwd
                have hzC := hkC.size
                have HCL := Lib.hid hCL
                have HCM := Lib.hid hCM
                have HrC := Lib.hid hrC
                have HkC := Lib.hid hkC
                clear hCL hCM hrC hkC
                go_wp2_with (go_at_call 31; refine (Hsy.out _ _ _ HrC.out HCL.out HCM.out (by omega)).mono ?_; rintro e w8 ⟨rfl, ho8, hk8⟩
                             have hk_ := HkC.out.trans hk8
                             have hfx_ : FixM w8 (.map (some L2)) (.map (some M2)) := .inr ⟨L2, M2, rfl, rfl, HCL.out.out HrC.out hk8, HCM.out.out HrC.out hk8⟩
                             have hnx := ho8.next Hhd.out (Nat.succ_pos _)
                             have Hk8 := Lib.hid hk_
                             have Hfx8 := Lib.hid hfx_
                             have Hnx := Lib.hid hnx
                             clear ho8 hk8 hk_ hfx_ hnx)
                obtain ⟨o', st', h1, h2, h3⟩ := Hnx.out
                go_roundg (msN lb st')
                case rel => exact ⟨o', st', lb, rfl, by omega, Nat.le_refl _, h1, Hk8.out, Hfx8.out, h2⟩
                case measure => omega
            · have CL := Lib.hid cL
              have CM := Lib.hid cM
              clear cL cM
              go_upto_if 47 with (first
                | (go_at_call 26; refine (Hnum.out _ Hr2.out).mono ?_; rintro e w3 ⟨rfl, hr3, hk3⟩
                   have cL3 := CL2.out.out Hr2.out hk3
                   have cM3 := CM2.out.out Hr2.out hk3
                   obtain ⟨ln, hln⟩ := cL3.len
                   have CL3 := Lib.hid cL3
                   have CM3 := Lib.hid cM3
                   clear cL3 cM3
                   obtain ⟨a3, n3, ov3, hin3, he3⟩ := (show RdAt w3 R (R + 1) s mm o (.ok r2) from hr3)
                   obtain rfl := rs_ok he3
                   obtain ⟨g30, g31, g32, g33, g34, k31, k32, k33⟩ := hin3.cells
                   clear hin3 he3
                   have Hz3 := Lib.hid ((Hk2.out.trans hk3).size)
                   have hk_ := Hk2.out.trans hk3
                   have hfx_ := Hfx2.out.out Hr2.out hk3
                   have Hr3 := Lib.hid hr3
                   have Hk3 := Lib.hid hk_
                   have Hfx3 := Lib.hid hfx_
                   clear hr3 hk3 hk_ hfx_)
                | (go_at_call 25; refine (Hbit.out).mono ?_; rintro e w2 ⟨rfl, hr2, hk2⟩
                   have cL2 := CL.out.out Hr1.out hk2
                   have cM2 := CM.out.out Hr1.out hk2
                   have CL2 := Lib.hid cL2
                   have CM2 := Lib.hid cM2
                   clear cL2 cM2
                   have hk_ := Hk1.out.trans hk2
                   have hfx_ := Hfx1.out.out Hr1.out hk2
                   have Hr2 := Lib.hid hr2
                   have Hk2 := Lib.hid hk_
                   have Hfx2 := Lib.hid hfx_
                   clear hr2 hk2 hk_ hfx_))
              go_cut [9, 10] (fun av bv wx => ∃ L M, av = .map (some L) ∧ bv = .map (some M) ∧ CodeM wx L fixL ∧ CodeM wx M fixD ∧ RdAt wx R (R + 1) s mm o (.ok r2) ∧ Keeps (okOut R (R + 1)) wa wx)
              case first =>
                by_cases hz : ((ln : Int) == 0) = true
                · go_wp2_with (go_at_call 29; refine (rfixl_any _).mono ?_; rintro e w4 ⟨v4, rfl, hrow, hb4⟩
                               obtain ⟨g4, cap4, rfl, hg4, hI4⟩ := ints_of_row hrow fixL_len' (by decide)
                               have hr4 := Hr3.out.below hb4 (Nat.le_refl _)
                               have hk4 := Hk3.out.young hb4 (Nat.le_refl _)
                               have hca := rcoded_any g4 0 cap4 fixL w4 hI4 hg4 (by rw [fixL_len']; decide) fixL_le (by rw [kraft_fixL]; exact Nat.le_refl _)
                               rw [fixL_len'] at hca
                               have Hr4 := Lib.hid hr4
                               have Hk4 := Lib.hid hk4
                               have Hca := Lib.hid hca
                               clear hrow hI4 hb4 hr4 hk4 hca hg4)
                  go_wp2_with (go_at_call 28; refine (Hca.out).mono ?_; rintro e w5 ⟨rfl, hma, hb5⟩
                               clear Hca
                               have hr5 := Hr4.out.below hb5 (Nat.le_refl _)
                               have hk5 := Hk4.out.young hb5 (Nat.le_refl _)
                               have Hr5 := Lib.hid hr5
                               have Hk5 := Lib.hid hk5
                               have Hma := Lib.hid hma
                               clear hr5 hk5 hma hb5)
                  go_wp2_with (go_at_call 30; refine (rfixd_any _).mono ?_; rintro e w6 ⟨v6, rfl, hrow, hb6⟩
                               obtain ⟨g6, cap6, rfl, hg6, hI6⟩ := ints_of_row hrow fixD_len' (by decide)
                               have hr6 := Hr5.out.below hb6 (Nat.le_refl _)
                               have hk6 := Hk5.out.young hb6 (Nat.le_refl _)
                               have hma6 := Hma.out.below hb6 Hma.out.lt
                               have hcb := rcoded_any g6 0 cap6 fixD w6 hI6 hg6 (by rw [fixD_len']; decide) fixD_le (by rw [kraft_fixD]; exact Nat.le_refl _)
                               rw [fixD_len'] at hcb
                               have Hr6 := Lib.hid hr6
                               have Hk6 := Lib.hid hk6
                               have Hma6 := Lib.hid hma6
                               have Hcb := Lib.hid hcb
                               clear hrow hI6 hb6 hr6 hk6 hcb hg6 hma6)
                  go_wp2_with (go_at_call 28; refine (Hcb.out).mono ?_; rintro e w7 ⟨rfl, hmb, hb7⟩
                               clear Hcb
                               have hr7 := Hr6.out.below hb7 (Nat.le_refl _)
                               have hk7 := Hk6.out.young hb7 (Nat.le_refl _)
                               have hma7 := Hma6.out.below hb7 Hma6.out.lt
                               have Hr7 := Lib.hid hr7
                               have Hk7 := Lib.hid hk7
                               have Hma7 := Lib.hid hma7
                               have Hmb := Lib.hid hmb
                               clear hr7 hk7 hma7 hmb hb7)
                  go_wp2_with fail
                  go_meet
                  exact ⟨_, _, rfl, rfl, Hma7.out, Hmb.out, Hr7.out, Hk7.out⟩
                · rw [Bool.not_eq_true] at hz
                  go_wp2_with fail
                  go_meet
                  exact ⟨_, _, rfl, rfl, CL3.out, CM3.out, Hr3.out, Hk3.out⟩
              case rest =>
                obtain ⟨L2, M2, rfl, rfl, hCL, hCM, hrC, hkC⟩ := hcut
                obtain ⟨wd, hwd⟩ : ∃ q, q = wc := ⟨_, rfl⟩
                subst hwd
                have hzC := hkC.size
                have HCL := Lib.hid hCL
                have HCM := Lib.hid hCM
                have HrC := Lib.hid hrC
                have HkC := Lib.hid hkC
                clear hCL hCM hrC hkC
                go_wp2_with (go_at_call 31; refine (Hsy.out _ _ _ HrC.out HCL.out HCM.out (by omega)).mono ?_; rintro e w8 ⟨rfl, ho8, hk8⟩
                             have hk_ := HkC.out.trans hk8
                             have hfx_ : FixM w8 (.map (some L2)) (.map (some M2)) := .inr ⟨L2, M2, rfl, rfl, HCL.out.out HrC.out hk8, HCM.out.out HrC.out hk8⟩
                             have hnx := ho8.next Hhd.out (Nat.succ_pos _)
                             have Hk8 := Lib.hid hk_
                             have Hfx8 := Lib.hid hfx_
                             have Hnx := Lib.hid hnx
                             clear ho8 hk8 hk_ hfx_ hnx)
                obtain ⟨o', st', h1, h2, h3⟩ := Hnx.out
                go_roundg (msN lb st')
                case rel => exact ⟨o', st', lb, rfl, by omega, Nat.le_refl _, h1, Hk8.out, Hfx8.out, h2⟩
                case measure => omega
          · have hdy := fun W hW hO hz => rdynamic_any R (R + 1) mm s o r2 oa oc W hW hO hz hmm40 hs hom
            have Hdy := Lib.hid hdy
            clear hdy
            go_wp2_with (first
            | (go_at_call 32; refine (Hdy.out _ Hr3.out (fun W hk => HoS.out W (Hk3.out.trans hk)) (by have := Hz3.out; omega)).mono ?_; rintro e w4 ⟨rfl, ho4, hk4⟩
               have hk_ := Hk3.out.trans hk4
               have hfx_ := Hfx3.out.out Hr3.out hk4
               have ho5 : RdOut w4 R (R + 1) mm s (kindB (mm : Int) 2 o r2) := ho4
               have hnx := ho5.next Hhd.out (Nat.succ_pos _)
               have Hk4 := Lib.hid hk_
               have Hfx4 := Lib.hid hfx_
               have Hnx := Lib.hid hnx
               clear ho4 ho5 hk4 hk_ hfx_ hnx)
              | (go_at_call 26; refine (Hnum.out _ Hr2.out).mono ?_; rintro e w3 ⟨rfl, hr3, hk3⟩
                 obtain ⟨a3, n3, ov3, hin3, he3⟩ := (show RdAt w3 R (R + 1) s mm o (.ok r2) from hr3)
                 obtain rfl := rs_ok he3
                 obtain ⟨g30, g31, g32, g33, g34, k31, k32, k33⟩ := hin3.cells
                 clear hin3 he3
                 have Hz3 := Lib.hid ((Hk2.out.trans hk3).size)
                 have hk_ := Hk2.out.trans hk3
                 have hfx_ := Hfx2.out.out Hr2.out hk3
                 have Hr3 := Lib.hid hr3
                 have Hk3 := Lib.hid hk_
                 have Hfx3 := Lib.hid hfx_
                 clear hr3 hk3 hk_ hfx_)
              | (go_at_call 25; refine (Hbit.out).mono ?_; rintro e w2 ⟨rfl, hr2, hk2⟩
                 have hk_ := Hk1.out.trans hk2
                 have hfx_ := Hfx1.out.out Hr1.out hk2
                 have Hr2 := Lib.hid hr2
                 have Hk2 := Lib.hid hk_
                 have Hfx2 := Lib.hid hfx_
                 clear hr2 hk2 hk_ hfx_))
            obtain ⟨o', st', h1, h2, h3⟩ := Hnx.out
            go_roundg (msN lb st')
            case rel => exact ⟨o', st', lb, rfl, by omega, Nat.le_refl _, h1, Hk4.out, Hfx4.out, h2⟩
            case measure => omega
          · go_wp2_with (first
              | (go_at_call 26; refine (Hnum.out _ Hr2.out).mono ?_; rintro e w3 ⟨rfl, hr3, hk3⟩
                 obtain ⟨a3, n3, ov3, hin3, he3⟩ := (show RdAt w3 R (R + 1) s mm o (.ok r2) from hr3)
                 obtain rfl := rs_ok he3
                 obtain ⟨g30, g31, g32, g33, g34, k31, k32, k33⟩ := hin3.cells
                 clear hin3 he3
                 have Hz3 := Lib.hid ((Hk2.out.trans hk3).size)
                 have hk_ := Hk2.out.trans hk3
                 have hfx_ := Hfx2.out.out Hr2.out hk3
                 have Hr3 := Lib.hid hr3
                 have Hk3 := Lib.hid hk_
                 have Hfx3 := Lib.hid hfx_
                 clear hr3 hk3 hk_ hfx_)
              | (go_at_call 25; refine (Hbit.out).mono ?_; rintro e w2 ⟨rfl, hr2, hk2⟩
                 have hk_ := Hk1.out.trans hk2
                 have hfx_ := Hfx1.out.out Hr1.out hk2
                 have Hr2 := Lib.hid hr2
                 have Hk2 := Lib.hid hk_
                 have Hfx2 := Lib.hid hfx_
                 clear hr2 hk2 hk_ hfx_))
            obtain ⟨a5, n5, ov5, hin5, he5⟩ := Hr3.out
            have ho5 : RdOut (w3.setCell ⟨R, 2, none⟩ (.int .i64 4)) R (R + 1) mm s (kindB (mm : Int) 3 o r2) := ⟨o, a5, 4, ov5, hin5.setNo 4 (by decide) _ rfl, rfl⟩
            obtain ⟨o', st', h1, h2, h3⟩ := ho5.next Hhd.out (Nat.succ_pos _)
            have hk5 := Hk3.out.setR 2 (.int .i64 4)
            have hfx5 := Hfx3.out.out Hr3.out ((Keeps.refl (okOut R (R + 1)) w3).setR 2 (.int .i64 4))
            go_roundg (msN lb st')
            case rel => exact ⟨o', st', lb, rfl, by omega, Nat.le_refl _, h1, hk5, hfx5, h2⟩
            case measure => omega
      · have hl0b : ((l : Int) == 0) = false := beq_eq_false_iff_ne.2 (by omega)
        have hres1 : res = .ok (o, r1) := Hrel.out.2.2 hl0
        have hby := hin1.bytes
        have hle := hin1.le
        have hr1l : r1.length = 8 * s.size - a1 := by
          unfold rsOf at he1
          rw [if_pos rfl] at he1
          injection he1 with he1
          rw [he1, List.length_drop, bitsOf_length]; rfl
        have hend : Below w.heap.size w wr ∧ inflP s.data.toList (mm : Int) = .ok (o, (a1 + 7) / 8) := ⟨Hlast.out _ Hk1.out, by
          rw [Hfin.out, hres1]
          show Except.ok (o, s.data.toList.length - r1.length / 8) = _
          rw [hr1l]
          congr 2
          show s.size - _ = _
          omega⟩
        have Hend := Lib.hid hend
        clear hin1 he1 hres1 hend hr1l hms
        go_wp2_with fail
        go_quiet (fail)
        go_wp2_with fail
        go_ret3
        exact ⟨below_drewN Hend.out.1 _, by rw [Hend.out.2]; rfl⟩
end
section
open Go.ChangeShapes Go.WideShapes Go.ChangeAt Go.RowKit
theorem Tryd.gOrder : Tryd.prog.globalNamed "strata/strataref06.Order" = some 2 := by kernel_rfl
theorem Tryd.tOrder : (Tryd.prog.globals[2]?).map (·.type) = some 52 := by kernel_rfl
/-- the reference's table, out of the laid list -/
theorem ordR_of {W : World} {l : List (String × DataW Unit)} {ps : List MemPlace} (h : DataW.LaidVars Tryd.prog W l ps) (h1 : ("strata/strataref06.Order", Rows.laid_strata_strataref06_Order) ∈ l) : OrdR W := by
  obtain ⟨g1, t1, c1, f1, p1, a1, b1, d1, e1⟩ := laid_at h h1
  obtain rfl := Option.some.inj (Tryd.gOrder.symm.trans a1)
  obtain rfl := Option.some.inj (Tryd.tOrder.symm.trans b1)
  obtain ⟨a, cap, hcs, hle, hel⟩ := open_row Tryd.underlying52 Tryd.cInt e1
  have hc0 : W.cell? ⟨2, 0, none⟩ = some (.slice (some a) 19 cap) := by
    rw [World.var?_cell Tryd.gOrder d1 0, ← Array.getElem?_toList, hcs]
    rfl
  have hcell : ∀ i, i < 19 → W.cell? (a.add i) = some (.int .i64 ((ordT.getD i 0 : Nat) : Int)) := by
    intro i hi
    have hd : ([.lit (.int .i64 16), .lit (.int .i64 17), .lit (.int .i64 18), .lit (.int .i64 0), .lit (.int .i64 8), .lit (.int .i64 7), .lit (.int .i64 9), .lit (.int .i64 6), .lit (.int .i64 10), .lit (.int .i64 5), .lit (.int .i64 11), .lit (.int .i64 4), .lit (.int .i64 12), .lit (.int .i64 3), .lit (.int .i64 13), .lit (.int .i64 2), .lit (.int .i64 14), .lit (.int .i64 1), .lit (.int .i64 15)] : List (DataW Unit))[i]? = some (.lit (.int .i64 ((ordT.getD i 0 : Nat) : Int))) := by
      have : i = 0 ∨ i = 1 ∨ i = 2 ∨ i = 3 ∨ i = 4 ∨ i = 5 ∨ i = 6 ∨ i = 7 ∨ i = 8 ∨ i = 9 ∨ i = 10 ∨ i = 11 ∨ i = 12 ∨ i = 13 ∨ i = 14 ∨ i = 15 ∨ i = 16 ∨ i = 17 ∨ i = 18 := by omega
      rcases this with rfl | rfl | rfl | rfl | rfl | rfl | rfl | rfl | rfl | rfl | rfl | rfl | rfl | rfl | rfl | rfl | rfl | rfl | rfl <;> rfl
    obtain ⟨v, n, q, hv, ht⟩ := hel i _ hd
    obtain ⟨num, hn, hd2, _⟩ := DataW.trod_int Tryd.underlying3 ht
    rw [hv]
    injection hn with hn _
    rw [hn]
    injection hd2 with hd2
    injection hd2 with hd2
    injection hd2 with _ hd2
    rw [hd2]
  have e0 : (a.add 0).block = a.block := by unfold Addr.add; split <;> rfl
  exact ⟨a, cap, by rw [← e0]; exact lt_of_cell (hcell 0 (by decide)), lt_of_cell hc0, hc0, hcell⟩
theorem tabs_of_laidI {W : World} (h : laidMetH Tryd.prog [("strata/strataref06.Order", Rows.laid_strata_strataref06_Order), ("errors.errorType", Rows.laid_errors_errorType), ("strata/flate.lengths", Rows.laid_strata_flate_lengths), ("strata/flate.distances", Rows.laid_strata_flate_distances), ("strata/flate.order", Rows.laid_strata_flate_order)] W) : Tabs W ∧ OrdAt W ∧ Handle W ∧ OrdR W := by
  have h' : laidMet Tryd.prog [("strata/strataref06.Order", Rows.laid_strata_strataref06_Order), ("strata/flate.lengths", Rows.laid_strata_flate_lengths), ("strata/flate.distances", Rows.laid_strata_flate_distances), ("strata/flate.order", Rows.laid_strata_flate_order)] W ∧ handlesMet Tryd.prog [("errors.errorType", Rows.laid_errors_errorType)] W := h
  obtain ⟨⟨ps, hv, _⟩, hh⟩ := h'
  obtain ⟨a, b⟩ := tabs_of hv (by simp) (by simp) (by simp)
  exact ⟨a, b, handle_of hh, ordR_of hv (by simp)⟩
/-- a world that meets the list: the table lies in a block behind the variables -/
noncomputable def laidWorldI (os : Os) : World :=
  { laidWorld os with heap := ((((laidWorld os).heap.push (.cells #[.int .i64 16, .int .i64 17, .int .i64 18, .int .i64 0, .int .i64 8, .int .i64 7, .int .i64 9, .int .i64 6, .int .i64 10, .int .i64 5, .int .i64 11, .int .i64 4, .int .i64 12, .int .i64 3, .int .i64 13, .int .i64 2, .int .i64 14, .int .i64 1, .int .i64 15] 3))).modify 2 fun
      | .cells _ t frozen => .cells #[.slice (some ⟨(laidWorld os).heap.size, 0, none⟩) 19 19] t frozen
      | o => o) }
theorem laidWorldI_met (os : Os) (args : Array Value) : laidMetH Tryd.prog [("strata/strataref06.Order", Rows.laid_strata_strataref06_Order), ("errors.errorType", Rows.laid_errors_errorType), ("strata/flate.lengths", Rows.laid_strata_flate_lengths), ("strata/flate.distances", Rows.laid_strata_flate_distances), ("strata/flate.order", Rows.laid_strata_flate_order)] ((laidWorldI os).forCall (fun _ _ => 0) ⟨#[], args, []⟩).memory :=
  laidMetH_of_parts (laidMet_of_run' 8 (by kernel_rfl) (by kernel_rfl)) (by kernel_rfl)
end
section
open Go.RowKit
set_option maxRecDepth 100000 in
set_option maxHeartbeats 1000000 in
theorem flateInflates_big1 (s : ByteArray) (most : Int) (w : World) (hb : (65536 : Int) < (s.size : Int)) :
    Calls Tryd.prog 6 #[.string s, .int .i64 most] w fun e w' => e = .returned (.bool true) ∧ Below w.heap.size w w' := by
  go_enter Tryd.func6, Tryd.ntmps6
  go_wp2_with fail
  go_ret
  exact ⟨rfl, Below.refl _ _⟩
set_option maxRecDepth 100000 in
set_option maxHeartbeats 1000000 in
theorem flateInflates_big2 (s : ByteArray) (most : Int) (w : World) (ha : ¬ (65536 : Int) < (s.size : Int)) (hb : (1048576 : Int) < most) :
    Calls Tryd.prog 6 #[.string s, .int .i64 most] w fun e w' => e = .returned (.bool true) ∧ Below w.heap.size w w' := by
  have hd : decide ((65536 : Int) < (s.size : Int)) = false := decide_eq_false ha
  go_enter Tryd.func6, Tryd.ntmps6
  go_wp2_with fail
  go_ret
  exact ⟨rfl, Below.refl _ _⟩
/-- both answer alike, as three values -/
theorem both_alike (s : ByteArray) (most : Int) (w : World) (hs : s.size < 2 ^ 40) (hm : most < 2 ^ 40) (hT : Tabs w) (hO : OrdAt w) (hR : OrdR w) : ∃ (t : ByteArray) (k n : Nat), n ≤ 32 ∧
    (∀ W, Below w.heap.size w W → Calls Tryd.prog 15 #[.string s, .int .i64 most] W fun e w' => e = .returned (.tuple #[.string t, .int .i64 (k : Int), .int .i64 (n : Int)]) ∧ Below W.heap.size W w') ∧
    (∀ W, Below w.heap.size w W → Calls Tryd.prog 16 #[.string s, .int .i64 most] W fun e w' => e = .returned (.tuple #[.string t, .int .i64 (k : Int), errV n]) ∧ Below W.heap.size W w') := by
  have tb : ∀ W, Below w.heap.size w W → Tabs W ∧ OrdAt W ∧ OrdR W := fun W hb => ⟨(tabs_below hT hO hb).1, (tabs_below hT hO hb).2, by
    obtain ⟨a, c, h1, h2, h3, h4⟩ := hR
    refine ⟨a, c, Nat.lt_of_lt_of_le h1 hb.size, Nat.lt_of_lt_of_le h2 hb.size, ?_, fun i hi => ?_⟩
    · rw [hb.cell (p := ⟨2, 0, none⟩) h2]; exact h3
    · have e : (a.add i).block = a.block := by unfold Addr.add; split <;> rfl
      rw [hb.cell (p := a.add i) (by rw [e]; exact h1)]
      exact h4 i hi⟩
  have h1 := fun W hW => rinflate_any s most W hs hm (tb W hW).2.2
  have h2 := fun W hW => inflate_any s most W hs hm (tb W hW).1 (tb W hW).2.1
  have h3 := inflP_sm s.data.toList most
  cases hres : inflP s.data.toList most with
  | error no =>
    have hno := h3 no hres
    obtain ⟨m, rfl⟩ : ∃ m, no = m + 1 := ⟨no - 1, by omega⟩
    refine ⟨⟨#[]⟩, 0, m + 1, by omega, fun W hW => ?_, fun W hW => ?_⟩
    · refine (h1 W hW).mono fun e w' ⟨a, b⟩ => ⟨?_, a⟩
      rw [b, hres]; rfl
    · refine (h2 W hW).mono fun e w' h => ?_
      rw [hres] at h
      exact ⟨h.2, h.1⟩
  | ok v =>
    obtain ⟨o, k⟩ := v
    refine ⟨bs o, k, 0, by omega, fun W hW => ?_, fun W hW => ?_⟩
    · refine (h1 W hW).mono fun e w' ⟨a, b⟩ => ⟨?_, a⟩
      rw [b, hres]; rfl
    · refine (h2 W hW).mono fun e w' h => ?_
      rw [hres] at h
      exact ⟨h.2, h.1⟩
set_option maxRecDepth 100000 in
set_option maxHeartbeats 8000000 in
theorem flateInflates_any (s : ByteArray) (most : Int) (w : World) (hT : Tabs w) (hO : OrdAt w) (hG : Handle w) (hR : OrdR w) :
    Calls Tryd.prog 6 #[.string s, .int .i64 most] w fun e w' => e = .returned (.bool true) ∧ Below w.heap.size w w' := by
  by_cases ha : (65536 : Int) < (s.size : Int)
  · exact flateInflates_big1 s most w ha
  by_cases hb : (1048576 : Int) < most
  · exact flateInflates_big2 s most w ha hb
  obtain ⟨t, k, n, hn, c1, c2⟩ := both_alike s most w (by omega) (by omega) hT hO hR
  have da : decide ((65536 : Int) < (s.size : Int)) = false := decide_eq_false ha
  have db : decide ((1048576 : Int) < most) = false := decide_eq_false hb
  have c3 : ∀ W, Below w.heap.size w W → Calls Tryd.prog 17 #[errV n, .int .i64 (n : Int)] W fun e w' => e = .returned (.bool true) ∧ Below W.heap.size W w' := fun W hW => plain_same n W hn (hG.below hW (Nat.le_refl _))
  have wk : ∀ W, Below w.heap.size w W → Calls Tryd.prog 10 #[] W fun e w' => e = .returned (.bool true) ∧ Below W.heap.size W w' := fun W hW => works_any W (tabs_below hT hO hW).1 (tabs_below hT hO hW).2
  obtain ⟨ev, hev⟩ : ∃ v, v = errV n := ⟨_, rfl⟩
  rw [← hev] at c2
  simp only [← hev] at c3
  have HC := Lib.hid (Below.refl w.heap.size w)
  have C1 := Lib.hid c1
  have C2 := Lib.hid c2
  have C3 := Lib.hid c3
  have WK := Lib.hid wk
  clear c1 c2 c3 wk hev hT hO hG hR
  go_enter Tryd.func6, Tryd.ntmps6
  go_wp2_with (first
    | (go_at_call 15; refine (C1.out _ HC.out).mono ?_; rintro e w1 ⟨rfl, hb⟩
       have hq := HC.out.trans (hb.mono HC.out.size)
       clear HC hb
       have HC := Lib.hid hq
       clear hq)
    | (go_at_call 16; refine (C2.out _ HC.out).mono ?_; rintro e w2 ⟨rfl, hb⟩
       have hq := HC.out.trans (hb.mono HC.out.size)
       clear HC hb
       have HC := Lib.hid hq
       clear hq)
    | (go_at_call 17; refine (C3.out _ HC.out).mono ?_; rintro e w3 ⟨rfl, hb⟩
       have hq := HC.out.trans (hb.mono HC.out.size)
       clear HC hb
       have HC := Lib.hid hq
       clear hq)
    | (go_at_call 10; refine (WK.out _ HC.out).mono ?_; rintro e w4 ⟨rfl, hb⟩
       have hq := HC.out.trans (hb.mono HC.out.size)
       clear HC hb
       have HC := Lib.hid hq
       clear hq))
  go_ret
  exact ⟨rfl, HC.out⟩
end
end Go.Proofs.YtjielagabnkimaaDoor
