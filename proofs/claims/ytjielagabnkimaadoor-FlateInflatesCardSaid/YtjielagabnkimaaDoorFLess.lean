/- What is read leaves fewer bits; how long the lengths of codes are. -/
import Derived.Test.YtjielagabnkimaaDoorFInflD
namespace Go.Proofs.YtjielagabnkimaaDoor
theorem takeB_less {n x : Nat} {r r' : List Bool} (h : takeB n r = .ok (x, r')) : r'.length ≤ r.length := by
  unfold takeB at h
  split at h
  · injection h with h
    injection h with _ h
    rw [← h, List.length_drop]; omega
  · cases h
theorem lenOne_less {short l : List Nat} {r r' : List Bool} {t x : Nat} (h : lenOne short l r = .ok (t, x, r')) : r'.length ≤ r.length := by
  unfold lenOne at h
  cases hs : symP short r with
  | error e => rw [hs] at h; cases h
  | ok v =>
    obtain ⟨y, r1⟩ := v
    have h1 := symP_less hs
    rw [hs] at h
    simp only [] at h
    split at h
    · cases ht : takeB 2 r1 with
      | error e => rw [ht] at h; cases h
      | ok v =>
        obtain ⟨a, r2⟩ := v
        have h2 := takeB_less ht
        rw [ht] at h
        simp only [] at h
        split at h
        · cases h
        · injection h with h
          injection h with _ h
          injection h with _ h
          rw [← h]; omega
    · split at h
      · cases ht : takeB 3 r1 with
        | error e => rw [ht] at h; cases h
        | ok v =>
          obtain ⟨a, r2⟩ := v
          have h2 := takeB_less ht
          rw [ht] at h
          simp only [] at h
          injection h with h
          injection h with _ h
          injection h with _ h
          rw [← h]; omega
      · split at h
        · cases ht : takeB 7 r1 with
          | error e => rw [ht] at h; cases h
          | ok v =>
            obtain ⟨a, r2⟩ := v
            have h2 := takeB_less ht
            rw [ht] at h
            simp only [] at h
            injection h with h
            injection h with _ h
            injection h with _ h
            rw [← h]; omega
        · injection h with h
          injection h with _ h
          injection h with _ h
          rw [← h]; omega
theorem lensGo_spec {short : List Nat} {many : Nat} : ∀ {f : Nat} {l l' : List Nat} {r r' : List Bool}, lensGo short many f l r = .ok (l', r') → l.length ≤ many → l'.length ≤ many ∧ r'.length ≤ r.length
  | 0, l, l', r, r', h, hl => by
    injection h with h
    injection h with h1 h2
    rw [← h1, ← h2]; exact ⟨hl, Nat.le_refl _⟩
  | f + 1, l, l', r, r', h, hl => by
    rw [lensGo] at h
    split at h
    · cases ho : lenOne short l r with
      | error e => rw [ho] at h; cases h
      | ok v =>
        obtain ⟨t, x, r1⟩ := v
        have h1 := lenOne_less ho
        rw [ho] at h
        simp only [] at h
        split at h
        · cases h
        · have := lensGo_spec h (by rw [List.length_append, List.length_replicate]; omega)
          omega
    · injection h with h
      injection h with h1 h2
      rw [← h1, ← h2]; exact ⟨hl, Nat.le_refl _⟩
theorem shortGo_less : ∀ {f i : Nat} {l l' : List Nat} {r r' : List Bool}, shortGo f i l r = .ok (l', r') → r'.length ≤ r.length ∧ l'.length = l.length
  | 0, i, l, l', r, r', h => by
    injection h with h
    injection h with h1 h2
    rw [← h1, ← h2]; exact ⟨Nat.le_refl _, rfl⟩
  | f + 1, i, l, l', r, r', h => by
    rw [shortGo] at h
    cases ht : takeB 3 r with
    | error e => rw [ht] at h; cases h
    | ok v =>
      obtain ⟨a, r2⟩ := v
      have h2 := takeB_less ht
      rw [ht] at h
      have h3 := shortGo_less (f := f) h
      rw [List.length_set] at h3
      exact ⟨by omega, h3.2⟩
theorem codesP_spec {r r' : List Bool} {la lb : List Nat} (h : codesP r = .ok (la, lb, r')) : la.length ≤ 288 ∧ lb.length ≤ 400 ∧ r'.length ≤ r.length := by
  unfold codesP at h
  cases h5 : takeB 5 r with
  | error e => rw [h5] at h; cases h
  | ok v =>
    obtain ⟨x, r1⟩ := v
    have e1 := takeB_less h5
    rw [h5] at h
    simp only [] at h
    cases h6 : takeB 5 r1 with
    | error e => rw [h6] at h; cases h
    | ok v =>
      obtain ⟨y, r2⟩ := v
      have e2 := takeB_less h6
      rw [h6] at h
      simp only [] at h
      cases h7 : takeB 4 r2 with
      | error e => rw [h7] at h; cases h
      | ok v =>
        obtain ⟨z, r3⟩ := v
        have e3 := takeB_less h7
        rw [h7] at h
        simp only [] at h
        split at h
        · cases h
        · rename_i hxy
          cases h8 : shortGo (4 + z) 0 (List.replicate 19 0) r3 with
          | error e => rw [h8] at h; cases h
          | ok v =>
            obtain ⟨short, r4⟩ := v
            have e4 := (shortGo_less h8).1
            rw [h8] at h
            simp only [] at h
            split at h
            · cases h
            · cases h9 : lensGo short (257 + x + (1 + y)) (257 + x + (1 + y) + 1) [] r4 with
              | error e => rw [h9] at h; cases h
              | ok v =>
                obtain ⟨l, r5⟩ := v
                have e5 := lensGo_spec h9 (by simp)
                rw [h9] at h
                simp only [] at h
                split at h
                · cases h
                · injection h with h
                  injection h with h1 h2
                  injection h2 with h2 h3
                  rw [← h1, ← h2, ← h3, List.length_take, List.length_drop]
                  omega
theorem storedGo_less {most : Int} : ∀ {f : Nat} {out out' : List UInt8} {r r' : List Bool}, storedGo most f out r = .ok (out', r') → r'.length ≤ r.length
  | 0, out, out', r, r', h => by
    injection h with h
    injection h with _ h2
    rw [← h2]; exact Nat.le_refl _
  | f + 1, out, out', r, r', h => by
    rw [storedGo] at h
    split at h
    · cases h
    · cases ht : takeB 8 r with
      | error e => rw [ht] at h; cases h
      | ok v =>
        obtain ⟨a, r2⟩ := v
        have h2 := takeB_less ht
        rw [ht] at h
        have h3 := storedGo_less (f := f) h
        omega
theorem blockOne_less {most : Int} {la lb : List Nat} {out : List UInt8} {o : Option (List UInt8)} {r r' : List Bool} (h : blockOne most la lb out r = .ok (o, r')) : r'.length < r.length := by
  unfold blockOne at h
  cases hs : symP la r with
  | error e => rw [hs] at h; cases h
  | ok v =>
    obtain ⟨x, r1⟩ := v
    have h1 := symP_less hs
    rw [hs] at h
    simp only [] at h
    split at h
    · injection h with h
      injection h with _ h
      rw [← h]; exact h1
    · split at h
      · split at h
        · cases h
        · injection h with h
          injection h with _ h
          rw [← h]; exact h1
      · split at h
        · cases h
        · cases ht : takeB (lensT.getD (x - 257) (0, 0)).2 r1 with
          | error e => rw [ht] at h; cases h
          | ok v =>
            obtain ⟨a, r2⟩ := v
            have h2 := takeB_less ht
            rw [ht] at h
            simp only [] at h
            cases hs2 : symP lb r2 with
            | error e => rw [hs2] at h; cases h
            | ok v =>
              obtain ⟨y, r3⟩ := v
              have h3 := symP_less hs2
              rw [hs2] at h
              simp only [] at h
              split at h
              · cases h
              · cases ht2 : takeB (distT.getD y (0, 0)).2 r3 with
                | error e => rw [ht2] at h; cases h
                | ok v =>
                  obtain ⟨b, r4⟩ := v
                  have h4 := takeB_less ht2
                  rw [ht2] at h
                  simp only [] at h
                  split at h
                  · cases h
                  · split at h
                    · cases h
                    · injection h with h
                      injection h with _ h
                      rw [← h]; omega
theorem blockGo_less {most : Int} {la lb : List Nat} (f : Nat) : ∀ {out out' : List UInt8} {r r' : List Bool}, blockGo most la lb f out r = .ok (out', r') → r'.length ≤ r.length := by
  induction f with
  | zero =>
    intro out out' r r' h
    rw [blockGo] at h
    injection h with h
    injection h with _ h2
    rw [← h2]; exact Nat.le_refl _
  | succ f ih =>
    intro out out' r r' h
    rw [blockGo] at h
    cases ho : blockOne most la lb out r with
    | error e => rw [ho] at h; cases h
    | ok v =>
      obtain ⟨o, r1⟩ := v
      have h1 := blockOne_less ho
      rw [ho] at h
      cases o with
      | none =>
        simp only [] at h
        injection h with h
        injection h with _ h2
        rw [← h2]; omega
      | some out1 =>
        simp only [] at h
        have := ih h
        omega
end Go.Proofs.YtjielagabnkimaaDoor
