/- Whether entries are a tree, plain. -/
import Derived.Test.YtfanfkogogijpaaGreatDoorTModel
import Derived.Test.YtfanfkogogijpaaGreatDoorOrd
set_option linter.unusedVariables false
namespace Go.Proofs.YtfanfkogogijpaaGreatDoor
/-- what a text lacks that is to be a path -/
def whiteout (l : List UInt8) : List UInt8 := joinP (parent l) (white ++ lastName l)
def checkNo (l : List UInt8) : Nat :=
  if l = [] then 15 else if (pcs l).any (fun p => !nameOk p) then 8 else if 32 < (pcs l).length ∨ 255 < l.length then 9 else (splitP (whiteout l)).2.2
theorem checkNo_neat {l : List UInt8} (h : checkNo l = 0) : Neat l := by
  unfold checkNo at h
  by_cases h0 : l = []
  · rw [if_pos h0] at h; cases h
  rw [if_neg h0] at h
  by_cases h1 : (pcs l).any (fun p => !nameOk p) = true
  · rw [if_pos h1] at h; cases h
  intro hm
  exact h1 (List.any_eq_true.2 ⟨[], hm, rfl⟩)
theorem checkNo_small {l : List UInt8} (h : checkNo l = 0) : l.length ≤ 255 := by
  unfold checkNo at h
  by_cases h0 : l = []
  · rw [if_pos h0] at h; cases h
  rw [if_neg h0] at h
  by_cases h1 : (pcs l).any (fun p => !nameOk p) = true
  · rw [if_pos h1] at h; cases h
  rw [if_neg h1] at h
  by_cases h2 : 32 < (pcs l).length ∨ 255 < l.length
  · rw [if_pos h2] at h; cases h
  · omega
/-- what is wrong with an entry by itself -/
def itselfNo (e : Ent) : Nat :=
  if ¬ (e.k = 1 ∨ e.k = 2 ∨ e.k = 3) then 14
  else if checkNo e.path ≠ 0 then checkNo e.path
  else if e.m < 0 ∨ 4095 < e.m ∨ (e.k = 3 ∧ e.m ≠ 511) then 16
  else if e.k = 3 ∧ (e.l.data.toList = [] ∨ 100 < e.l.size ∨ (0 : UInt8) ∈ e.l.data.toList) then 17
  else if e.k = 2 ∧ 1048576 < e.d.size then 5
  else if (e.k ≠ 2 ∧ e.d.data.toList ≠ []) ∨ (e.k ≠ 3 ∧ e.l.data.toList ≠ []) then 4
  else 0
theorem itselfNo_check {e : Ent} (h : itselfNo e = 0) : checkNo e.path = 0 := by
  unfold itselfNo at h
  split at h
  · cases h
  · split at h
    · omega
    · omega
theorem itselfNo_data {e : Ent} (h : itselfNo e = 0) : e.d.size ≤ 1048576 := by
  unfold itselfNo at h
  split at h
  · cases h
  split at h
  · omega
  split at h
  · cases h
  split at h
  · cases h
  split at h
  · cases h
  split at h
  · cases h
  · rename_i h1 h2
    by_cases hk : e.k = 2
    · by_cases hd : 1048576 < e.d.size
      · exact absurd ⟨hk, hd⟩ h1
      · omega
    · have : e.d.data.toList = [] := by
        by_cases hd : e.d.data.toList = []
        · exact hd
        · exact absurd (.inl ⟨hk, hd⟩) h2
      have : e.d.size = 0 := by
        show e.d.data.toList.length = 0
        rw [this]; rfl
      omega
/-- the entry at a path -/
def lookE (l : List Ent) (q : List UInt8) : Option Ent := l.find? (fun y => y.path == q)
/-- is a path's parent there, and a directory? -/
def upNo (l : List Ent) (p : List UInt8) : Nat := if parent p = [] then 0 else match lookE l (parent p) with
  | none => 10
  | some x => if x.k = 1 then 0 else 13
def bytesE (l : List Ent) : Nat := (l.map (fun e => e.d.size)).sum
/-- what is wrong with an entry behind these -/
def oneNo (seen : List Ent) (e : Ent) : Nat :=
  if itselfNo e ≠ 0 then itselfNo e
  else match seen.getLast? with
    | some q => if q.path = e.path then 11 else if 0 < compareP q.path e.path then 1
      else if upNo seen e.path ≠ 0 then upNo seen e.path else if 4096 ≤ seen.length ∨ 16777216 < bytesE seen + e.d.size then 5 else 0
    | none => if upNo seen e.path ≠ 0 then upNo seen e.path else if 4096 ≤ seen.length ∨ 16777216 < bytesE seen + e.d.size then 5 else 0
/-- the first entry with which something is wrong -/
def checkGo : List Ent → List Ent → Nat × Nat
  | _, [] => (0, 0)
  | seen, e :: r => if oneNo seen e ≠ 0 then (oneNo seen e, seen.length) else checkGo (seen ++ [e]) r
def checkL (l : List Ent) : Nat × Nat := checkGo [] l
/-- these are a tree -/
structure Good (l : List Ent) : Prop where
  it : ∀ e ∈ l, itselfNo e = 0
  up : ∀ e ∈ l, upNo l e.path = 0
  inc : l.Pairwise (fun a b => compareP a.path b.path < 0)
  len : l.length ≤ 4096
  byt : bytesE l ≤ 16777216
theorem good_nil : Good [] := ⟨fun _ h => (by cases h), fun _ h => (by cases h), List.Pairwise.nil, by decide, by decide⟩
theorem lookE_append {l r : List Ent} {q : List UInt8} {x : Ent} (h : lookE l q = some x) : lookE (l ++ r) q = some x := by
  unfold lookE at h ⊢
  rw [List.find?_append, h]; rfl
theorem upNo_append {l r : List Ent} {p : List UInt8} (h : upNo l p = 0) : upNo (l ++ r) p = 0 := by
  unfold upNo at h ⊢
  by_cases h0 : parent p = []
  · rw [if_pos h0]
  rw [if_neg h0] at h ⊢
  cases hl : lookE l (parent p) with
  | none => rw [hl] at h; cases h
  | some x =>
    rw [hl] at h
    rw [lookE_append hl]
    exact h
theorem bytesE_append (l r : List Ent) : bytesE (l ++ r) = bytesE l + bytesE r := by simp [bytesE]
theorem inc_all {l : List Ent} (h : l.Pairwise (fun a b => compareP a.path b.path < 0)) {q e : Ent} (hq : l.getLast? = some q) (hc : compareP q.path e.path < 0) : ∀ x ∈ l, compareP x.path e.path < 0 := by
  obtain ⟨ys, rfl⟩ := List.getLast?_eq_some_iff.1 hq
  intro x hx
  rcases List.mem_append.1 hx with hx | hx
  · exact compareP_trans ((List.pairwise_append.1 h).2.2 x hx q (List.mem_singleton.2 rfl)) hc
  · rw [List.mem_singleton.1 hx]; exact hc
/-- what oneNo = 0 says -/
theorem oneNo_zero {seen : List Ent} {e : Ent} (hs : Good seen) (h : oneNo seen e = 0) : itselfNo e = 0 ∧ upNo seen e.path = 0 ∧ (∀ x ∈ seen, compareP x.path e.path < 0) ∧ seen.length < 4096 ∧ bytesE seen + e.d.size ≤ 16777216 := by
  unfold oneNo at h
  by_cases h1 : itselfNo e ≠ 0
  · rw [if_pos h1] at h; exact absurd h h1
  rw [if_neg h1] at h
  have h1' : itselfNo e = 0 := by omega
  have fin : (if upNo seen e.path ≠ 0 then upNo seen e.path else if 4096 ≤ seen.length ∨ 16777216 < bytesE seen + e.d.size then 5 else 0) = 0 → upNo seen e.path = 0 ∧ seen.length < 4096 ∧ bytesE seen + e.d.size ≤ 16777216 := by
    intro h
    by_cases h2 : upNo seen e.path ≠ 0
    · rw [if_pos h2] at h; exact absurd h h2
    rw [if_neg h2] at h
    by_cases h3 : 4096 ≤ seen.length ∨ 16777216 < bytesE seen + e.d.size
    · rw [if_pos h3] at h; cases h
    · exact ⟨by omega, by omega, by omega⟩
  cases hl : seen.getLast? with
  | none =>
    rw [hl] at h
    have := fin h
    rw [List.getLast?_eq_none_iff.1 hl] at this ⊢
    exact ⟨h1', this.1, fun x hx => (by cases hx), this.2⟩
  | some q =>
    rw [hl] at h
    simp only [] at h
    by_cases h2 : q.path = e.path
    · rw [if_pos h2] at h; cases h
    rw [if_neg h2] at h
    by_cases h3 : 0 < compareP q.path e.path
    · rw [if_pos h3] at h; cases h
    rw [if_neg h3] at h
    have := fin h
    have hc : compareP q.path e.path < 0 := by
      have : compareP q.path e.path ≠ 0 := fun hz => h2 (compareP_zero.1 hz)
      omega
    exact ⟨h1', this.1, inc_all hs.inc hl hc, this.2⟩
theorem Good.add {seen : List Ent} {e : Ent} (hs : Good seen) (h : oneNo seen e = 0) : Good (seen ++ [e]) := by
  obtain ⟨h1, h2, h3, h4, h5⟩ := oneNo_zero hs h
  refine ⟨fun x hx => ?_, fun x hx => ?_, ?_, ?_, ?_⟩
  · rcases List.mem_append.1 hx with hx | hx
    · exact hs.it x hx
    · rw [List.mem_singleton.1 hx]; exact h1
  · rcases List.mem_append.1 hx with hx | hx
    · exact upNo_append (hs.up x hx)
    · rw [List.mem_singleton.1 hx]; exact upNo_append h2
  · rw [List.pairwise_append]
    exact ⟨hs.inc, List.pairwise_singleton _ _, fun x hx y hy => by rw [List.mem_singleton.1 hy]; exact h3 x hx⟩
  · simp; omega
  · rw [bytesE_append]
    simpa [bytesE] using h5
/-- nodes of a tree -/
def ents (nd : List Nd) : List Ent := nd.map (·.e)
theorem lookE_N {nd : List Nd} {q : List UInt8} : lookE (ents nd) q = (lookN nd q).map (·.e) := by
  unfold lookE lookN ents
  rw [List.find?_map]
  rfl
theorem Good.wf {nd : List Nd} (h : Good (ents nd)) : Wf nd := by
  refine ⟨fun y hy => checkNo_neat (itselfNo_check (h.it y.e (List.mem_map.2 ⟨y, hy, rfl⟩))), fun y hy => ?_, ?_⟩
  · have h1 := h.up y.e (List.mem_map.2 ⟨y, hy, rfl⟩)
    unfold upNo at h1
    by_cases h0 : parent y.e.path = []
    · exact .inl h0
    rw [if_neg h0] at h1
    refine .inr ?_
    rw [lookE_N] at h1
    cases hl : lookN nd (parent y.e.path) with
    | none => rw [hl] at h1; cases h1
    | some z =>
      obtain ⟨hz, hp⟩ := lookN_some hl
      rw [hl] at h1
      refine ⟨z, hz, hp, ?_⟩
      by_cases hk : z.e.k = 1
      · exact hk
      · rw [show (Option.map (fun x : Nd => x.e) (some z)) = some z.e from rfl] at h1
        simp only [] at h1
        rw [if_neg hk] at h1
        cases h1
  · have h1 := h.inc
    unfold ents at h1
    rw [List.pairwise_map] at h1
    exact h1.imp fun {a b} hab e => by rw [e] at hab; exact compareP_irrefl _ hab
end Go.Proofs.YtfanfkogogijpaaGreatDoor
