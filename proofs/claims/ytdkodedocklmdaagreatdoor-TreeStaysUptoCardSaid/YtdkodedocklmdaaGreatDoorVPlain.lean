/- What TreeStays asks of lists, plain: what is laid is a tree; what is put leaves the rest. -/
import Derived.Test.YtdkodedocklmdaaGreatDoorTPutW
import Derived.Test.YtdkodedocklmdaaGreatDoorTTakeW
set_option linter.unusedSimpArgs false
set_option linter.unusedVariables false
namespace Go.Proofs.YtdkodedocklmdaaGreatDoor
theorem one_of_good {seen r : List Ent} {e : Ent} (h : Good (seen ++ e :: r)) : oneNo seen e = 0 := by
  have hinc := h.inc
  obtain ⟨i1, i2, i3⟩ := List.pairwise_append.1 hinc
  have he : e ∈ seen ++ e :: r := by simp
  have hit := h.it e he
  have hne : ∀ x ∈ seen, compareP x.path e.path < 0 := fun x hx => i3 x hx e (List.mem_cons_self ..)
  have hup : upNo seen e.path = 0 := by
    have hu := h.up e he
    unfold upNo at hu ⊢
    by_cases h0 : parent e.path = []
    · rw [if_pos h0]
    rw [if_neg h0] at hu ⊢
    cases hl : lookE (seen ++ e :: r) (parent e.path) with
    | none => rw [hl] at hu; cases hu
    | some z =>
      rw [hl] at hu
      obtain ⟨hz, hzp⟩ := lookE_some hl
      have hn := checkNo_neat (itselfNo_check hit)
      have hless : compareP z.path e.path < 0 := by rw [hzp]; exact under_less h0 (under_kid hn rfl)
      have hzs : z ∈ seen := by
        rcases List.mem_append.1 hz with hz | hz
        · exact hz
        · exfalso
          rcases List.mem_cons.1 hz with rfl | hz
          · exact compareP_irrefl _ hless
          · exact compareP_irrefl _ (compareP_trans hless ((List.pairwise_cons.1 i2).1 z hz))
      rw [← hzp, lookE_mem i1 hzs]
      exact hu
  have hlen := h.len
  have hbyt := h.byt
  rw [List.length_append, List.length_cons] at hlen
  rw [bytesE_append, bytesE_cons] at hbyt
  have hfull : ¬ (4096 ≤ seen.length ∨ 16777216 < bytesE seen + e.d.size) := by omega
  unfold oneNo
  rw [if_neg (by omega)]
  cases hl : seen.getLast? with
  | none =>
    simp only []
    rw [if_neg (by omega), if_neg hfull]
  | some q =>
    have hq := hne q (List.mem_of_getLast? hl)
    simp only []
    rw [if_neg (fun e2 => by rw [e2] at hq; exact compareP_irrefl _ hq), if_neg (by omega), if_neg (by omega), if_neg hfull]
theorem check_good : ∀ (r seen : List Ent), Good (seen ++ r) → checkGo seen r = (0, 0)
  | [], _, _ => rfl
  | e :: r, seen, h => by
    unfold checkGo
    rw [if_neg (by rw [one_of_good h]; exact fun x => x rfl)]
    exact check_good r (seen ++ [e]) (by rw [List.append_assoc]; exact h)
theorem Good.check {l : List Ent} (h : Good l) : checkL l = (0, 0) := check_good l [] h
/-- the list without the entry at a path -/
def butF (p : List UInt8) (x : Ent) : Bool := !(x.path == p)
def butL (l : List Ent) (p : List UInt8) : List Ent := l.filter (butF p)
theorem but_laid : ∀ (l : List Ent) (e : Ent), butL (laidL l e) e.path = butL l e.path
  | [], e => by simp [laidL, butL, butF]
  | a :: r, e => by
    have ih := but_laid r e
    have hb : ∀ (x : Ent) (s : List Ent), butL (x :: s) e.path = if butF e.path x then x :: butL s e.path else butL s e.path := fun x s => by
      unfold butL
      rw [List.filter_cons]
    have he : ∀ s, butL (e :: s) e.path = butL s e.path := fun s => by rw [hb, if_neg (by simp [butF])]
    unfold laidL
    by_cases hc : compareP a.path e.path < 0
    · rw [if_pos hc, hb, hb, ih]
    · rw [if_neg hc]
      by_cases h3 : a.path = e.path
      · rw [if_pos h3, he, hb, if_neg (by simp [butF, h3])]
      · rw [if_neg h3, he]
theorem put_look {l : List Ent} {e : Ent} (h : Good l) : lookE (laidL l e) e.path = some e := by rw [lookE_laid h.inc, if_pos rfl]
theorem Good.put {l : List Ent} (h : Good l) (e : Ent) : Good (putL l e) := by
  unfold putL
  by_cases h0 : putNo l e = 0
  · rw [if_pos h0]; exact h.laid h0
  · rw [if_neg h0]; exact h
theorem take_ok {l : List Ent} {p : List UInt8} (h : takeNo l p = 0) : (withoutL l p).length < l.length := by
  unfold takeNo at h
  by_cases h0 : p = []
  · rw [if_pos h0] at h; cases h
  rw [if_neg h0] at h
  cases hl : lookE l p with
  | none => rw [hl] at h; cases h
  | some x =>
    obtain ⟨hx, hp⟩ := lookE_some hl
    unfold withoutL
    have hk : keepE p x = false := keepE_false.2 (.inl hp)
    obtain ⟨a, b, rfl⟩ := List.append_of_mem hx
    rw [List.filter_append, List.filter_cons, hk, List.length_append, List.length_append, List.length_cons]
    have h1 := List.length_filter_le (keepE p) a
    have h2 := List.length_filter_le (keepE p) b
    simp
    omega
theorem flat_one (l : List Ent) (e : Ent) : (l ++ [e]).flatMap entC = l.flatMap entC ++ entC e := by rw [List.flatMap_append, List.flatMap_singleton]
theorem without_le (l : List Ent) (p : List UInt8) : (withoutL l p).length ≤ l.length := List.length_filter_le _ _
theorem but_le (l : List Ent) (p : List UInt8) : (butL l p).length ≤ l.length := List.length_filter_le _ _
end Go.Proofs.YtdkodedocklmdaaGreatDoor
