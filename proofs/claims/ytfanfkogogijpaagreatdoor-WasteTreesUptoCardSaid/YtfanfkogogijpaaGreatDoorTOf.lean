/- The contracts of the tree's Of and of the copy of entries that the statements make. -/
import Derived.Test.YtfanfkogogijpaaGreatDoorTBuild
import Derived.Test.YtfanfkogogijpaaGreatDoorRPieces
set_option linter.unusedSimpArgs false
set_option linter.unusedVariables false
namespace Go.Proofs.YtfanfkogogijpaaGreatDoor
open Go.RowKit Go.Maps
open Go.Lib hiding intOf size_eq
theorem Tryz.infoEntry : (Tryz.prog.info? 33).map (fun i => (i.zero, i.size, i.bytes)) = some (some (.agg #[.string ⟨#[]⟩, .int .i64 0, .int .i64 0, .string ⟨#[]⟩, .string ⟨#[]⟩]), 5, 64) := by kernel_rfl
theorem flat_get : ∀ {L : List Ent} {i j : Nat} {e : Ent} {x : Value}, L[i]? = some e → (entC e)[j]? = some x → (L.flatMap entC)[i * 5 + j]? = some x
  | [], i, j, e, x, h, _ => by simp at h
  | y :: L, 0, j, e, x, h, hx => by
    simp at h
    subst h
    have hj : j < (entC y).length := (List.getElem?_eq_some_iff.1 hx).1
    rw [List.flatMap_cons, List.getElem?_append_left (by simpa using hj)]
    simpa using hx
  | y :: L, i + 1, j, e, x, h, hx => by
    rw [List.flatMap_cons, List.getElem?_append_right (by simp [entC]; omega)]
    have := flat_get (L := L) (i := i) (by simpa using h) hx
    rw [← this]
    congr 1
    simp [entC]
    omega
theorem flat_len (L : List Ent) : (L.flatMap entC).length = L.length * 5 := by
  induction L with
  | nil => rfl
  | cons e L ih => rw [List.flatMap_cons, List.length_append, ih]; simp [entC]; omega
theorem ents_of_row {w : World} {base : Nat} {v : Value} {L : List Ent} (h : w.ownsRow base 33 5 v L.length (L.flatMap entC)) : EntsAt w v L := by
  obtain ⟨h1, h2⟩ := h
  rcases h2 with ⟨rfl, h0⟩ | ⟨g, cap, cur, rfl, hb, hg, hcap, hmx, hsz, htk⟩
  · obtain rfl : L = [] := List.eq_nil_of_length_eq_zero h0
    exact ⟨none, 0, rfl, Nat.le_refl _, by simp, fun i e he => by simp at he⟩
  · refine ⟨some ⟨g, 0, none⟩, cap, rfl, hcap, hmx, fun i e he => ⟨_, rfl, (Array.getElem?_eq_some_iff.1 hg).1, fun j x hx => ?_⟩⟩
    have hi : i < L.length := (List.getElem?_eq_some_iff.1 he).1
    have hj : j < 5 := by simpa [entC] using (List.getElem?_eq_some_iff.1 hx).1
    have e1 : ((⟨g, 0, none⟩ : Addr).add (i * 5)).add j = ⟨g, i * 5 + j, none⟩ := by
      unfold Addr.add
      split <;> split <;> simp_all
    rw [e1]
    have h3 := flat_get he hx
    rw [← htk, List.getElem?_take, if_pos (by omega)] at h3
    unfold World.cell?
    rw [hg]
    simpa using h3
end Go.Proofs.YtfanfkogogijpaaGreatDoor
