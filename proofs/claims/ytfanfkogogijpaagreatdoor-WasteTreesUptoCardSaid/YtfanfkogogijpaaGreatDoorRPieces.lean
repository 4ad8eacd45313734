/- The contract of resolve.pieces. -/
import Derived.Test.YtfanfkogogijpaaGreatDoorRef
set_option linter.unusedSimpArgs false
set_option linter.unusedVariables false
namespace Go.Proofs.YtfanfkogogijpaaGreatDoor
open Go.RowKit Go.Shelf
open Go.Lib hiding intOf
attribute [local go_sem] Oper.semAt_some
theorem texts_putObj {W : World} {base D : Nat} {v : Value} {L : List (List UInt8)} (h : Texts W base v L) {o : Obj} (o' : Obj) (hD : W.heap[D]? = some o) (ho : o.isCells = false) : Texts (W.putObj D o') base v L := by
  obtain ⟨h1, h2⟩ := h
  refine ⟨h1, ?_⟩
  rcases h2 with h2 | ⟨g, cap, cur, a, b, c, d⟩
  · exact .inl h2
  · refine .inr ⟨g, cap, cur, a, b, ?_, d⟩
    rw [World.putObj_heap_other]
    · exact c
    · rintro rfl
      rw [hD] at c
      injection c with c
      subst c
      cases ho
end Go.Proofs.YtfanfkogogijpaaGreatDoor
