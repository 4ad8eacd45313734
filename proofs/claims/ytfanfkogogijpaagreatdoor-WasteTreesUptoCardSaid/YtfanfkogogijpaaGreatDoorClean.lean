/- The contract of path.Clean. -/
import Derived.Test.YtfanfkogogijpaaGreatDoorIter
import Derived.Test.YtfanfkogogijpaaGreatDoorName
import Derived.Test.YtfanfkogogijpaaGreatDoorWeight
import Derived.RangeFuncBox
import Derived.Maps.AppendAt
import Derived.WalkSmall
import Derived.Laws.OwnMore
set_option linter.unusedSimpArgs false
set_option linter.unusedVariables false
namespace Go.Proofs.YtfanfkogogijpaaGreatDoor
open Go.RowKit Go.Shelf
open Go.Lib hiding intOf
attribute [local go_sem] Oper.semAt_some

def encS (p : List UInt8) : Value := .string (bs p)

theorem Tryz.infoString : (Tryz.prog.info? 9).map (fun i => (i.zero, i.size, i.bytes)) = some (some (.string ⟨#[]⟩), 1, 16) := by kernel_rfl

theorem keepsT_appended {T : TypeId} {W w1 : World} {n₀ B : Nat} {t e : TypeId} {size : Nat} {v v' : Value} {k : Nat} {xs : List Value} {tmp : Obj}
    (hT : t ≠ T) (hE : e ≠ T) (hrow : W.ownsRow n₀ e size v k xs) (hgrow : (W.alloc tmp).grownBy w1 v.ownBlock) (hv1 : Boxed w1 B t v) : KeepsT T W (w1.setCell ⟨B, 0, none⟩ v') := by
  refine ((KeepsT.alloc W tmp).trans (KeepsT.grown hgrow fun g cs fz eg hg => ?_)).trans (KeepsT.setCell _ fun cs fz hb => ?_)
  · rcases (hrow.alloc tmp).2 with ⟨rfl, _⟩ | ⟨g', cap, cur, rfl, _, hgb, _⟩
    · simp [Value.ownBlock] at eg
    · obtain rfl : g' = g := by simpa [Value.ownBlock] using eg
      rw [hgb] at hg; injection hg with hg; injection hg with _ h2; exact hE h2
  · have : w1.heap[B]? = some (.cells #[v] t (0, 0)) := hv1
    rw [this] at hb
    injection hb with hb
    injection hb with _ h2
    exact hT h2

theorem box_ne {W : World} {B : Nat} {t T : TypeId} {v : Value} {cs : Array Value} {fz : Nat × Nat} (h : Boxed W B t v) (ht : t ≠ T) (hc : W.heap[B]? = some (.cells cs T fz)) : False := by
  have h' : W.heap[B]? = some (.cells #[v] t (0, 0)) := h
  rw [h'] at hc
  injection hc with hc
  injection hc with _ h2
  exact ht h2
theorem own_pop {W : World} {base : Nat} {e : TypeId} {g n cap : Nat} {xs : List Value} (h : W.ownsRow base e 1 (.slice (some ⟨g, 0, none⟩) n cap) n xs) : W.ownsRow base e 1 (.slice (some ⟨g, 0, none⟩) (n - 1) cap) (n - 1) xs.dropLast := by
  rcases List.eq_nil_or_concat xs with rfl | ⟨i, x, rfl⟩
  · have h1 := h.1
    simp at h1
    subst h1
    exact h
  · rw [List.concat_eq_append] at h ⊢
    have h1 := h.1
    simp at h1
    subst h1
    rw [List.dropLast_concat]
    exact ownsRow_pop (by simp) h
end Go.Proofs.YtfanfkogogijpaaGreatDoor
