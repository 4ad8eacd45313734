/- The contracts of the reference's Cut and Pieces. -/
import Derived.Test.YtfanfkogogijpaaGreatDoorClean
set_option linter.unusedSimpArgs false
set_option linter.unusedVariables false
namespace Go.Proofs.YtfanfkogogijpaaGreatDoor
open Go.RowKit
open Go.Lib hiding intOf

theorem pcs_slash : ∀ {l : List UInt8} {m : Nat}, (∀ j, j < m → ¬ l[j]? = some 47) → l[m]? = some 47 → pcs l = l.take m :: pcs (l.drop (m + 1))
  | [], m, _, h => by simp at h
  | c :: t, 0, _, h => by
    have hc : c = 47 := by simpa using h
    rw [pcs_cons, if_pos hc]
    rfl
  | c :: t, m + 1, hn, h => by
    have hc : ¬ c = 47 := by have := hn 0 (by omega); simpa using this
    have ih := pcs_slash (l := t) (m := m) (fun j hj => by have := hn (j + 1) (by omega); simpa using this) (by simpa using h)
    rw [pcs_cons, if_neg hc, ih]
    rfl
theorem pcs_noslash : ∀ {l : List UInt8}, (∀ j, j < l.length → ¬ l[j]? = some 47) → pcs l = [l]
  | [], _ => rfl
  | c :: t, hn => by
    have hc : ¬ c = 47 := by have := hn 0 (by simp); simpa using this
    have ih := pcs_noslash (l := t) (fun j hj => by have := hn (j + 1) (by simp; omega); simpa using this)
    rw [pcs_cons, if_neg hc, ih]

/-- the slice v holds these texts, in memory of the call's own -/
def Texts (w : World) (base : Nat) (v : Value) (L : List (List UInt8)) : Prop := w.ownsRow base 9 1 v L.length (L.map encS)
theorem texts_snoc {w : World} {base : Nat} {v u : Value} {L : List (List UInt8)} {p : List UInt8} (h : w.ownsRow base 9 1 v (L.length + 1) (L.map encS ++ [u])) (hu : u = encS p) : Texts w base v (L ++ [p]) := by
  unfold Texts
  rw [List.length_append, List.length_singleton, List.map_append, List.map_singleton, ← hu]
  exact h
theorem texts_below {w wr w1 : World} {base : Nat} {v : Value} {L : List (List UInt8)} {tmp : Obj} (h : Texts wr base v L) (hb : Below base w wr) (hg : (wr.alloc tmp).grownBy w1 v.ownBlock) (hB : base ≤ wr.heap.size := by omega) : Below base w w1 :=
  (hb.alloc hB tmp).grown hg (by simp; omega) (fun k e => (World.ownsRow.lt h k e).1)
/-- where the reference's Cut stands -/
def CutAt (l : List UInt8) (f k : Nat) (done : List (List UInt8)) : Prop :=
  (k ≤ l.length → f ≤ k ∧ pcs l = done ++ pcs (l.drop f) ∧ ∀ j, f ≤ j → j < k → ¬ l[j]? = some 47) ∧ (l.length < k → pcs l = done)
theorem CutAt.start (l : List UInt8) : CutAt l 0 0 [] := ⟨fun _ => ⟨Nat.le_refl _, rfl, fun j _ h => absurd h (by omega)⟩, fun h => absurd h (by omega)⟩
theorem CutAt.go {l : List UInt8} {f k : Nat} {done : List (List UInt8)} (h : CutAt l f k done) (hk : k < l.length) (hc : ¬ l[k]? = some 47) : CutAt l f (k + 1) done := by
  obtain ⟨h1, h2, h3⟩ := h.1 (by omega)
  refine ⟨fun _ => ⟨by omega, h2, fun j a b => ?_⟩, fun h => absurd h (by omega)⟩
  rcases (by omega : j < k ∨ j = k) with h4 | rfl
  · exact h3 j a h4
  · exact hc
theorem CutAt.cut {l : List UInt8} {f k : Nat} {done : List (List UInt8)} (h : CutAt l f k done) (hk : k < l.length) (hc : l[k]? = some 47) : CutAt l (k + 1) (k + 1) (done ++ [(l.drop f).take (k - f)]) := by
  obtain ⟨h1, h2, h3⟩ := h.1 (by omega)
  refine ⟨fun _ => ⟨Nat.le_refl _, ?_, fun j a b => absurd b (by omega)⟩, fun h => absurd h (by omega)⟩
  rw [h2, pcs_slash (l := l.drop f) (m := k - f)]
  · rw [List.drop_drop, show f + (k - f + 1) = k + 1 from by omega]
    simp
  · intro j hj
    rw [List.getElem?_drop]
    exact h3 _ (by omega) (by omega)
  · rw [List.getElem?_drop, show f + (k - f) = k from by omega]
    exact hc
theorem CutAt.last {l : List UInt8} {f : Nat} {done : List (List UInt8)} (h : CutAt l f l.length done) : CutAt l (l.length + 1) (l.length + 1) (done ++ [(l.drop f).take (l.length - f)]) := by
  obtain ⟨h1, h2, h3⟩ := h.1 (Nat.le_refl _)
  refine ⟨fun h => absurd h (by omega), fun _ => ?_⟩
  rw [h2, pcs_noslash]
  · rw [List.take_of_length_le (by simp)]
  · intro j hj
    rw [List.getElem?_drop]
    simp at hj
    exact h3 _ (by omega) (by omega)
theorem CutAt.length {l : List UInt8} {f k : Nat} {done : List (List UInt8)} (h : CutAt l f k done) : done.length ≤ l.length + 1 := by
  have := pcs_length l
  rcases Nat.lt_or_ge l.length k with hk | hk
  · rw [h.2 hk] at this; exact this
  · obtain ⟨_, h2, _⟩ := h.1 hk
    rw [h2] at this
    simp at this
    omega
theorem CutAt.le {l : List UInt8} {f k : Nat} {done : List (List UInt8)} (h : CutAt l f k done) (hk : k ≤ l.length) : f ≤ k := (h.1 hk).1

theorem texts_mono {w : World} {base base' : Nat} {v : Value} {L : List (List UInt8)} (h : Texts w base v L) (hb : base' ≤ base) : Texts w base' v L := by
  obtain ⟨h1, h2⟩ := h
  refine ⟨h1, ?_⟩
  rcases h2 with h2 | ⟨g, cap, cur, a, b, c⟩
  · exact .inl h2
  · exact .inr ⟨g, cap, cur, a, by omega, c⟩
theorem texts_form {w : World} {base : Nat} {v : Value} {L : List (List UInt8)} (h : Texts w base v L) (hn : L ≠ []) : ∃ g cap, v = .slice (some ⟨g, 0, none⟩) L.length cap ∧ base ≤ g ∧ g < w.heap.size ∧ ∀ (k : Nat) x, L[k]? = some x → w.cell? ⟨g, k, none⟩ = some (.string (bs x)) := by
  rcases h.2 with ⟨_, h0⟩ | ⟨g, cap, cur, rfl, hb, hg, _⟩
  · exact absurd (List.eq_nil_of_length_eq_zero h0) hn
  · refine ⟨g, cap, rfl, hb, (Array.getElem?_eq_some_iff.1 hg).1, fun k x hx => ?_⟩
    have hlt : k < L.length := (List.getElem?_eq_some_iff.1 hx).1
    have hc := World.ownsRow.cellAt h k (by omega)
    rw [List.getElem?_map, hx] at hc
    exact hc
theorem texts_below_any {w w' : World} {B base : Nat} {v : Value} {L : List (List UInt8)} (h : Texts w base v L) (hb : Below B w w') (hB : w.heap.size ≤ B) : Texts w' base v L := by
  obtain ⟨h1, h2⟩ := h
  refine ⟨h1, ?_⟩
  rcases h2 with h2 | ⟨g, cap, cur, a, b, c, d⟩
  · exact .inl h2
  · exact .inr ⟨g, cap, cur, a, b, (hb.block g (Nat.lt_of_lt_of_le (Array.getElem?_eq_some_iff.1 c).1 hB)).trans c, d⟩

end Go.Proofs.YtfanfkogogijpaaGreatDoor
