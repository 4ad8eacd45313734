/- strings.IndexRune, strings.IndexAny and strings.ContainsAny at the two characters zero and slash: of every text, whether it holds one. -/
import Derived.Test.YtebniijkhjnbdaaShelf
import Derived.Test.YtebniijkhjnbdaaUtf
import Derived.Test.YtebniijkhjnbdaaKit
import Derived.WalkMore
set_option linter.unusedSimpArgs false
set_option linter.unusedVariables false
namespace Go.Proofs.Ytebniijkhjnbdaa
open Go.RowKit Go.Lib
attribute [local go_sem] ba_get

/-- is what IndexAny answers not below 0 just where the text holds a bad byte? -/
def Found (s : ByteArray) (w : World) (e : Ending) (w' : World) : Prop := ∃ v : Int, e = .returned (.int .i64 v) ∧ decide (0 ≤ v) = s.data.toList.any bad ∧ Below w.heap.size w w'

theorem contains_bad (x : UInt8) : [0, 47].contains x = bad x := by
  unfold bad
  simp only [List.contains, List.elem]
  cases x == 0 <;> cases x == 47 <;> rfl
theorem any_contains (s : List UInt8) : Lib.containsAny s [0, 47] = s.any bad := by
  unfold Lib.containsAny
  by_cases h : s.any bad = true
  · rw [h]
    have key : ∀ l : List UInt8, l.any bad = true → 0 ≤ Lib.indexAny l [0, 47] := by
      intro l hl
      obtain ⟨x, hx, hb⟩ := List.any_eq_true.1 hl
      obtain ⟨i, hi, hxi⟩ := List.getElem_of_mem hx
      by_cases hn : Lib.NoAny l [0, 47] l.length
      · have := hn i x hi (by rw [List.getElem?_eq_getElem hi, hxi])
        rw [contains_bad, hb] at this
        cases this
      · have hge := Lib.indexAny_ge [0, 47] l
        rcases Int.lt_or_le (Lib.indexAny l [0, 47]) 0 with hlt | hge0
        · exfalso
          apply hn
          have hm : Lib.indexAny l [0, 47] = -1 := by omega
          clear hlt hge hn hx hxi hi hb hl i x
          induction l with
          | nil => intro j b hj; simp at hj
          | cons a t ih =>
            by_cases ha : [0, 47].contains a = true
            · rw [Lib.indexAny_hit (i := 0) (x := a) (Lib.NoAny.zero _ _) rfl ha] at hm
              simp at hm
            · have ha : [0, 47].contains a = false := by simpa using ha
              unfold Lib.indexAny at hm
              rw [ha] at hm
              have ht : Lib.indexAny t [0, 47] = -1 := by
                have := Lib.indexAny_ge [0, 47] t
                revert hm
                simp only [Bool.false_eq_true, if_false]
                split
                · rename_i h1; intro _; simpa using h1
                · intro h2; omega
              intro j b hj hb
              cases j with
              | zero => simp at hb; subst hb; exact ha
              | succ j => exact ih ht j b (by simpa using hj) (by simpa using hb)
        · exact hge0
    exact decide_eq_true (key s h)
  · have h : s.any bad = false := by simpa using h
    rw [h, Lib.indexAny_none]
    · rfl
    · intro j b hj hb
      rw [contains_bad]
      exact Bool.eq_false_iff.2 (fun hc => by rw [List.any_eq_true.2 ⟨b, List.mem_of_getElem? hb, hc⟩] at h; cases h)

theorem sl_ascii : ∀ (j : Nat) b, (⟨#[0, 47]⟩ : ByteArray).data.toList[j]? = some b → b.toNat < 128 := by
  intro j b h
  have hm := List.mem_of_getElem? h
  simp at hm
  rcases hm with rfl | rfl <;> decide
end Go.Proofs.Ytebniijkhjnbdaa
