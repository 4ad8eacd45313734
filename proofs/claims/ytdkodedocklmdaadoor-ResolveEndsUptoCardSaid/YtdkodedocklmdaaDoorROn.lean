/- The walk of ResolveOn. -/
import Derived.Test.YtdkodedocklmdaaDoorRInside
import Derived.Test.YtdkodedocklmdaaDoorRef
set_option linter.unusedSimpArgs false
set_option linter.unusedVariables false
namespace Go.Proofs.YtdkodedocklmdaaDoor
open Go.RowKit Go.Shelf Go.Maps
open Go.Lib hiding intOf size_eq
theorem cat_list (a b : ByteArray) : (a ++ ⟨#[47]⟩ ++ b).data.toList = a.data.toList ++ 47 :: b.data.toList := by
  rw [ByteArray.data_append, ByteArray.data_append]
  simp
theorem cat_size (a b : ByteArray) : (a ++ ⟨#[47]⟩ ++ b).size = a.size + 1 + b.size := by
  have h := congrArg List.length (cat_list a b)
  rw [← Lib.size_eq, List.length_append, List.length_cons, ← Lib.size_eq, ← Lib.size_eq] at h
  omega
theorem cat_one (a : ByteArray) : (a ++ (⟨#[47]⟩ : ByteArray)).size = a.size + 1 := by
  rw [ByteArray.size_append]
  rfl
set_option maxRecDepth 100000 in
set_option maxHeartbeats 8000000 in
theorem resolveOn_any (v : Value) (L : List Ent) (a b : ByteArray) (last : Bool) (w : World) (h : EntsAt w v L) (hb : Small L) (hl : L.length ≤ 1099511627776) (ha : a.size ≤ 1073741824) (hbs : b.size ≤ 1073741824) (hg : Handle w) :
    Calls Tryd.prog 4 #[v, .agg #[.string a, .string b, .bool last]] w fun r w' => r = .returned (.bool true) ∧ Below w.heap.size w w' := by
  have hB0 : Below w.heap.size w (w.alloc (.cells #[.string a, .string b, .bool last] 35)) := (Below.refl _ _).alloc (Nat.le_refl _) _
  have hcell := World.alloc_heap_new w (.cells #[.string a, .string b, .bool last] 35)
  have x0 : (w.alloc (.cells #[.string a, .string b, .bool last] 35)).cell? ⟨w.heap.size, 0, none⟩ = some (.string a) := by unfold World.cell?; rw [hcell]; rfl
  have x1 : (w.alloc (.cells #[.string a, .string b, .bool last] 35)).cell? ⟨w.heap.size, 1, none⟩ = some (.string b) := by unfold World.cell?; rw [hcell]; rfl
  have x2 : (w.alloc (.cells #[.string a, .string b, .bool last] 35)).cell? ⟨w.heap.size, 2, none⟩ = some (.bool last) := by unfold World.cell?; rw [hcell]; rfl
  obtain ⟨w0, hw0⟩ : ∃ x, x = (w.alloc (.cells #[.string a, .string b, .bool last] 35)) := ⟨_, rfl⟩
  rw [← hw0] at hB0 x0 x1 x2
  have hof := of_any v L w0 (h.below hB0 (Nat.le_refl _)) hb hl
  obtain ⟨o, cap, rfl, _, _, _⟩ := h
  have Hof := Lib.hid hof
  have HG0 := Lib.hid (hg.below hB0 (Nat.le_refl _))
  have HB0 := Lib.hid hB0
  have Hw0 := Lib.hid hw0
  obtain ⟨n, hn⟩ : ∃ n, n = (pieces b.data.toList).length := ⟨_, rfl⟩
  have Hn := Lib.hid hn
  have hs1 := cat_size a b
  have hs2 := cat_one a
  have hs3 := cat_list a b
  have bb1 : ¬ 9223372036854775807 < a.size + 1 := by omega
  have bb2 : ¬ 9223372036854775807 < a.size + 1 + b.size := by omega
  clear hof hg hb hB0 hw0 hcell hn
  go_enter Tryd.func4, Tryd.ntmps4
  go_upto_region 1 with fail
  rw [← Hw0.out]
  by_cases hc0 : (checkL L).1 = 0
  · by_cases hp0 : pieces b.data.toList = []
    · have b0 : ((n : Int) == 0) = true := by rw [Hn.out, hp0]; rfl
      clear hp0
      go_wp2_with (first
        | (go_at_call 6; refine Hof.out.mono ?_; rintro r w1 ⟨h1, _, hb⟩; obtain ⟨T, rt, rm, nd, rfl, ht, he⟩ := h1 hc0
           have HG1 := Lib.hid (HG0.out.below hb (Nat.le_refl _))
           have HT1 := Lib.hid (ht.lower (Nat.zero_le _))
           have He := Lib.hid he
           have HB1 := Lib.hid (HB0.out.trans (hb.mono HB0.out.size))
           clear h1 hb ht he)
        | (go_at_call 11; refine (rpieces_any b _ (by omega)).mono ?_; rintro r w2 ⟨pv, rfl, htx, hb⟩; obtain ⟨po, pc, rfl, _, _⟩ := left_of_texts htx; rw [← Hn.out]
           have HT2 := Lib.hid (HT1.out.below hb (Nat.le_refl _))
           have HB2 := Lib.hid (HB1.out.trans (hb.mono HB1.out.size))
           have HG2 := Lib.hid (HG1.out.below hb (Nat.le_refl _))
           clear hb htx HT1 HB1 HG1)
        | (go_at_call 7; refine (works_any _ HG2.out).mono ?_; rintro r w3 ⟨rfl, hb⟩
           have HB3 := Lib.hid (HB2.out.trans (hb.mono HB2.out.size))
           clear hb HB2 HG2))
      go_ret
      exact ⟨rfl, HB3.out⟩
    · have b0 : ((n : Int) == 0) = false := by have := List.length_pos_iff.2 hp0; rw [← Hn.out] at this; simp; omega
      have Hp0 := Lib.hid hp0
      clear hp0
      go_upto_region 7 with (first
        | (go_at_call 6; refine Hof.out.mono ?_; rintro r w1 ⟨h1, _, hb⟩; obtain ⟨T, rt, rm, nd, rfl, ht, he⟩ := h1 hc0
           have HG1 := Lib.hid (HG0.out.below hb (Nat.le_refl _))
           have HT1 := Lib.hid (ht.lower (Nat.zero_le _))
           have He := Lib.hid he
           have HB1 := Lib.hid (HB0.out.trans (hb.mono HB0.out.size))
           clear h1 hb ht he)
        | (go_at_call 11; refine (rpieces_any b _ (by omega)).mono ?_; rintro r w2 ⟨pv, rfl, htx, hb⟩; obtain ⟨po, pc, rfl, _, _⟩ := left_of_texts htx; rw [← Hn.out]
           have HT2 := Lib.hid (HT1.out.below hb (Nat.le_refl _))
           have HB2 := Lib.hid (HB1.out.trans (hb.mono HB1.out.size))
           have HG2 := Lib.hid (HG1.out.below hb (Nat.le_refl _))
           clear hb htx HT1 HB1 HG1))
      have hgood := check_good HT2.out He.out
      cases hw : wayF L (!last) (a.data.toList ++ 47 :: b.data.toList) with
      | error m =>
        have f1 := fun W hW => find_err (T := T) (rt := rt) (rm := rm) (nd := nd) (a ++ ⟨#[47]⟩ ++ b) last W hW (by rw [hs1]; omega) (n := m) (by rw [He.out, hs3]; exact hw)
        rw [errV_pos (wayF_err hw)] at f1
        have F1 := Lib.hid f1
        clear hw hgood hc0 f1 hs1 hs2 hs3
        go_wp2_with (first
          | (go_at_call 8; refine (F1.out _ HT2.out).mono ?_; rintro r w3 ⟨hb, rfl⟩
             have HT3 := Lib.hid (HT2.out.below hb (Nat.le_refl _))
             have HB3 := Lib.hid (HB2.out.trans (hb.mono HB2.out.size))
             have HG3 := Lib.hid (HG2.out.below hb (Nat.le_refl _))
             clear hb HT2 HB2 HG2 F1)
          | (go_at_call 7; refine (works_any _ HG3.out).mono ?_; rintro r w4 ⟨rfl, hb⟩
             have HB4 := Lib.hid (HB3.out.trans (hb.mono HB3.out.size))
             clear hb HB3 HG3))
        go_ret
        exact ⟨rfl, HB4.out⟩
      | ok z =>
        obtain ⟨q, t⟩ := z
        obtain ⟨p, tA, t', e1, e2⟩ := wayF_on hgood Hp0.out hw
        have hin := wayF_inside hgood e1
        have hpl : p.length ≤ 255 := by
          rcases hin with rfl | ⟨e, hle, _⟩
          · simp
          · exact path_size hgood hle
        have f1 := fun W hW => find_as (T := T) (rt := rt) (rm := rm) (nd := nd) (a ++ ⟨#[47]⟩ ++ b) last W hW (by rw [hs1]; omega) (p := q) (t := t) (by rw [He.out, hs3]; exact hw)
        have f2 := fun W hW => find_as (T := T) (rt := rt) (rm := rm) (nd := nd) a true W hW (by omega) (p := p) (t := tA) (by rw [He.out]; exact e1)
        have f3 := fun W hW => find_as (T := T) (rt := rt) (rm := rm) (nd := nd) (bs p ++ ⟨#[47]⟩ ++ b) last W hW (by rw [cat_size, bs_size]; omega) (p := q) (t := t') (by rw [He.out, cat_list, bs_toList]; exact e2)
        have bb3 : ¬ 9223372036854775807 < p.length + 1 := by omega
        have bb4 : ¬ 9223372036854775807 < p.length + 1 + b.size := by omega
        have F1 := Lib.hid f1
        have F2 := Lib.hid f2
        have F3 := Lib.hid f3
        clear hw hgood hc0 f1 f2 f3 e1 e2 hin hs1 hs2 hs3
        go_wp2_with (first
          | (go_at_call 8; refine (F1.out _ HT2.out).mono ?_; rintro r w3 ⟨hb, rfl⟩
             have HT3 := Lib.hid (HT2.out.below hb (Nat.le_refl _))
             have HB3 := Lib.hid (HB2.out.trans (hb.mono HB2.out.size))
             have HG3 := Lib.hid (HG2.out.below hb (Nat.le_refl _))
             clear hb HT2 HB2 HG2 F1)
          | (go_at_call 8; refine (F2.out _ HT3.out).mono ?_; rintro r w4 ⟨hb, rfl⟩
             have HT4 := Lib.hid (HT3.out.below hb (Nat.le_refl _))
             have HB4 := Lib.hid (HB3.out.trans (hb.mono HB3.out.size))
             have HG4 := Lib.hid (HG3.out.below hb (Nat.le_refl _))
             clear hb HT3 HB3 HG3 F2)
          | (go_at_call 8; refine (F3.out _ HT4.out).mono ?_; rintro r w5 ⟨hb, rfl⟩
             have HT5 := Lib.hid (HT4.out.below hb (Nat.le_refl _))
             have HB5 := Lib.hid (HB4.out.trans (hb.mono HB4.out.size))
             have HG5 := Lib.hid (HG4.out.below hb (Nat.le_refl _))
             clear hb HT4 HB4 HG4 F3)
          | (go_at_call 7; refine (works_any _ HG5.out).mono ?_; rintro r w6 ⟨rfl, hb⟩
             have HB6 := Lib.hid (HB5.out.trans (hb.mono HB5.out.size))
             clear hb HB5 HG5))
        go_ret
        exact ⟨rfl, HB6.out⟩
  · clear hs1 hs2 hs3
    go_wp2_with (first
      | (go_at_call 6; refine Hof.out.mono ?_; rintro r w1 ⟨_, h2, hb⟩; obtain rfl := h2 hc0
         have HG1 := Lib.hid (HG0.out.below hb (Nat.le_refl _))
         have HB1 := Lib.hid (HB0.out.trans (hb.mono HB0.out.size))
         clear h2 hb)
      | (go_at_call 7; refine (works_any _ HG1.out).mono ?_; rintro r w2 ⟨rfl, hb⟩
         have HB2 := Lib.hid (HB1.out.trans (hb.mono HB1.out.size))
         clear hb HB1 HG1))
    go_ret
    exact ⟨rfl, HB2.out⟩
end Go.Proofs.YtdkodedocklmdaaDoor
