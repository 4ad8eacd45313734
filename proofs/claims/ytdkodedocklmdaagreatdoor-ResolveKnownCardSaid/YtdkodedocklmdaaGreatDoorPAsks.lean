/- A call of resolve, and what the reference answers: one law for all four sorts (PAsk, PAsked). -/
import Derived.Test.YtdkodedocklmdaaGreatDoorRSome
import Derived.Test.YtdkodedocklmdaaGreatDoorMWays
import Derived.Test.YtdkodedocklmdaaGreatDoorPGoes
import Derived.Test.YtdkodedocklmdaaGreatDoorQKit
set_option linter.unusedSimpArgs false
set_option linter.unusedVariables false
namespace Go.Proofs.YtdkodedocklmdaaGreatDoor
section
open Go.RowKit Go.Shelf Go.Maps Go.Sort
open Go.Lib hiding intOf size_eq
def makB (x : Except Nat (List UInt8)) : ByteArray := match x with | .error _ => emp | .ok q => bs q
def makN (x : Except Nat (List UInt8)) : Nat := match x with | .error n => n | .ok _ => 0
/-- what a call makes: the tree behind it, the answer, its error -/
def actF (m : Nat) (L : List Ent) (way : List UInt8) : List Ent × ByteArray × Nat :=
  if m = 0 then (L, findB (wayF L false way), findN (wayF L false way)) else if m = 1 then (L, findB (wayF L true way), findN (wayF L true way))
  else if m = 2 then ((makeWay true L way).1, makB (makeWay true L way).2, makN (makeWay true L way).2) else ((makeWay false L way).1, makB (makeWay false L way).2, makN (makeWay false L way).2)
theorem actF_good {m : Nat} {L : List Ent} {way : List UInt8} (h : Good L) : Good (actF m L way).1 := by
  unfold actF
  split
  · exact h
  split
  · exact h
  split
  · exact makeWay_good h
  · exact makeWay_good h
theorem makeF_errs {mk : Bool} {n : Nat} : ∀ (f : Nat) (L : List Ent) (a : List UInt8) (left : List (List UInt8)) (hops : Nat) (md : List (List UInt8)), (makeF mk f L a left hops md).2.2 = .error n → n ≤ 32
  | 0, L, a, left, hops, md, h => by unfold makeF at h; cases h
  | f + 1, L, a, [], hops, md, h => by unfold makeF at h; cases h
  | f + 1, L, a, c :: left, hops, md, h => by
    unfold makeF at h
    by_cases h1 : c = [46]
    · rw [if_pos h1] at h; exact makeF_errs f L a left hops md h
    rw [if_neg h1] at h
    by_cases h2 : c = [46, 46]
    · rw [if_pos h2] at h; exact makeF_errs f L (parent a) left hops md h
    rw [if_neg h2] at h
    cases hl : lookE L (joinP a c) with
    | none =>
      rw [hl] at h
      simp only [] at h
      by_cases h3 : mayNo c (joinP a c) ≠ 0
      · rw [if_pos h3] at h
        injection h with h
        subst h
        unfold mayNo
        split
        · exact nameNo_le c
        · exact checkNo_top _
      rw [if_neg h3] at h
      by_cases h4 : mk = false ∧ left = []
      · rw [if_pos h4] at h; cases h
      rw [if_neg h4] at h
      by_cases h5 : putNo L (dirE (joinP a c)) ≠ 0
      · rw [if_pos h5] at h
        injection h with h
        subst h
        exact putNo_top _ _
      rw [if_neg h5] at h
      exact makeF_errs f _ _ left hops _ h
    | some e =>
      rw [hl] at h
      simp only [] at h
      by_cases k1 : e.k = 1
      · rw [if_pos k1] at h; exact makeF_errs f L _ left hops md h
      rw [if_neg k1] at h
      by_cases k2 : e.k = 2
      · rw [if_pos k2] at h
        split at h
        · injection h with h; omega
        · cases h
      rw [if_neg k2] at h
      by_cases k3 : hops = 40
      · rw [if_pos k3] at h; injection h with h; omega
      rw [if_neg k3] at h
      exact makeF_errs f L _ _ (hops + 1) md h
theorem makN_small {mk : Bool} {L : List Ent} {way : List UInt8} : makN (makeWay mk L way).2 ≤ 32 := by
  unfold makeWay
  have := fun n => makeF_errs (mk := mk) (n := n) (needF (pieces way).length 0) L [] (pieces way) 0 []
  generalize makeF mk (needF (pieces way).length 0) L [] (pieces way) 0 [] = R at *
  obtain ⟨L', md, x⟩ := R
  cases x with
  | error n => exact this n rfl
  | ok q => exact Nat.zero_le _
theorem actF_small {m : Nat} {L : List Ent} {way : List UInt8} : (actF m L way).2.2 ≤ 32 := by
  unfold actF
  split
  · exact findN_small
  split
  · exact findN_small
  split
  · exact makN_small
  · exact makN_small
/-- what Make and Place answer, in one form -/
theorem MakeR.both {mk : Bool} {T rt rm tb : Nat} {nd : List Nd} {way : List UInt8} {w w' : World} {r : Ending} (h : MakeR mk T rt rm tb nd way w r w') :
    r = .returned (.tuple #[.string (makB (makeWay mk (ents nd) way).2), errV (makN (makeWay mk (ents nd) way).2)]) ∧ ∃ nd', ents nd' = (makeWay mk (ents nd) way).1 ∧ TreeAt w' T rt rm tb nd' ∧ Turned T rt rm nd nd' w w' := by
  obtain ⟨h1, h2⟩ := h
  refine ⟨?_, h2⟩
  cases hx : (makeWay mk (ents nd) way).2 with
  | error n => rw [hx] at h1; exact h1
  | ok q => rw [hx] at h1; exact h1
/-- Go of the reference, of all sorts -/
theorem rgo_any (m : Nat) (hm : m < 4) (L : List Ent) (hgood : Good L) (oa : Option Addr) (tc : Nat) (s : ByteArray) (w : World) (hE : EntsAt w (.slice oa L.length tc) L) (hs : s.size ≤ 4294967296) :
    Calls Tryz.prog 41 #[.slice oa L.length tc, .string s, .int .i64 (m : Int)] w fun r w' => Below w.heap.size w w' ∧
      ∃ oa' tc' st lo ln lc hops ro rn rc dn, r = .returned (walkV oa' (actF m L s.data.toList).1.length tc' st lo ln lc hops ro rn rc dn (actF m L s.data.toList).2.1 ((actF m L s.data.toList).2.2 : Int)) ∧
        EntsAt w' (.slice oa' (actF m L s.data.toList).1.length tc') (actF m L s.data.toList).1 ∧ ∀ b, oa' = some b → (actF m L s.data.toList).1 ≠ [] → w.heap.size ≤ b.block ∨ ∃ b0, oa = some b0 ∧ L ≠ [] ∧ b.block = b0.block := by
  have hl := hgood.len
  have hsm : ∀ e ∈ L, e.p.size < 4611686018427387904 := fun e he => by have := (good_small hgood e he).1; omega
  have hfind : ∀ keep : Bool, Calls Tryz.prog 41 #[.slice oa L.length tc, .string s, .int .i64 (sortOf keep)] w fun r w' => Below w.heap.size w w' ∧
      ∃ oa' tc' st lo ln lc hops ro rn rc dn, r = .returned (walkV oa' L.length tc' st lo ln lc hops ro rn rc dn (findB (wayF L keep s.data.toList)) (findN (wayF L keep s.data.toList) : Int)) ∧
        EntsAt w' (.slice oa' L.length tc') L ∧ ∀ b, oa' = some b → L ≠ [] → w.heap.size ≤ b.block ∨ ∃ b0, oa = some b0 ∧ L ≠ [] ∧ b.block = b0.block := fun keep => by
    refine (go_any L hgood keep oa tc s w hE (by omega) hsm hs).mono fun r w' ⟨hb, hr⟩ => ⟨hb, ?_⟩
    have hE2 := hE.below hb (Nat.le_refl _)
    unfold GoRes at hr
    cases hR : wayF L keep s.data.toList with
    | error n =>
      rw [hR] at hr
      obtain ⟨_, rfl⟩ := hr
      exact ⟨oa, tc, _, _, _, _, _, _, _, _, _, rfl, hE2, fun b hb hL => .inr ⟨b, hb, hL, rfl⟩⟩
    | ok x =>
      obtain ⟨p, tr⟩ := x
      rw [hR] at hr
      obtain ⟨st, lo, ln, lc, hops, ro, rc, rfl, _⟩ := hr
      exact ⟨oa, tc, _, _, _, _, _, _, _, _, _, rfl, hE2, fun b hb hL => .inr ⟨b, hb, hL, rfl⟩⟩
  have hmake : ∀ mk : Bool, Calls Tryz.prog 41 #[.slice oa L.length tc, .string s, .int .i64 (sortM mk)] w fun r w' => Below w.heap.size w w' ∧
      ∃ oa' tc' st lo ln lc hops ro rn rc dn, r = .returned (walkV oa' (makeWay mk L s.data.toList).1.length tc' st lo ln lc hops ro rn rc dn (makB (makeWay mk L s.data.toList).2) (makN (makeWay mk L s.data.toList).2 : Int)) ∧
        EntsAt w' (.slice oa' (makeWay mk L s.data.toList).1.length tc') (makeWay mk L s.data.toList).1 ∧ ∀ b, oa' = some b → (makeWay mk L s.data.toList).1 ≠ [] → w.heap.size ≤ b.block ∨ ∃ b0, oa = some b0 ∧ L ≠ [] ∧ b.block = b0.block := fun mk => by
    refine (go_make_any mk L hgood oa tc s w hE hs).mono fun r w' ⟨hb, hr⟩ => ⟨hb, ?_⟩
    have hE2 := hE.below hb (Nat.le_refl _)
    unfold GoMR at hr
    unfold makeWay
    generalize makeF mk (needF (pieces s.data.toList).length 0) L [] (pieces s.data.toList) 0 [] = R at *
    obtain ⟨L', md, x⟩ := R
    cases x with
    | error n =>
      obtain ⟨_, rfl⟩ := hr
      exact ⟨oa, tc, _, _, _, _, _, _, _, _, _, rfl, hE2, fun b hb hL => .inr ⟨b, hb, hL, rfl⟩⟩
    | ok q =>
      obtain ⟨oa', tc', st, lo, ln, lc, hops, ro, rn, rc, rfl, h1, h2⟩ := hr
      exact ⟨oa', tc', _, _, _, _, _, _, _, _, _, rfl, h1, h2⟩
  rcases (by omega : m = 0 ∨ m = 1 ∨ m = 2 ∨ m = 3) with rfl | rfl | rfl | rfl
  · exact hfind false
  · exact hfind true
  · exact hmake true
  · exact hmake false
/-- one number of four -/
theorem pick4 (k : Int) : ∃ m : Nat, m < 4 ∧ ∀ w : World, Calls Tryz.prog 42 #[.int .i64 k, .int .i64 4] w fun e w' => e = .returned (.int .i64 (m : Int)) ∧ w' = w := by
  refine ⟨(k % 4).toNat, by omega, fun w => ?_⟩
  go_enter Tryz.func42, Tryz.ntmps42
  go_wp2
  all_goals go_ret
  all_goals
    refine ⟨?_, rfl⟩
    have ht := Int.tmod_eq_emod (a := k) (b := 4)
    have h1 := Int.emod_nonneg k (show (4 : Int) ≠ 0 by decide)
    have h2 := Int.emod_lt_of_pos k (show (0 : Int) < 4 by decide)
  · have hv : k.tmod 4 + 4 = k % 4 := by
      split at ht
      · omega
      · simp at ht; omega
    rw [hv, show wrap64 (k % 4) = k % 4 from by unfold wrap64; omega]
    show Ending.returned (Value.int IntKind.i64 (k % 4)) = _
    rw [Int.toNat_of_nonneg h1]
  · have hv : k.tmod 4 = k % 4 := by
      split at ht
      · omega
      · simp at ht; omega
    rw [hv]
    show Ending.returned (Value.int IntKind.i64 (k % 4)) = _
    rw [Int.toNat_of_nonneg h1]
/-- what a call answers -/
def AskR (m : Nat) (T rt rm tb : Nat) (nd : List Nd) (way : List UInt8) (w : World) (r : Ending) (w' : World) : Prop :=
  r = .returned (.tuple #[.string (actF m (ents nd) way).2.1, errV (actF m (ents nd) way).2.2]) ∧ ∃ nd', ents nd' = (actF m (ents nd) way).1 ∧ TreeAt w' T rt rm tb nd' ∧ Turned T rt rm nd nd' w w'
end
section
open Go.RowKit Go.Shelf Go.Maps Go.Sort
open Go.Lib hiding intOf size_eq
set_option maxRecDepth 100000 in
set_option maxHeartbeats 4000000 in
theorem asked_any {T rt rm tb : Nat} {nd : List Nd} (k : Int) (s : ByteArray) (m : Nat) (hm : m < 4) (hp : ∀ w : World, Calls Tryz.prog 42 #[.int .i64 k, .int .i64 4] w fun e w' => e = .returned (.int .i64 (m : Int)) ∧ w' = w)
    (w : World) (ht : TreeAt w T rt rm tb nd) (hs : s.size ≤ 4294967296) :
    Calls Tryz.prog 43 #[.pointer (some ⟨T, 0, none⟩), .agg #[.int .i64 k, .string s]] w (AskR m T rt rm tb nd s.data.toList w) := by
  have key : ∀ (R : Ending → World → Prop), (∀ ab av nd' w', ents nd' = (actF m (ents nd) s.data.toList).1 → TreeAt w' T rt rm tb nd' → Turned T rt rm nd nd' w w' → ab = (actF m (ents nd) s.data.toList).2.1 → av = errV (actF m (ents nd) s.data.toList).2.2 → R (.returned (.tuple #[.string ab, av])) w') → Calls Tryz.prog 43 #[.pointer (some ⟨T, 0, none⟩), .agg #[.int .i64 k, .string s]] w R := by
    intro R hR
    have HR := Lib.hid hR
    have Hp := Lib.hid hp
    have Ht := Lib.hid ht
    obtain ⟨w0, hw0⟩ : ∃ x, x = w.alloc (.cells #[.int .i64 k, .string s] 83) := ⟨_, rfl⟩
    have hb0 : Below w.heap.size w w0 := by rw [hw0]; exact (Below.refl _ _).alloc (Nat.le_refl _) _
    have Ht0 := Lib.hid (ht.below hb0 (Nat.le_refl _))
    have Hb0 := Lib.hid hb0
    have HW0 := Lib.hid hw0
    have x0 : w0.cell? ⟨w.heap.size, 0, none⟩ = some (.int .i64 k) := by rw [hw0]; unfold World.cell?; rw [World.alloc_heap_new]; rfl
    have x1 : w0.cell? ⟨w.heap.size, 1, none⟩ = some (.string s) := by rw [hw0]; unfold World.cell?; rw [World.alloc_heap_new]; rfl
    clear hR hp ht hb0 hw0
    have HF := Lib.hid (fun last : Bool => (find_both s last w0 (Ht0.out.lower (Nat.zero_le _)) hs).mono (R' := fun r w' => ∃ ab av, r = .returned (.tuple #[.string ab, av]) ∧ ab = findB (wayF (ents nd) (!last) s.data.toList) ∧ av = errV (findN (wayF (ents nd) (!last) s.data.toList)) ∧ Below w0.heap.size w0 w') (fun r w' ⟨h1, h2⟩ => ⟨_, _, h2, rfl, rfl, h1⟩))
    have HM := Lib.hid ((make_way s w0 Ht0.out hs).mono (R' := fun r w' => ∃ ab av, r = .returned (.tuple #[.string ab, av]) ∧ ab = makB (makeWay true (ents nd) s.data.toList).2 ∧ av = errV (makN (makeWay true (ents nd) s.data.toList).2) ∧ ∃ nd', ents nd' = (makeWay true (ents nd) s.data.toList).1 ∧ TreeAt w' T rt rm tb nd' ∧ Turned T rt rm nd nd' w0 w') (fun r w' h => ⟨_, _, h.both.1, rfl, rfl, h.both.2⟩))
    have HP := Lib.hid ((place_way s w0 Ht0.out hs).mono (R' := fun r w' => ∃ ab av, r = .returned (.tuple #[.string ab, av]) ∧ ab = makB (makeWay false (ents nd) s.data.toList).2 ∧ av = errV (makN (makeWay false (ents nd) s.data.toList).2) ∧ ∃ nd', ents nd' = (makeWay false (ents nd) s.data.toList).1 ∧ TreeAt w' T rt rm tb nd' ∧ Turned T rt rm nd nd' w0 w') (fun r w' h => ⟨_, _, h.both.1, rfl, rfl, h.both.2⟩))
    rcases (by omega : m = 0 ∨ m = 1 ∨ m = 2 ∨ m = 3) with rfl | rfl | rfl | rfl
    · go_enter Tryz.func43, Tryz.ntmps43
      go_upto_region 1 with fail
      rw [← HW0.out]
      go_wp2_with (first
        | (go_at_call 42; refine (Hp.out w0).mono ?_; rintro r w1 ⟨rfl, rfl⟩)
        | (go_at_call 35; refine (HF.out true).mono ?_; rintro r w2 ⟨ab, av, rfl, ha, hv, hb⟩; have Ha := Lib.hid ha; have Hv := Lib.hid hv; have HB := Lib.hid hb; clear ha hv hb))
      exact HR.out _ _ nd _ rfl (Ht0.out.below HB.out (Nat.le_refl _)) (Turned.of_below (Hb0.out.trans (HB.out.mono Hb0.out.size))) Ha.out Hv.out
    · go_enter Tryz.func43, Tryz.ntmps43
      go_upto_region 1 with fail
      rw [← HW0.out]
      go_wp2_with (first
        | (go_at_call 42; refine (Hp.out w0).mono ?_; rintro r w1 ⟨rfl, rfl⟩)
        | (go_at_call 35; refine (HF.out false).mono ?_; rintro r w2 ⟨ab, av, rfl, ha, hv, hb⟩; have Ha := Lib.hid ha; have Hv := Lib.hid hv; have HB := Lib.hid hb; clear ha hv hb))
      exact HR.out _ _ nd _ rfl (Ht0.out.below HB.out (Nat.le_refl _)) (Turned.of_below (Hb0.out.trans (HB.out.mono Hb0.out.size))) Ha.out Hv.out
    · go_enter Tryz.func43, Tryz.ntmps43
      go_upto_region 1 with fail
      rw [← HW0.out]
      go_wp2_with (first
        | (go_at_call 42; refine (Hp.out w0).mono ?_; rintro r w1 ⟨rfl, rfl⟩)
        | (go_at_call 44; refine HM.out.mono ?_; rintro r w2 ⟨ab, av, rfl, ha, hv, nd2, he2, ht2, hx2⟩; have Ha := Lib.hid ha; have Hv := Lib.hid hv; have He2 := Lib.hid he2; have HT2 := Lib.hid ht2; have HX2 := Lib.hid hx2; clear ha hv he2 ht2 hx2))
      exact HR.out _ _ nd2 _ He2.out HT2.out (Turned.pre Hb0.out HX2.out) Ha.out Hv.out
    · go_enter Tryz.func43, Tryz.ntmps43
      go_upto_region 1 with fail
      rw [← HW0.out]
      go_wp2_with (first
        | (go_at_call 42; refine (Hp.out w0).mono ?_; rintro r w1 ⟨rfl, rfl⟩)
        | (go_at_call 47; refine HP.out.mono ?_; rintro r w2 ⟨ab, av, rfl, ha, hv, nd2, he2, ht2, hx2⟩; have Ha := Lib.hid ha; have Hv := Lib.hid hv; have He2 := Lib.hid he2; have HT2 := Lib.hid ht2; have HX2 := Lib.hid hx2; clear ha hv he2 ht2 hx2))
      exact HR.out _ _ nd2 _ He2.out HT2.out (Turned.pre Hb0.out HX2.out) Ha.out Hv.out
  exact key _ fun ab av nd' w' h1 h2 h3 h4 h5 => ⟨by rw [h4, h5], nd', h1, h2, h3⟩
end
end Go.Proofs.YtdkodedocklmdaaGreatDoor
