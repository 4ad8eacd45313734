/- The walk of ResolveInside. -/
import Derived.Test.YtdkodedocklmdaaDoorRWorks
set_option linter.unusedSimpArgs false
set_option linter.unusedVariables false
namespace Go.Proofs.YtdkodedocklmdaaDoor
open Go.RowKit Go.Shelf Go.Maps
open Go.Lib hiding intOf size_eq
theorem find_as {T rt rm : Nat} {nd : List Nd} (s : ByteArray) (last : Bool) (w : World) (ht : TreeAt w T rt rm 0 nd) (hs : s.size ≤ 4294967296) {p : List UInt8} {t : List (List UInt8)} (h : wayF (ents nd) (!last) s.data.toList = .ok (p, t)) :
    Calls Tryd.prog 8 #[.pointer (some ⟨T, 0, none⟩), .string s, .bool last] w fun r w' => Below w.heap.size w w' ∧ r = .returned (.tuple #[.string (bs p), .nilIface]) := by
  refine (find_way s last w ht hs).mono fun r w' hr => ?_
  unfold FindR at hr
  rw [h] at hr
  exact hr
theorem find_err {T rt rm : Nat} {nd : List Nd} (s : ByteArray) (last : Bool) (w : World) (ht : TreeAt w T rt rm 0 nd) (hs : s.size ≤ 4294967296) {n : Nat} (h : wayF (ents nd) (!last) s.data.toList = .error n) :
    Calls Tryd.prog 8 #[.pointer (some ⟨T, 0, none⟩), .string s, .bool last] w fun r w' => Below w.heap.size w w' ∧ r = .returned (.tuple #[.string ⟨#[]⟩, errV n]) := by
  refine (find_way s last w ht hs).mono fun r w' hr => ?_
  unfold FindR at hr
  rw [h] at hr
  exact hr
theorem find_some {T rt rm : Nat} {nd : List Nd} (s : ByteArray) (last : Bool) (w : World) (ht : TreeAt w T rt rm 0 nd) (hs : s.size ≤ 4294967296) :
    Calls Tryd.prog 8 #[.pointer (some ⟨T, 0, none⟩), .string s, .bool last] w fun r w' => Below w.heap.size w w' ∧ ∃ x f, r = .returned (.tuple #[.string x, f]) := by
  refine (find_way s last w ht hs).mono fun r w' hr => ?_
  unfold FindR at hr
  cases h : wayF (ents nd) (!last) s.data.toList with
  | error n => rw [h] at hr; exact ⟨hr.1, _, _, hr.2⟩
  | ok z => rw [h] at hr; exact ⟨hr.1, _, _, hr.2⟩
theorem kind_as {T rt rm : Nat} {nd : List Nd} (p : ByteArray) (w : World) (ht : TreeAt w T rt rm 0 nd) (hp : p.size < 4611686018427387904) :
    Calls Tryd.prog 10 #[.pointer (some ⟨T, 0, none⟩), .string p] w fun r w' => Below w.heap.size w w' ∧ r = .returned (.int .i64 (kindL (ents nd) p.data.toList)) :=
  (kind_any p w ht hp).mono fun _ _ h => ⟨h.2, h.1⟩
theorem check_good {L : List Ent} {w : World} {T rt rm : Nat} {nd : List Nd} (ht : TreeAt w T rt rm 0 nd) (he : ents nd = L) : Good L := he ▸ ht.good
theorem wayF_errs {L : List Ent} {keep : Bool} {way : List UInt8} {n : Nat} (h : wayF L keep way = .error n) : n = 10 ∨ n = 13 ∨ n = 12 := runF_errs _ _ _ _ _ _ h
theorem wayF_inside {L : List Ent} (hL : Good L) {keep : Bool} {way p : List UInt8} {t : List (List UInt8)} (h : wayF L keep way = .ok (p, t)) : p = [] ∨ ∃ e, lookE L p = some e ∧ (e.k = 1 ∨ e.k = 2 ∨ (keep = true ∧ e.k = 3)) := runF_inside hL _ _ _ _ _ _ _ (.inl rfl) h
theorem kind_root {L : List Ent} (hL : Good L) : kindL L [] = 0 := by
  unfold kindL
  cases h : lookE L [] with
  | none => rfl
  | some e => exact absurd rfl (good_neat hL h).ne
set_option maxRecDepth 100000 in
set_option maxHeartbeats 8000000 in
theorem resolveInside_any (v : Value) (L : List Ent) (s : ByteArray) (last : Bool) (w : World) (h : EntsAt w v L) (hb : Small L) (hl : L.length ≤ 1099511627776) (hs : s.size ≤ 4294967296) (hg : Handle w) :
    Calls Tryd.prog 3 #[v, .string s, .bool last] w fun r w' => r = .returned (.bool true) ∧ Below w.heap.size w w' := by
  have hof := of_any v L w h hb hl
  obtain ⟨o, cap, rfl, _, _, _⟩ := h
  have Hof := Lib.hid hof
  have Hg := Lib.hid hg
  clear hof hg hb
  by_cases hc0 : (checkL L).1 = 0
  · go_enter Tryd.func3, Tryd.ntmps3
    go_upto_region 4 with (first
      | (go_at_call 6; refine Hof.out.mono ?_; rintro r w1 ⟨h1, _, hb⟩; obtain ⟨T, rt, rm, nd, rfl, ht, he⟩ := h1 hc0
         have HG1 := Lib.hid (Hg.out.below hb (Nat.le_refl _))
         have HT1 := Lib.hid (ht.lower (Nat.zero_le _))
         have He := Lib.hid he
         have HB1 := Lib.hid hb
         clear h1 hb ht he))
    have hgood := check_good HT1.out He.out
    cases hw : wayF L (!last) s.data.toList with
    | error n =>
      have f1 := fun W hW => find_err (T := T) (rt := rt) (rm := rm) (nd := nd) s last W hW hs (n := n) (by rw [He.out]; exact hw)
      have hn := wayF_errs hw
      clear hw hgood hc0
      rcases hn with rfl | rfl | rfl
      · skip
        have hnum := fun W => num_num 10 W (by decide) (by decide)
        have Hnum := Lib.hid hnum
        rw [show errV 10 = .iface 56 (.int .i64 10) from rfl] at f1
        have F1 := Lib.hid f1
        clear hnum f1
        go_wp2_with (first
          | (go_at_call 8; refine (F1.out _ HT1.out).mono ?_; rintro r w2 ⟨hb, rfl⟩
             have HT2 := Lib.hid (HT1.out.below hb (Nat.le_refl _))
             have HB2 := Lib.hid (HB1.out.trans (hb.mono HB1.out.size))
             have HG2 := Lib.hid (HG1.out.below hb (Nat.le_refl _))
             clear hb HT1 HB1 HG1 F1)
          | (go_at_call 9; refine (Hnum.out _).mono ?_; rintro r w9 ⟨rfl, rfl⟩)
          | (go_at_call 7; refine (works_any _ HG2.out).mono ?_; rintro r w3 ⟨rfl, hb⟩
             have HB3 := Lib.hid (HB2.out.trans (hb.mono HB2.out.size))
             clear hb HB2 HG2))
        go_ret
        exact ⟨rfl, HB3.out⟩

      · skip
        have hnum := fun W => num_num 13 W (by decide) (by decide)
        have Hnum := Lib.hid hnum
        rw [show errV 13 = .iface 56 (.int .i64 13) from rfl] at f1
        have F1 := Lib.hid f1
        clear hnum f1
        go_wp2_with (first
          | (go_at_call 8; refine (F1.out _ HT1.out).mono ?_; rintro r w2 ⟨hb, rfl⟩
             have HT2 := Lib.hid (HT1.out.below hb (Nat.le_refl _))
             have HB2 := Lib.hid (HB1.out.trans (hb.mono HB1.out.size))
             have HG2 := Lib.hid (HG1.out.below hb (Nat.le_refl _))
             clear hb HT1 HB1 HG1 F1)
          | (go_at_call 9; refine (Hnum.out _).mono ?_; rintro r w9 ⟨rfl, rfl⟩)
          | (go_at_call 7; refine (works_any _ HG2.out).mono ?_; rintro r w3 ⟨rfl, hb⟩
             have HB3 := Lib.hid (HB2.out.trans (hb.mono HB2.out.size))
             clear hb HB2 HG2))
        go_ret
        exact ⟨rfl, HB3.out⟩

      · skip
        have hnum := fun W => num_num 12 W (by decide) (by decide)
        have Hnum := Lib.hid hnum
        rw [show errV 12 = .iface 56 (.int .i64 12) from rfl] at f1
        have F1 := Lib.hid f1
        clear hnum f1
        go_wp2_with (first
          | (go_at_call 8; refine (F1.out _ HT1.out).mono ?_; rintro r w2 ⟨hb, rfl⟩
             have HT2 := Lib.hid (HT1.out.below hb (Nat.le_refl _))
             have HB2 := Lib.hid (HB1.out.trans (hb.mono HB1.out.size))
             have HG2 := Lib.hid (HG1.out.below hb (Nat.le_refl _))
             clear hb HT1 HB1 HG1 F1)
          | (go_at_call 9; refine (Hnum.out _).mono ?_; rintro r w9 ⟨rfl, rfl⟩)
          | (go_at_call 7; refine (works_any _ HG2.out).mono ?_; rintro r w3 ⟨rfl, hb⟩
             have HB3 := Lib.hid (HB2.out.trans (hb.mono HB2.out.size))
             clear hb HB2 HG2))
        go_ret
        exact ⟨rfl, HB3.out⟩

    | ok z =>
      obtain ⟨p, t⟩ := z
      have f1 := fun W hW => find_as (T := T) (rt := rt) (rm := rm) (nd := nd) s last W hW hs (p := p) (t := t) (by rw [He.out]; exact hw)
      have hin := wayF_inside hgood hw
      clear hw hc0
      rcases hin with hp | ⟨e, hle, hke⟩
      · have hpl : p.length ≤ 255 := by rw [hp]; simp
        have e0 : (bs p).toList.isEmpty = true := emptyB_t (by rw [bs_toList]; exact hp)
        obtain ⟨t2, e2⟩ := wayF_self hgood (keep := true) (p := p) (.inl hp)
        have hk : kindL L p = 0 := by rw [hp]; exact kind_root hgood
        obtain ⟨t3, e3⟩ := wayF_self hgood (keep := false) (p := p) (.inl hp)
        have f3 := fun W hW => find_as (T := T) (rt := rt) (rm := rm) (nd := nd) (bs p) true W hW (by rw [bs_size]; omega) (p := p) (t := t3) (by rw [bs_toList, He.out]; exact e3)
        clear e3
        have f2 := fun W hW => find_as (T := T) (rt := rt) (rm := rm) (nd := nd) (bs p) false W hW (by rw [bs_size]; omega) (p := p) (t := t2) (by rw [bs_toList, He.out]; exact e2)
        have fk := fun W (hW : TreeAt W T rt rm 0 nd) => kind_as (bs p) W hW (by rw [bs_size]; omega)
        rw [bs_toList, He.out, hk] at fk

        have F1 := Lib.hid f1
        have F2 := Lib.hid f2
        have F3 := Lib.hid f3
        have Fk := Lib.hid fk
        clear f1 f2 f3 fk e2
        clear hp hk hgood
        cases last with
        | false =>
          go_wp2_with (first
            | (go_at_call 8; refine (F1.out _ HT1.out).mono ?_; rintro r w2 ⟨hb, rfl⟩
               have HT2 := Lib.hid (HT1.out.below hb (Nat.le_refl _))
               have HB2 := Lib.hid (HB1.out.trans (hb.mono HB1.out.size))
               have HG2 := Lib.hid (HG1.out.below hb (Nat.le_refl _))
               clear hb HT1 HB1 HG1 F1)
            | (go_at_call 10; refine (Fk.out _ HT2.out).mono ?_; rintro r w3 ⟨hb, rfl⟩
               have HT3 := Lib.hid (HT2.out.below hb (Nat.le_refl _))
               have HB3 := Lib.hid (HB2.out.trans (hb.mono HB2.out.size))
               have HG3 := Lib.hid (HG2.out.below hb (Nat.le_refl _))
               clear hb HT2 HB2 HG2 Fk)
            | (go_at_call 8; refine (F2.out _ HT3.out).mono ?_; rintro r w4 ⟨hb, rfl⟩
               have HT4 := Lib.hid (HT3.out.below hb (Nat.le_refl _))
               have HB4 := Lib.hid (HB3.out.trans (hb.mono HB3.out.size))
               have HG4 := Lib.hid (HG3.out.below hb (Nat.le_refl _))
               clear hb HT3 HB3 HG3 F2)
            | (go_at_call 8; refine (F3.out _ HT4.out).mono ?_; rintro r w5 ⟨hb, rfl⟩
               have HT5 := Lib.hid (HT4.out.below hb (Nat.le_refl _))
               have HB5 := Lib.hid (HB4.out.trans (hb.mono HB4.out.size))
               have HG5 := Lib.hid (HG4.out.below hb (Nat.le_refl _))
               clear hb HT4 HB4 HG4 F3)
            | (go_at_call 7; refine (works_any _ HG5.out).mono ?_; rintro r w6 ⟨rfl, hb⟩
               have HB6 := Lib.hid (HB5.out.trans (hb.mono HB5.out.size))
               clear hb HB5 HG5))
          go_ret
          exact ⟨rfl, HB6.out⟩
        | true =>
          go_wp2_with (first
            | (go_at_call 8; refine (F1.out _ HT1.out).mono ?_; rintro r w2 ⟨hb, rfl⟩
               have HT2 := Lib.hid (HT1.out.below hb (Nat.le_refl _))
               have HB2 := Lib.hid (HB1.out.trans (hb.mono HB1.out.size))
               have HG2 := Lib.hid (HG1.out.below hb (Nat.le_refl _))
               clear hb HT1 HB1 HG1 F1)
            | (go_at_call 10; refine (Fk.out _ HT2.out).mono ?_; rintro r w3 ⟨hb, rfl⟩
               have HT3 := Lib.hid (HT2.out.below hb (Nat.le_refl _))
               have HB3 := Lib.hid (HB2.out.trans (hb.mono HB2.out.size))
               have HG3 := Lib.hid (HG2.out.below hb (Nat.le_refl _))
               clear hb HT2 HB2 HG2 Fk)
            | (go_at_call 8; refine (F2.out _ HT3.out).mono ?_; rintro r w4 ⟨hb, rfl⟩
               have HT4 := Lib.hid (HT3.out.below hb (Nat.le_refl _))
               have HB4 := Lib.hid (HB3.out.trans (hb.mono HB3.out.size))
               have HG4 := Lib.hid (HG3.out.below hb (Nat.le_refl _))
               clear hb HT3 HB3 HG3 F2)
            | (go_at_call 8; refine (F3.out _ HT4.out).mono ?_; rintro r w5 ⟨hb, rfl⟩
               have HT5 := Lib.hid (HT4.out.below hb (Nat.le_refl _))
               have HB5 := Lib.hid (HB4.out.trans (hb.mono HB4.out.size))
               have HG5 := Lib.hid (HG4.out.below hb (Nat.le_refl _))
               clear hb HT4 HB4 HG4 F3)
            | (go_at_call 7; refine (works_any _ HG5.out).mono ?_; rintro r w6 ⟨rfl, hb⟩
               have HB6 := Lib.hid (HB5.out.trans (hb.mono HB5.out.size))
               clear hb HB5 HG5))
          go_ret
          exact ⟨rfl, HB6.out⟩
      · have hpl : p.length ≤ 255 := path_size hgood hle
        have hpn : p ≠ [] := (good_neat hgood hle).ne
        have e0 : (bs p).toList.isEmpty = false := emptyB_f (by rw [bs_toList]; exact hpn)
        have hk : kindL L p = e.k := by unfold kindL; rw [hle]
        have hk13 := kinds hgood hle
        have g1 : ¬ e.k < 1 := by omega
        have g3 : ¬ 3 < e.k := by omega
        obtain ⟨t2, e2⟩ := wayF_self hgood (keep := true) (p := p) (.inr ⟨e, hle, by rcases hk13 with h | h | h; exact .inl h; exact .inr (.inl h); exact .inr (.inr ⟨h, rfl⟩)⟩)
        by_cases k3 : e.k = 3
        · have b3 : (e.k == 3) = true := by simpa using k3
          have hlast : last = false := by
            cases last with
            | false => rfl
            | true =>
              rcases hke with h | h | ⟨h, _⟩
              · omega
              · omega
              · cases h
          subst hlast
          have f3 := fun W hW => find_some (T := T) (rt := rt) (rm := rm) (nd := nd) (bs p) true W hW (by rw [bs_size]; omega)
          have f2 := fun W hW => find_as (T := T) (rt := rt) (rm := rm) (nd := nd) (bs p) false W hW (by rw [bs_size]; omega) (p := p) (t := t2) (by rw [bs_toList, He.out]; exact e2)
          have fk := fun W (hW : TreeAt W T rt rm 0 nd) => kind_as (bs p) W hW (by rw [bs_size]; omega)
          rw [bs_toList, He.out, hk] at fk

          have F1 := Lib.hid f1
          have F2 := Lib.hid f2
          have F3 := Lib.hid f3
          have Fk := Lib.hid fk
          clear f1 f2 f3 fk e2
          clear hpn hk hgood k3 hke hle hk13
          go_wp2_with (first
            | (go_at_call 8; refine (F1.out _ HT1.out).mono ?_; rintro r w2 ⟨hb, rfl⟩
               have HT2 := Lib.hid (HT1.out.below hb (Nat.le_refl _))
               have HB2 := Lib.hid (HB1.out.trans (hb.mono HB1.out.size))
               have HG2 := Lib.hid (HG1.out.below hb (Nat.le_refl _))
               clear hb HT1 HB1 HG1 F1)
            | (go_at_call 10; refine (Fk.out _ HT2.out).mono ?_; rintro r w3 ⟨hb, rfl⟩
               have HT3 := Lib.hid (HT2.out.below hb (Nat.le_refl _))
               have HB3 := Lib.hid (HB2.out.trans (hb.mono HB2.out.size))
               have HG3 := Lib.hid (HG2.out.below hb (Nat.le_refl _))
               clear hb HT2 HB2 HG2 Fk)
            | (go_at_call 8; refine (F2.out _ HT3.out).mono ?_; rintro r w4 ⟨hb, rfl⟩
               have HT4 := Lib.hid (HT3.out.below hb (Nat.le_refl _))
               have HB4 := Lib.hid (HB3.out.trans (hb.mono HB3.out.size))
               have HG4 := Lib.hid (HG3.out.below hb (Nat.le_refl _))
               clear hb HT3 HB3 HG3 F2)
            | (go_at_call 8; refine (F3.out _ HT4.out).mono ?_; rintro r w5 ⟨hb, ⟨x3, f3, rfl⟩⟩
               have HT5 := Lib.hid (HT4.out.below hb (Nat.le_refl _))
               have HB5 := Lib.hid (HB4.out.trans (hb.mono HB4.out.size))
               have HG5 := Lib.hid (HG4.out.below hb (Nat.le_refl _))
               clear hb HT4 HB4 HG4 F3)
            | (go_at_call 7; refine (works_any _ HG5.out).mono ?_; rintro r w6 ⟨rfl, hb⟩
               have HB6 := Lib.hid (HB5.out.trans (hb.mono HB5.out.size))
               clear hb HB5 HG5))
          go_ret
          exact ⟨rfl, HB6.out⟩
        · have b3 : (e.k == 3) = false := by simpa using k3
          obtain ⟨t3, e3⟩ := wayF_self hgood (keep := false) (p := p) (.inr ⟨e, hle, by rcases hk13 with h | h | h; exact .inl h; exact .inr (.inl h); exact absurd h k3⟩)
          have f3 := fun W hW => find_as (T := T) (rt := rt) (rm := rm) (nd := nd) (bs p) true W hW (by rw [bs_size]; omega) (p := p) (t := t3) (by rw [bs_toList, He.out]; exact e3)
          clear e3
          have f2 := fun W hW => find_as (T := T) (rt := rt) (rm := rm) (nd := nd) (bs p) false W hW (by rw [bs_size]; omega) (p := p) (t := t2) (by rw [bs_toList, He.out]; exact e2)
          have fk := fun W (hW : TreeAt W T rt rm 0 nd) => kind_as (bs p) W hW (by rw [bs_size]; omega)
          rw [bs_toList, He.out, hk] at fk

          have F1 := Lib.hid f1
          have F2 := Lib.hid f2
          have F3 := Lib.hid f3
          have Fk := Lib.hid fk
          clear f1 f2 f3 fk e2
          clear hpn hk hgood k3 hke hle hk13
          cases last with
          | false =>
            go_wp2_with (first
              | (go_at_call 8; refine (F1.out _ HT1.out).mono ?_; rintro r w2 ⟨hb, rfl⟩
                 have HT2 := Lib.hid (HT1.out.below hb (Nat.le_refl _))
                 have HB2 := Lib.hid (HB1.out.trans (hb.mono HB1.out.size))
                 have HG2 := Lib.hid (HG1.out.below hb (Nat.le_refl _))
                 clear hb HT1 HB1 HG1 F1)
              | (go_at_call 10; refine (Fk.out _ HT2.out).mono ?_; rintro r w3 ⟨hb, rfl⟩
                 have HT3 := Lib.hid (HT2.out.below hb (Nat.le_refl _))
                 have HB3 := Lib.hid (HB2.out.trans (hb.mono HB2.out.size))
                 have HG3 := Lib.hid (HG2.out.below hb (Nat.le_refl _))
                 clear hb HT2 HB2 HG2 Fk)
              | (go_at_call 8; refine (F2.out _ HT3.out).mono ?_; rintro r w4 ⟨hb, rfl⟩
                 have HT4 := Lib.hid (HT3.out.below hb (Nat.le_refl _))
                 have HB4 := Lib.hid (HB3.out.trans (hb.mono HB3.out.size))
                 have HG4 := Lib.hid (HG3.out.below hb (Nat.le_refl _))
                 clear hb HT3 HB3 HG3 F2)
              | (go_at_call 8; refine (F3.out _ HT4.out).mono ?_; rintro r w5 ⟨hb, rfl⟩
                 have HT5 := Lib.hid (HT4.out.below hb (Nat.le_refl _))
                 have HB5 := Lib.hid (HB4.out.trans (hb.mono HB4.out.size))
                 have HG5 := Lib.hid (HG4.out.below hb (Nat.le_refl _))
                 clear hb HT4 HB4 HG4 F3)
              | (go_at_call 7; refine (works_any _ HG5.out).mono ?_; rintro r w6 ⟨rfl, hb⟩
                 have HB6 := Lib.hid (HB5.out.trans (hb.mono HB5.out.size))
                 clear hb HB5 HG5))
            go_ret
            exact ⟨rfl, HB6.out⟩
          | true =>
            go_wp2_with (first
              | (go_at_call 8; refine (F1.out _ HT1.out).mono ?_; rintro r w2 ⟨hb, rfl⟩
                 have HT2 := Lib.hid (HT1.out.below hb (Nat.le_refl _))
                 have HB2 := Lib.hid (HB1.out.trans (hb.mono HB1.out.size))
                 have HG2 := Lib.hid (HG1.out.below hb (Nat.le_refl _))
                 clear hb HT1 HB1 HG1 F1)
              | (go_at_call 10; refine (Fk.out _ HT2.out).mono ?_; rintro r w3 ⟨hb, rfl⟩
                 have HT3 := Lib.hid (HT2.out.below hb (Nat.le_refl _))
                 have HB3 := Lib.hid (HB2.out.trans (hb.mono HB2.out.size))
                 have HG3 := Lib.hid (HG2.out.below hb (Nat.le_refl _))
                 clear hb HT2 HB2 HG2 Fk)
              | (go_at_call 8; refine (F2.out _ HT3.out).mono ?_; rintro r w4 ⟨hb, rfl⟩
                 have HT4 := Lib.hid (HT3.out.below hb (Nat.le_refl _))
                 have HB4 := Lib.hid (HB3.out.trans (hb.mono HB3.out.size))
                 have HG4 := Lib.hid (HG3.out.below hb (Nat.le_refl _))
                 clear hb HT3 HB3 HG3 F2)
              | (go_at_call 8; refine (F3.out _ HT4.out).mono ?_; rintro r w5 ⟨hb, rfl⟩
                 have HT5 := Lib.hid (HT4.out.below hb (Nat.le_refl _))
                 have HB5 := Lib.hid (HB4.out.trans (hb.mono HB4.out.size))
                 have HG5 := Lib.hid (HG4.out.below hb (Nat.le_refl _))
                 clear hb HT4 HB4 HG4 F3)
              | (go_at_call 7; refine (works_any _ HG5.out).mono ?_; rintro r w6 ⟨rfl, hb⟩
                 have HB6 := Lib.hid (HB5.out.trans (hb.mono HB5.out.size))
                 clear hb HB5 HG5))
            go_ret
            exact ⟨rfl, HB6.out⟩
  · go_enter Tryd.func3, Tryd.ntmps3
    go_wp2_with (first
      | (go_at_call 6; refine Hof.out.mono ?_; rintro r w1 ⟨_, h2, hb⟩; obtain rfl := h2 hc0
         have HG1 := Lib.hid (Hg.out.below hb (Nat.le_refl _))
         have HB1 := Lib.hid hb
         clear h2 hb)
      | (go_at_call 7; refine (works_any _ HG1.out).mono ?_; rintro r w2 ⟨rfl, hb⟩
         have HB2 := Lib.hid (HB1.out.trans (hb.mono HB1.out.size))
         clear hb HB1 HG1))
    go_ret
    exact ⟨rfl, HB2.out⟩
end Go.Proofs.YtdkodedocklmdaaDoor
