/- The walk of ResolveEnds. -/
import Derived.Test.YtdkodedocklmdaaDoorROn
set_option linter.unusedSimpArgs false
set_option linter.unusedVariables false
namespace Go.Proofs.YtdkodedocklmdaaDoor
open Go.RowKit Go.Shelf Go.Maps
open Go.Lib hiding intOf size_eq
theorem trail_as {T rt rm : Nat} {nd : List Nd} (s : ByteArray) (w : World) (ht : TreeAt w T rt rm 0 nd) (hs : s.size ≤ 4294967296) {p : List UInt8} {t : List (List UInt8)} (h : wayF (ents nd) false s.data.toList = .ok (p, t)) :
    Calls Tryd.prog 12 #[.pointer (some ⟨T, 0, none⟩), .string s] w fun r w' => Below w.heap.size w w' ∧ ∃ v, r = .returned (.tuple #[v, .nilIface]) ∧ Texts w' w.heap.size v t := by
  refine (trail_way s w ht hs).mono fun r w' hr => ?_
  unfold TrailR at hr
  rw [h] at hr
  exact hr
theorem trail_err {T rt rm : Nat} {nd : List Nd} (s : ByteArray) (w : World) (ht : TreeAt w T rt rm 0 nd) (hs : s.size ≤ 4294967296) {n : Nat} (h : wayF (ents nd) false s.data.toList = .error n) :
    Calls Tryd.prog 12 #[.pointer (some ⟨T, 0, none⟩), .string s] w fun r w' => Below w.heap.size w w' ∧ r = .returned (.tuple #[.slice none 0 0, errV n]) := by
  refine (trail_way s w ht hs).mono fun r w' hr => ?_
  unfold TrailR at hr
  rw [h] at hr
  exact hr
/-- what stands on a trail -/
theorem trail_all {L : List Ent} (hL : Good L) {way p : List UInt8} {t : List (List UInt8)} (h : wayF L false way = .ok (p, t)) : ∀ i x, t[i]? = some x → x.length ≤ 255 ∧ (x = [] ∨ (x ≠ [] ∧ kindL L x = 1) ∨ (x ≠ [] ∧ kindL L x = 2 ∧ i + 1 = t.length)) := by
  obtain ⟨h1, _, _, h4, h5⟩ := wayF_ends hL h
  have here : ∀ x, Here L x → x.length ≤ 255 ∧ (x = [] ∨ (x ≠ [] ∧ kindL L x = 1)) := by
    intro x hx
    rcases hx with rfl | ⟨e, hle, hk⟩
    · exact ⟨by simp, .inl rfl⟩
    · exact ⟨path_size hL hle, .inr ⟨(good_neat hL hle).ne, by unfold kindL; rw [hle]; exact hk⟩⟩
  intro i x hx
  have hi := (List.getElem?_eq_some_iff.1 hx).1
  by_cases hl : i + 1 = t.length
  · rw [List.getLast?_eq_getElem?, show t.length - 1 = i by omega, hx] at h4
    injection h4 with h4
    subst h4
    rcases wayF_inside hL h with rfl | ⟨e, hle, hk⟩
    · exact ⟨by simp, .inl rfl⟩
    · have hne := (good_neat hL hle).ne
      have hkk : kindL L x = e.k := by unfold kindL; rw [hle]
      refine ⟨path_size hL hle, ?_⟩
      rcases hk with hk | hk | ⟨hk, _⟩
      · exact .inr (.inl ⟨hne, by rw [hkk]; exact hk⟩)
      · exact .inr (.inr ⟨hne, by rw [hkk]; exact hk, hl⟩)
      · cases hk
  · have hm : x ∈ t.dropLast := by
      refine List.mem_of_getElem? (i := i) ?_
      rw [List.getElem?_dropLast, if_pos (by omega)]
      exact hx
    obtain ⟨a, b⟩ := here x (h5 x hm)
    exact ⟨a, b.elim .inl (fun h => .inr (.inl h))⟩
set_option maxRecDepth 100000 in
set_option maxHeartbeats 8000000 in
theorem resolveEnds_any (v : Value) (L : List Ent) (s : ByteArray) (w : World) (h : EntsAt w v L) (hb : Small L) (hl : L.length ≤ 1099511627776) (hs : s.size ≤ 1073741824) (hg : Handle w) :
    Calls Tryd.prog 5 #[v, .string s] w fun r w' => r = .returned (.bool true) ∧ Below w.heap.size w w' := by
  have hof := of_any v L w h hb hl
  obtain ⟨o, cap, rfl, _, _, _⟩ := h
  have Hof := Lib.hid hof
  have Hg := Lib.hid hg
  clear hof hg hb
  by_cases hc0 : (checkL L).1 = 0
  · go_enter Tryd.func5, Tryd.ntmps5
    go_upto_region 4 with (first
      | (go_at_call 6; refine Hof.out.mono ?_; rintro r w1 ⟨h1, _, hb⟩; obtain ⟨T, rt, rm, nd, rfl, ht, he⟩ := h1 hc0
         have HG1 := Lib.hid (Hg.out.below hb (Nat.le_refl _))
         have HT1 := Lib.hid (ht.lower (Nat.zero_le _))
         have He := Lib.hid he
         have HB1 := Lib.hid hb
         clear h1 hb ht he))
    have hgood := check_good HT1.out He.out
    cases hw : wayF L false s.data.toList with
    | error n =>
      have f1 := fun W hW => find_err (T := T) (rt := rt) (rm := rm) (nd := nd) s true W hW (by omega) (n := n) (by rw [He.out]; exact hw)
      have f2 := fun W hW => trail_err (T := T) (rt := rt) (rm := rm) (nd := nd) s W hW (by omega) (n := n) (by rw [He.out]; exact hw)
      have hn := wayF_errs hw
      clear hw hgood hc0
      rcases hn with rfl | rfl | rfl
      · have hnum := fun W => num_num 10 W (by decide) (by decide)
        have hpl : ∀ W, Handle W → Calls Tryd.prog 13 #[.iface 56 (.int .i64 10), .int .i64 10] W fun e w' => e = .returned (.bool true) ∧ Below W.heap.size W w' := fun W hW => plain_any 10 10 W (by decide) hW
        rw [show errV 10 = .iface 56 (.int .i64 10) from rfl] at f1 f2
        have Hnum := Lib.hid hnum
        have Hpl := Lib.hid hpl
        have F1 := Lib.hid f1
        have F2 := Lib.hid f2
        clear hnum hpl f1 f2
        go_wp2_with (first
          | (go_at_call 8; refine (F1.out _ HT1.out).mono ?_; rintro r w2 ⟨hb, rfl⟩
             have HT2 := Lib.hid (HT1.out.below hb (Nat.le_refl _))
             have HB2 := Lib.hid (HB1.out.trans (hb.mono HB1.out.size))
             have HG2 := Lib.hid (HG1.out.below hb (Nat.le_refl _))
             clear hb HT1 HB1 HG1 F1)
          | (go_at_call 12; refine (F2.out _ HT2.out).mono ?_; rintro r w3 ⟨hb, rfl⟩
             have HT3 := Lib.hid (HT2.out.below hb (Nat.le_refl _))
             have HB3 := Lib.hid (HB2.out.trans (hb.mono HB2.out.size))
             have HG3 := Lib.hid (HG2.out.below hb (Nat.le_refl _))
             clear hb HT2 HB2 HG2 F2)
          | (go_at_call 9; refine (Hnum.out _).mono ?_; rintro r w9 ⟨rfl, rfl⟩)
          | (go_at_call 13; refine (Hpl.out _ HG3.out).mono ?_; rintro r w4 ⟨rfl, hb⟩
             have HB4 := Lib.hid (HB3.out.trans (hb.mono HB3.out.size))
             have HG4 := Lib.hid (HG3.out.below hb (Nat.le_refl _))
             clear hb HB3 HG3)
          | (go_at_call 7; refine (works_any _ HG4.out).mono ?_; rintro r w5 ⟨rfl, hb⟩
             have HB5 := Lib.hid (HB4.out.trans (hb.mono HB4.out.size))
             clear hb HB4 HG4))
        go_ret
        exact ⟨rfl, HB5.out⟩
      · have hnum := fun W => num_num 13 W (by decide) (by decide)
        have hpl : ∀ W, Handle W → Calls Tryd.prog 13 #[.iface 56 (.int .i64 13), .int .i64 13] W fun e w' => e = .returned (.bool true) ∧ Below W.heap.size W w' := fun W hW => plain_any 13 13 W (by decide) hW
        rw [show errV 13 = .iface 56 (.int .i64 13) from rfl] at f1 f2
        have Hnum := Lib.hid hnum
        have Hpl := Lib.hid hpl
        have F1 := Lib.hid f1
        have F2 := Lib.hid f2
        clear hnum hpl f1 f2
        go_wp2_with (first
          | (go_at_call 8; refine (F1.out _ HT1.out).mono ?_; rintro r w2 ⟨hb, rfl⟩
             have HT2 := Lib.hid (HT1.out.below hb (Nat.le_refl _))
             have HB2 := Lib.hid (HB1.out.trans (hb.mono HB1.out.size))
             have HG2 := Lib.hid (HG1.out.below hb (Nat.le_refl _))
             clear hb HT1 HB1 HG1 F1)
          | (go_at_call 12; refine (F2.out _ HT2.out).mono ?_; rintro r w3 ⟨hb, rfl⟩
             have HT3 := Lib.hid (HT2.out.below hb (Nat.le_refl _))
             have HB3 := Lib.hid (HB2.out.trans (hb.mono HB2.out.size))
             have HG3 := Lib.hid (HG2.out.below hb (Nat.le_refl _))
             clear hb HT2 HB2 HG2 F2)
          | (go_at_call 9; refine (Hnum.out _).mono ?_; rintro r w9 ⟨rfl, rfl⟩)
          | (go_at_call 13; refine (Hpl.out _ HG3.out).mono ?_; rintro r w4 ⟨rfl, hb⟩
             have HB4 := Lib.hid (HB3.out.trans (hb.mono HB3.out.size))
             have HG4 := Lib.hid (HG3.out.below hb (Nat.le_refl _))
             clear hb HB3 HG3)
          | (go_at_call 7; refine (works_any _ HG4.out).mono ?_; rintro r w5 ⟨rfl, hb⟩
             have HB5 := Lib.hid (HB4.out.trans (hb.mono HB4.out.size))
             clear hb HB4 HG4))
        go_ret
        exact ⟨rfl, HB5.out⟩
      · have hnum := fun W => num_num 12 W (by decide) (by decide)
        have hpl : ∀ W, Handle W → Calls Tryd.prog 13 #[.iface 56 (.int .i64 12), .int .i64 12] W fun e w' => e = .returned (.bool true) ∧ Below W.heap.size W w' := fun W hW => plain_any 12 12 W (by decide) hW
        rw [show errV 12 = .iface 56 (.int .i64 12) from rfl] at f1 f2
        have Hnum := Lib.hid hnum
        have Hpl := Lib.hid hpl
        have F1 := Lib.hid f1
        have F2 := Lib.hid f2
        clear hnum hpl f1 f2
        go_wp2_with (first
          | (go_at_call 8; refine (F1.out _ HT1.out).mono ?_; rintro r w2 ⟨hb, rfl⟩
             have HT2 := Lib.hid (HT1.out.below hb (Nat.le_refl _))
             have HB2 := Lib.hid (HB1.out.trans (hb.mono HB1.out.size))
             have HG2 := Lib.hid (HG1.out.below hb (Nat.le_refl _))
             clear hb HT1 HB1 HG1 F1)
          | (go_at_call 12; refine (F2.out _ HT2.out).mono ?_; rintro r w3 ⟨hb, rfl⟩
             have HT3 := Lib.hid (HT2.out.below hb (Nat.le_refl _))
             have HB3 := Lib.hid (HB2.out.trans (hb.mono HB2.out.size))
             have HG3 := Lib.hid (HG2.out.below hb (Nat.le_refl _))
             clear hb HT2 HB2 HG2 F2)
          | (go_at_call 9; refine (Hnum.out _).mono ?_; rintro r w9 ⟨rfl, rfl⟩)
          | (go_at_call 13; refine (Hpl.out _ HG3.out).mono ?_; rintro r w4 ⟨rfl, hb⟩
             have HB4 := Lib.hid (HB3.out.trans (hb.mono HB3.out.size))
             have HG4 := Lib.hid (HG3.out.below hb (Nat.le_refl _))
             clear hb HB3 HG3)
          | (go_at_call 7; refine (works_any _ HG4.out).mono ?_; rintro r w5 ⟨rfl, hb⟩
             have HB5 := Lib.hid (HB4.out.trans (hb.mono HB4.out.size))
             clear hb HB4 HG4))
        go_ret
        exact ⟨rfl, HB5.out⟩
    | ok z =>
      obtain ⟨p, t⟩ := z
      have f1 := fun W hW => find_as (T := T) (rt := rt) (rm := rm) (nd := nd) s true W hW (by omega) (p := p) (t := t) (by rw [He.out]; exact hw)
      have f2 := fun W hW => trail_as (T := T) (rt := rt) (rm := rm) (nd := nd) s W hW (by omega) (p := p) (t := t) (by rw [He.out]; exact hw)
      obtain ⟨q1, q2, q3, q4, q5⟩ := wayF_ends hgood hw
      have hall := trail_all hgood hw
      have hpc := pieces_count s
      obtain ⟨n, hn⟩ : ∃ n, n = t.length := ⟨_, rfl⟩
      obtain ⟨c, hc⟩ : ∃ c, c = (pieces s.data.toList).length := ⟨_, rfl⟩
      obtain ⟨m, hm⟩ : ∃ m, n = m + 1 := ⟨n - 1, by omega⟩
      have hne : t ≠ [] := fun e => by rw [e] at q1; simp at q1
      have hhead : t[0]? = some [] := by rw [← List.head?_eq_getElem?]; exact q3
      have hlast : t[m]? = some p := by rw [List.getLast?_eq_getElem?, show t.length - 1 = m by omega] at q4; exact q4
      rw [← hn, ← hc] at q2
      rw [← hn] at q1 hall
      rw [← hc] at hpc
      have hsub : (n : Int) - 1 = (m : Int) := by omega
      have hmn : m < n := by omega
      have hn1 : ¬ (n : Int) < 1 := by omega
      have hn2 : ¬ (1 + (c : Int) + 2000) < (n : Int) := by omega
      have hn3 : n ≤ 4294967296 := by omega
      have F1 := Lib.hid f1
      have F2 := Lib.hid f2
      have Hall := Lib.hid hall
      have Hn := Lib.hid hn
      have Hc := Lib.hid hc
      have Hm := Lib.hid hm
      have Hne := Lib.hid hne
      have Hhead := Lib.hid hhead
      have Hlast := Lib.hid hlast
      have Hq := Lib.hid (show ∀ k, k < n → ∃ x, t[k]? = some x from fun k hk => ⟨_, List.getElem?_eq_getElem (by rw [← hn]; exact hk)⟩)
      clear f1 f2 hall hn hc hm hne hhead hlast hw hgood hc0 q1 q2 q3 q4 q5
      go_upto_region 10 with (first
        | (go_at_call 8; refine (F1.out _ HT1.out).mono ?_; rintro r w2 ⟨hb, rfl⟩
           have HT2 := Lib.hid (HT1.out.below hb (Nat.le_refl _))
           have HB2 := Lib.hid (HB1.out.trans (hb.mono HB1.out.size))
           have HG2 := Lib.hid (HG1.out.below hb (Nat.le_refl _))
           clear hb HT1 HB1 HG1 F1)
        | (go_at_call 12; refine (F2.out _ HT2.out).mono ?_; rintro r w3 ⟨hb, tv, rfl, htx⟩; obtain ⟨g, tcap, rfl, _, hglt, hcells⟩ := texts_form htx Hne.out; rw [← Hn.out]
           have c0 : w3.cell? ⟨g, 0, none⟩ = some (.string ⟨#[]⟩) := hcells 0 _ Hhead.out
           have cl := hcells m _ Hlast.out
           have HT3 := Lib.hid (HT2.out.below hb (Nat.le_refl _))
           have HB3 := Lib.hid (HB2.out.trans (hb.mono HB2.out.size))
           have HG3 := Lib.hid (HG2.out.below hb (Nat.le_refl _))
           have Hglt := Lib.hid hglt
           have Hx := Lib.hid hcells
           clear hb htx hglt hcells HT2 HB2 HG2 F2)
        | (go_at_call 11; refine (rpieces_any s _ (by omega)).mono ?_; rintro r w4 ⟨pv, rfl, htx, hb⟩; obtain ⟨po, pc, rfl, _, _⟩ := left_of_texts htx; rw [← Hc.out]
           have HT4 := Lib.hid (HT3.out.below hb (Nat.le_refl _))
           have HB4 := Lib.hid (HB3.out.trans (hb.mono HB3.out.size))
           have HG4 := Lib.hid (HG3.out.below hb (Nat.le_refl _))
           have HX4 := Lib.hid (fun k x hx => (hb.cell (p := ⟨g, k, none⟩) (Hglt.out)).trans (Hx.out k x hx))
           have d0 := (hb.cell (p := ⟨g, 0, none⟩) Hglt.out).trans c0
           have dl := (hb.cell (p := ⟨g, m, none⟩) Hglt.out).trans cl
           have hlt4 : g < w4.heap.size := Nat.lt_of_lt_of_le Hglt.out hb.size
           clear hb htx HT3 HB3 HG3))
      go_wp2
      go_loopw [11, 12] (fun iv _ wr => ∃ k : Nat, iv = .int .i64 (k : Int) ∧ k ≤ n ∧ Below w4.heap.size w4 wr) (fun iv _ _ => n - (intOf iv).toNat)
      case atStart => exact ⟨0, rfl, Nat.zero_le _, Below.refl _ _⟩
      case round =>
        obtain ⟨k, rfl, hk, hbr⟩ := hrel
        by_cases hlt : k < n
        · obtain ⟨x, hx⟩ := Hq.out k hlt
          obtain ⟨hx255, hxk⟩ := Hall.out k x hx
          have cx : wr.cell? ⟨g, k, none⟩ = some (.string (bs x)) := (hbr.cell (p := ⟨g, k, none⟩) hlt4).trans (HX4.out k x hx)
          have hk2 := fun W (hW : TreeAt W T rt rm 0 nd) => kind_as (bs x) W hW (by rw [bs_size]; omega)
          rw [bs_toList, He.out] at hk2
          have HTr := Lib.hid (HT4.out.below hbr (Nat.le_refl _))
          have Hbr := Lib.hid hbr
          generalize kindL L x = kx at *
          have Hk := Lib.hid hk2
          clear hbr hk2 hx
          rcases hxk with h0 | ⟨h0, h1⟩ | ⟨h0, h1, h2⟩
          · have b0 : (bs x).toList.isEmpty = true := emptyB_t (by rw [bs_toList]; exact h0)
            clear h0
            go_wp2_with (first
              | (go_at_call 10; refine (Hk.out _ HTr.out).mono ?_; rintro r w6 ⟨hb, rfl⟩
                 have HB6 := Lib.hid hb
                 have cx6 : w6.cell? ⟨g, k, none⟩ = some (.string (bs x)) := (hb.cell (p := ⟨g, k, none⟩) (Nat.lt_of_lt_of_le hlt4 Hbr.out.size)).trans cx
                 clear hb))
            go_roundw
            case rel => exact ⟨k + 1, by go_num, by omega, Hbr.out.trans (HB6.out.mono Hbr.out.size)⟩
            case measure => simp [intOf]; omega
          · have b0 : (bs x).toList.isEmpty = false := emptyB_f (by rw [bs_toList]; exact h0)
            subst h1
            clear h0
            go_wp2_with (first
              | (go_at_call 10; refine (Hk.out _ HTr.out).mono ?_; rintro r w6 ⟨hb, rfl⟩
                 have HB6 := Lib.hid hb
                 have cx6 : w6.cell? ⟨g, k, none⟩ = some (.string (bs x)) := (hb.cell (p := ⟨g, k, none⟩) (Nat.lt_of_lt_of_le hlt4 Hbr.out.size)).trans cx
                 clear hb))
            go_roundw
            case rel => exact ⟨k + 1, by go_num, by omega, Hbr.out.trans (HB6.out.mono Hbr.out.size)⟩
            case measure => simp [intOf]; omega
          · have b0 : (bs x).toList.isEmpty = false := emptyB_f (by rw [bs_toList]; exact h0)
            subst h1
            have b3 : ¬ (k : Int) + 1 < (n : Int) := by omega
            clear h0
            go_wp2_with (first
              | (go_at_call 10; refine (Hk.out _ HTr.out).mono ?_; rintro r w6 ⟨hb, rfl⟩
                 have HB6 := Lib.hid hb
                 have cx6 : w6.cell? ⟨g, k, none⟩ = some (.string (bs x)) := (hb.cell (p := ⟨g, k, none⟩) (Nat.lt_of_lt_of_le hlt4 Hbr.out.size)).trans cx
                 clear hb))
            go_roundw
            case rel => exact ⟨k + 1, by go_num, by omega, Hbr.out.trans (HB6.out.mono Hbr.out.size)⟩
            case measure => simp [intOf]; omega
        · obtain rfl : k = n := by omega
          have HGr := Lib.hid (HG4.out.below hbr (Nat.le_refl _))
          have Hbr := Lib.hid hbr
          clear hbr
          go_wp2_with (go_at_call 7; refine (works_any _ HGr.out).mono ?_; rintro r w6 ⟨rfl, hb⟩
                       have HB6 := Lib.hid hb
                       clear hb)
          go_ret
          exact ⟨rfl, HB4.out.trans ((Hbr.out.trans (HB6.out.mono Hbr.out.size)).mono HB4.out.size)⟩
  · go_enter Tryd.func5, Tryd.ntmps5
    go_wp2_with (first
      | (go_at_call 6; refine Hof.out.mono ?_; rintro r w1 ⟨_, h2, hb⟩; obtain rfl := h2 hc0
         have HG1 := Lib.hid (Hg.out.below hb (Nat.le_refl _))
         have HB1 := Lib.hid hb
         clear h2 hb)
      | (go_at_call 7; refine (works_any _ HG1.out).mono ?_; rintro r w2 ⟨rfl, hb⟩
         have HB2 := Lib.hid (HB1.out.trans (hb.mono HB1.out.size))
         clear hb HB1 HG1))
    go_ret
    exact ⟨rfl, HB2.out⟩
end Go.Proofs.YtdkodedocklmdaaDoor
