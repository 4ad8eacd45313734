/- The walk of ResolveMakes (printed by mkqmakes.py). -/
import Derived.Test.YtdkodedocklmdaaGreatDoorMKept
import Derived.Test.YtdkodedocklmdaaGreatDoorQKit
set_option linter.unusedSimpArgs false
set_option linter.unusedVariables false
namespace Go.Proofs.YtdkodedocklmdaaGreatDoor
open Go.RowKit Go.Shelf Go.Maps Go.Sort
open Go.Lib hiding intOf size_eq
set_option maxRecDepth 100000 in
set_option maxHeartbeats 16000000 in
theorem resolveMakes_any (v : Value) (L : List Ent) (s : ByteArray) (w : World) (h : EntsAt w v L) (hb : Small L) (hl : L.length ≤ 1099511627776) (hs : s.size ≤ 4294967296) (hg : Handle w) :
    Calls Tryz.prog 9 #[v, .string s] w fun r w' => r = .returned (.bool true) ∧ Below w.heap.size w w' := by
  have hof := fun (W : World) (hW : EntsAt W v L) => of_any v L W hW hb hl
  have hE := h
  obtain ⟨o, cap, rfl, _, _, _⟩ := h
  have Hof := Lib.hid hof
  have Hg := Lib.hid hg
  have HEa := Lib.hid hE
  have HE := Lib.hid hE
  obtain ⟨n, hn⟩ : ∃ n, n = L.length := ⟨_, rfl⟩
  rw [← hn] at Hof HE HEa ⊢
  have Hn := Lib.hid hn
  have Hl := Lib.hid hl
  have HSm := Lib.hid (fun (va vb : Value) (W : World) (h1 : EntsAt W va L) (h2 : EntsAt W vb L) => same_any va vb L W h1 h2 hl)
  clear hof hg hb hE hn hl
  by_cases hc0 : (checkL L).1 = 0
  · go_enter Tryz.func9, Tryz.ntmps9
    go_upto_region 5 with (first
      | (go_at_call 32; refine (Hof.out _ HEa.out).mono ?_; rintro r w1 ⟨h1, _, hb⟩; obtain ⟨T, rt, rm, nd, rfl, ht, he⟩ := h1 hc0
         have HT1 := Lib.hid ht
         have He1 := Lib.hid he
         have HB1 := Lib.hid hb
         have HEb := Lib.hid (HEa.out.below hb (Nat.le_refl _))
         clear h1 hb ht he HEa)
      | (go_at_call 32; refine (Hof.out _ HEb.out).mono ?_; rintro r w2 ⟨h1, _, hb⟩; obtain ⟨U, ru, mu, nu, rfl, hu, heu⟩ := h1 hc0
         have H2 := Lib.hid (Two.of HE.out Hg.out HT1.out HB1.out hu hb)
         have HeU := Lib.hid heu
         clear h1 hb hu heu HEb))
    have Hgood := Lib.hid (check_good (HT1.out.lower (Nat.zero_le _)) He1.out)
    clear hc0 HT1 HB1 Hof
    cases hmw : makeWay true L s.data.toList with
    | mk L1 x1 =>
    cases x1 with
    | error n1 =>
      obtain ⟨hL1, hn1⟩ := makeWay_err hmw
      have hev1 := errV_pos hn1
      have HMk := Lib.hid (fun (W : World) (hW : TreeAt W T rt rm w.heap.size nd) => make_no s W hW hs (by rw [He1.out]; exact hmw))
      have Hev1 := Lib.hid hev1
      clear hmw hL1 hn1 hev1
      go_upto_region 14 with (first
        | (go_at_call 44; refine (HMk.out _ H2.out.t).mono ?_; rintro r w3 ⟨rfl, nd2, he2, ht2, hx2⟩
           have H3 := Lib.hid (H2.out.turn ht2 hx2)
           have He3 := Lib.hid (he2.trans He1.out)
           rw [Hev1.out]
           clear he2 ht2 hx2 HMk H2)
        | (go_at_call 20; refine (list_as H3.out.t He3.out Hn.out).mono ?_; rintro r w4 ⟨lo, lc, rfl, hnow, hb⟩
           have H4 := Lib.hid (H3.out.below hb)
           have HN4 := Lib.hid hnow.ents
           clear hnow hb H3)
        | (go_at_call 23; refine (HSm.out _ _ w4 HN4.out H4.out.one.e).mono ?_; rintro r w5 ⟨hb, rfl⟩
           have Hz := Lib.hid (H4.out.below hb).one
           clear hb H4))
      clear HN4 He3 Hev1
      cases hp2 : makeWay false L s.data.toList with
      | mk L2 x2 =>
      cases x2 with
      | error n2 =>
        obtain ⟨hL2, hn2⟩ := makeWay_err hp2
        have hev := errV_pos hn2
        have HPl := Lib.hid (fun (W : World) (hW : TreeAt W U ru mu w.heap.size nu) => place_no s W hW hs (by rw [HeU.out]; exact hp2))
        have Hev := Lib.hid hev
        clear hp2 hL2 hn2 hev
        go_wp2_with (first
          | (go_at_call 47; refine (HPl.out _ Hz.out.u).mono ?_; rintro r wa ⟨rfl, nu2, he2, ht2, hx2⟩
             have Ha := Lib.hid (Hz.out.turn ht2 hx2)
             have Hea := Lib.hid (he2.trans HeU.out)
             rw [Hev.out]
             clear he2 ht2 hx2 HPl)
          | (go_at_call 20; refine (list_as Ha.out.u Hea.out Hn.out).mono ?_; rintro r wb ⟨lo, lc, rfl, hnow, hb⟩
             have Hb2 := Lib.hid (Ha.out.below hb)
             have HNb := Lib.hid hnow.ents
             clear hnow hb Ha)
          | (go_at_call 23; refine (HSm.out _ _ wb HNb.out Hb2.out.e).mono ?_; rintro r wc9 ⟨hb, rfl⟩
             have Hc := Lib.hid (Hb2.out.below hb)
             clear hb Hb2)
          | (go_at_call 33; refine (works_any _ Hc.out.hd).mono ?_; rintro r wd ⟨rfl, hb⟩
             have Hd := Lib.hid (Hc.out.below hb)
             clear hb Hc))
        go_ret
        exact ⟨rfl, Hd.out.bel⟩
      | ok p2 =>
        have hsz := place_size Hgood.out hp2
        obtain ⟨hg2, hk2, hpar2, hnew2⟩ := place_law Hgood.out hp2
        obtain ⟨n2, hn2⟩ : ∃ n, n = L2.length := ⟨_, rfl⟩
        have hl2 := hg2.len
        rw [← hn2] at hl2
        have HPl := Lib.hid (fun (W : World) (hW : TreeAt W U ru mu w.heap.size nu) => place_ok s W hW hs (by rw [HeU.out]; exact hp2))
        have HK := Lib.hid (fun (nu2 : List Nd) (he : ents nu2 = L2) (W : World) (hW : One w W U ru mu nu2 (.slice o n cap) L) => kept_any (.slice o n cap) L W (hW.u.lower (Nat.zero_le _)) hW.e (by rw [he]; exact hk2) Hl.out)
        have HPr := Lib.hid (fun W => rparent_any (bs p2) W (by rw [bs_size]; omega))
        rw [bs_toList] at HPr
        have hpsz : (parent p2).length ≤ 255 := Nat.le_trans (parent_length p2) hsz
        have HKp := Lib.hid (fun (nu2 : List Nd) (he : ents nu2 = L2) (W : World) (hW : One w W U ru mu nu2 (.slice o n cap) L) (q : List UInt8) (hq : q.length ≤ 255) => (show Calls Tryz.prog 45 #[.pointer (some ⟨U, 0, none⟩), .string (bs q)] W fun r w' => Below W.heap.size W w' ∧ r = .returned (.int .i64 (kindL L2 q)) from by have h := kind_as (bs q) W (hW.u.lower (Nat.zero_le _)) (by rw [bs_size]; omega); rw [bs_toList, he] at h; exact h))
        have Hn2 := Lib.hid hn2
        clear hp2 hk2
        by_cases hp0 : p2 = []
        · subst hp0
          have e1 : (bs ([] : List UInt8)).toList.isEmpty = true := emptyB_t (by rw [bs_toList])
          have e2 : parent ([] : List UInt8) = [] := rfl
          rw [e2] at HPr
          clear hpar2 hnew2 e2 hn2 hsz hpsz
          go_wp2_with (first
            | (go_at_call 47; refine (HPl.out _ Hz.out.u).mono ?_; rintro r wa ⟨rfl, nu2, he2, ht2, hx2⟩
               have Ha := Lib.hid (Hz.out.turn ht2 hx2)
               have Hea := Lib.hid he2
               clear he2 ht2 hx2 HPl)
            | (go_at_call 48; refine (HPr.out _).mono ?_; rintro r w9 ⟨rfl, rfl⟩)
            | (go_at_call 46; refine (HK.out _ Hea.out _ Ha.out).mono ?_; rintro r wb ⟨rfl, hb⟩
               have Hb2 := Lib.hid (Ha.out.below hb)
               clear hb Ha)
            | (go_at_call 33; refine (works_any _ Hb2.out.hd).mono ?_; rintro r wd ⟨rfl, hb⟩
               have Hd := Lib.hid (Hb2.out.below hb)
               clear hb Hb2))
          go_ret
          exact ⟨rfl, Hd.out.bel⟩
        · have e1 : (bs p2).toList.isEmpty = false := emptyB_f (by rw [bs_toList]; exact hp0)
          have hpk : ((bs (parent p2)).toList.isEmpty = true ∧ True) ∨ ((bs (parent p2)).toList.isEmpty = false ∧ kindL L2 (parent p2) = 1) := by
            by_cases hq : parent p2 = []
            · exact .inl ⟨emptyB_t (by rw [bs_toList]; exact hq), trivial⟩
            · refine .inr ⟨emptyB_f (by rw [bs_toList]; exact hq), ?_⟩
              rcases hpar2 with h | ⟨e, he, hk⟩
              · exact absurd h hq
              · unfold kindL; rw [he]; exact hk
          clear hpar2
          cases hlk : lookE L2 p2 with
          | some e =>
            have hke : kindL L2 p2 = e.k := by unfold kindL; rw [hlk]
            have hk13 := kinds hg2 hlk
            have b9 : (e.k == 0) = false := by simp; omega
            have HK2 := Lib.hid (fun nu2 he W hW => HKp.out nu2 he W hW p2 hsz)
            rw [hke] at HK2
            have b10 : ¬ e.k = 0 := by omega
            have b11 : (e.k != 0) = true := by simp; omega
            generalize e.k = ek at *
            clear hnew2 hlk hke hk13 hn2 hg2
            rcases hpk with ⟨e3, _⟩ | ⟨e3, hk3⟩
            · clear HKp
              go_wp2_with (first
                | (go_at_call 47; refine (HPl.out _ Hz.out.u).mono ?_; rintro r wa ⟨rfl, nu2, he2, ht2, hx2⟩
                   have Ha := Lib.hid (Hz.out.turn ht2 hx2)
                   have Hea := Lib.hid he2
                   clear he2 ht2 hx2 HPl)
                | (go_at_call 48; refine (HPr.out _).mono ?_; rintro r w9 ⟨rfl, rfl⟩)
                | (go_at_call 46; refine (HK.out _ Hea.out _ Ha.out).mono ?_; rintro r wb ⟨rfl, hb⟩
                   have Hb2 := Lib.hid (Ha.out.below hb)
                   clear hb Ha)
                | (go_at_call 45; refine (HK2.out _ Hea.out _ Hb2.out).mono ?_; rintro r wc9 ⟨hb, rfl⟩
                   have Hc := Lib.hid (Hb2.out.below hb)
                   clear hb Hb2)
                | (go_at_call 33; refine (works_any _ Hc.out.hd).mono ?_; rintro r wd ⟨rfl, hb⟩
                   have Hd := Lib.hid (Hc.out.below hb)
                   clear hb Hc))
              go_ret
              exact ⟨rfl, Hd.out.bel⟩
            · have HK1 := Lib.hid (fun nu2 he W hW => HKp.out nu2 he W hW (parent p2) hpsz)
              rw [hk3] at HK1
              clear HKp hk3
              go_wp2_with (first
                | (go_at_call 47; refine (HPl.out _ Hz.out.u).mono ?_; rintro r wa ⟨rfl, nu2, he2, ht2, hx2⟩
                   have Ha := Lib.hid (Hz.out.turn ht2 hx2)
                   have Hea := Lib.hid he2
                   clear he2 ht2 hx2 HPl)
                | (go_at_call 48; refine (HPr.out _).mono ?_; rintro r w9 ⟨rfl, rfl⟩)
                | (go_at_call 46; refine (HK.out _ Hea.out _ Ha.out).mono ?_; rintro r wb ⟨rfl, hb⟩
                   have Hb2 := Lib.hid (Ha.out.below hb)
                   clear hb Ha)
                | (go_at_call 45; refine (HK1.out _ Hea.out _ Hb2.out).mono ?_; rintro r wx9 ⟨hb, rfl⟩
                   have Hx := Lib.hid (Hb2.out.below hb)
                   clear hb Hb2 HK1)
                | (go_at_call 45; refine (HK2.out _ Hea.out _ Hx.out).mono ?_; rintro r wc9 ⟨hb, rfl⟩
                   have Hc := Lib.hid (Hx.out.below hb)
                   clear hb Hx)
                | (go_at_call 33; refine (works_any _ Hc.out.hd).mono ?_; rintro r wd ⟨rfl, hb⟩
                   have Hd := Lib.hid (Hc.out.below hb)
                   clear hb Hc))
              go_ret
              exact ⟨rfl, Hd.out.bel⟩
          | none =>
            have hke : kindL L2 p2 = 0 := by unfold kindL; rw [hlk]
            have HK2 := Lib.hid (fun nu2 he W hW => HKp.out nu2 he W hW p2 hsz)
            rw [hke] at HK2
            clear hke
            by_cases hfull : 4096 ≤ n2
            · clear hnew2 hlk hn2 hg2
              rcases hpk with ⟨e3, _⟩ | ⟨e3, hk3⟩
              · clear HKp
                go_wp2_with (first
                  | (go_at_call 47; refine (HPl.out _ Hz.out.u).mono ?_; rintro r wa ⟨rfl, nu2, he2, ht2, hx2⟩
                     have Ha := Lib.hid (Hz.out.turn ht2 hx2)
                     have Hea := Lib.hid he2
                     clear he2 ht2 hx2 HPl)
                  | (go_at_call 48; refine (HPr.out _).mono ?_; rintro r w9 ⟨rfl, rfl⟩)
                  | (go_at_call 46; refine (HK.out _ Hea.out _ Ha.out).mono ?_; rintro r wb ⟨rfl, hb⟩
                     have Hb2 := Lib.hid (Ha.out.below hb)
                     clear hb Ha)
                  | (go_at_call 45; refine (HK2.out _ Hea.out _ Hb2.out).mono ?_; rintro r wc9 ⟨hb, rfl⟩
                     have Hc := Lib.hid (Hb2.out.below hb)
                     clear hb Hb2)
                  | (go_at_call 20; refine (list_as Hc.out.u Hea.out Hn2.out).mono ?_; rintro r wf ⟨lo, lc, rfl, hnow, hb⟩
                     have Hf := Lib.hid (Hc.out.below hb)
                     clear hnow hb Hc)
                  | (go_at_call 33; refine (works_any _ Hf.out.hd).mono ?_; rintro r wd ⟨rfl, hb⟩
                     have Hd := Lib.hid (Hf.out.below hb)
                     clear hb Hf))
                go_ret
                exact ⟨rfl, Hd.out.bel⟩
              · have HK1 := Lib.hid (fun nu2 he W hW => HKp.out nu2 he W hW (parent p2) hpsz)
                rw [hk3] at HK1
                clear HKp hk3
                go_wp2_with (first
                  | (go_at_call 47; refine (HPl.out _ Hz.out.u).mono ?_; rintro r wa ⟨rfl, nu2, he2, ht2, hx2⟩
                     have Ha := Lib.hid (Hz.out.turn ht2 hx2)
                     have Hea := Lib.hid he2
                     clear he2 ht2 hx2 HPl)
                  | (go_at_call 48; refine (HPr.out _).mono ?_; rintro r w9 ⟨rfl, rfl⟩)
                  | (go_at_call 46; refine (HK.out _ Hea.out _ Ha.out).mono ?_; rintro r wb ⟨rfl, hb⟩
                     have Hb2 := Lib.hid (Ha.out.below hb)
                     clear hb Ha)
                  | (go_at_call 45; refine (HK1.out _ Hea.out _ Hb2.out).mono ?_; rintro r wx9 ⟨hb, rfl⟩
                     have Hx := Lib.hid (Hb2.out.below hb)
                     clear hb Hb2 HK1)
                  | (go_at_call 45; refine (HK2.out _ Hea.out _ Hx.out).mono ?_; rintro r wc9 ⟨hb, rfl⟩
                     have Hc := Lib.hid (Hx.out.below hb)
                     clear hb Hx)
                  | (go_at_call 20; refine (list_as Hc.out.u Hea.out Hn2.out).mono ?_; rintro r wf ⟨lo, lc, rfl, hnow, hb⟩
                     have Hf := Lib.hid (Hc.out.below hb)
                     clear hnow hb Hc)
                  | (go_at_call 33; refine (works_any _ Hf.out.hd).mono ?_; rintro r wd ⟨rfl, hb⟩
                     have Hd := Lib.hid (Hf.out.below hb)
                     clear hb Hf))
                go_ret
                exact ⟨rfl, Hd.out.bel⟩
            · have hlt : n2 < 4096 := by omega
              obtain ⟨hput, tr9, hway⟩ := hnew2 hp0 hlk (by rw [← hn2]; exact hlt)
              have HPu := Lib.hid (fun (nu2 : List Nd) (he : ents nu2 = L2) (W : World) (hW : One w W U ru mu nu2 (.slice o n cap) L) => put_file W hW.u he hsz hput)
              have HFd := Lib.hid (fun (nu3 : List Nd) (he : ents nu3 = laidL L2 (fileE p2)) (W : World) (hW : One w W U ru mu nu3 (.slice o n cap) L) => find_as s true W (hW.u.lower (Nat.zero_le _)) hs (by rw [he]; exact hway))
              clear hlk hn2 hg2 hput hway hfull
              rcases hpk with ⟨e3, _⟩ | ⟨e3, hk3⟩
              · clear HKp
                go_wp2_with (first
                  | (go_at_call 47; refine (HPl.out _ Hz.out.u).mono ?_; rintro r wa ⟨rfl, nu2, he2, ht2, hx2⟩
                     have Ha := Lib.hid (Hz.out.turn ht2 hx2)
                     have Hea := Lib.hid he2
                     clear he2 ht2 hx2 HPl)
                  | (go_at_call 48; refine (HPr.out _).mono ?_; rintro r w9 ⟨rfl, rfl⟩)
                  | (go_at_call 46; refine (HK.out _ Hea.out _ Ha.out).mono ?_; rintro r wb ⟨rfl, hb⟩
                     have Hb2 := Lib.hid (Ha.out.below hb)
                     clear hb Ha)
                  | (go_at_call 45; refine (HK2.out _ Hea.out _ Hb2.out).mono ?_; rintro r wc9 ⟨hb, rfl⟩
                     have Hc := Lib.hid (Hb2.out.below hb)
                     clear hb Hb2)
                  | (go_at_call 20; refine (list_as Hc.out.u Hea.out Hn2.out).mono ?_; rintro r wf ⟨lo, lc, rfl, hnow, hb⟩
                     have Hf := Lib.hid (Hc.out.below hb)
                     clear hnow hb Hc)
                  | (go_at_call 18; refine (HPu.out _ Hea.out _ Hf.out).mono ?_; rintro r wg ⟨rfl, nu3, he3, ht3, hx3⟩
                     have Hg3 := Lib.hid (Hf.out.turn ht3 hx3)
                     have Heg := Lib.hid he3
                     clear he3 ht3 hx3 Hf HPu)
                  | (go_at_call 35; refine (HFd.out _ Heg.out _ Hg3.out).mono ?_; rintro r wh ⟨hb, rfl⟩
                     have Hh := Lib.hid (Hg3.out.below hb)
                     clear hb Hg3 HFd)
                  | (go_at_call 33; refine (works_any _ Hh.out.hd).mono ?_; rintro r wd ⟨rfl, hb⟩
                     have Hd := Lib.hid (Hh.out.below hb)
                     clear hb Hh))
                go_ret
                exact ⟨rfl, Hd.out.bel⟩
              · have HK1 := Lib.hid (fun nu2 he W hW => HKp.out nu2 he W hW (parent p2) hpsz)
                rw [hk3] at HK1
                clear HKp hk3
                go_wp2_with (first
                  | (go_at_call 47; refine (HPl.out _ Hz.out.u).mono ?_; rintro r wa ⟨rfl, nu2, he2, ht2, hx2⟩
                     have Ha := Lib.hid (Hz.out.turn ht2 hx2)
                     have Hea := Lib.hid he2
                     clear he2 ht2 hx2 HPl)
                  | (go_at_call 48; refine (HPr.out _).mono ?_; rintro r w9 ⟨rfl, rfl⟩)
                  | (go_at_call 46; refine (HK.out _ Hea.out _ Ha.out).mono ?_; rintro r wb ⟨rfl, hb⟩
                     have Hb2 := Lib.hid (Ha.out.below hb)
                     clear hb Ha)
                  | (go_at_call 45; refine (HK1.out _ Hea.out _ Hb2.out).mono ?_; rintro r wx9 ⟨hb, rfl⟩
                     have Hx := Lib.hid (Hb2.out.below hb)
                     clear hb Hb2 HK1)
                  | (go_at_call 45; refine (HK2.out _ Hea.out _ Hx.out).mono ?_; rintro r wc9 ⟨hb, rfl⟩
                     have Hc := Lib.hid (Hx.out.below hb)
                     clear hb Hx)
                  | (go_at_call 20; refine (list_as Hc.out.u Hea.out Hn2.out).mono ?_; rintro r wf ⟨lo, lc, rfl, hnow, hb⟩
                     have Hf := Lib.hid (Hc.out.below hb)
                     clear hnow hb Hc)
                  | (go_at_call 18; refine (HPu.out _ Hea.out _ Hf.out).mono ?_; rintro r wg ⟨rfl, nu3, he3, ht3, hx3⟩
                     have Hg3 := Lib.hid (Hf.out.turn ht3 hx3)
                     have Heg := Lib.hid he3
                     clear he3 ht3 hx3 Hf HPu)
                  | (go_at_call 35; refine (HFd.out _ Heg.out _ Hg3.out).mono ?_; rintro r wh ⟨hb, rfl⟩
                     have Hh := Lib.hid (Hg3.out.below hb)
                     clear hb Hg3 HFd)
                  | (go_at_call 33; refine (works_any _ Hh.out.hd).mono ?_; rintro r wd ⟨rfl, hb⟩
                     have Hd := Lib.hid (Hh.out.below hb)
                     clear hb Hh))
                go_ret
                exact ⟨rfl, Hd.out.bel⟩
    | ok p1 =>
      obtain ⟨hg1, ⟨tr1, hw1⟩, hag1, hh1, hk1⟩ := make_law Hgood.out hmw
      obtain ⟨n1, hn1⟩ : ∃ n, n = L1.length := ⟨_, rfl⟩
      have hl1 := hg1.len
      rw [← hn1] at hl1
      have Hn1 := Lib.hid hn1
      have HMk := Lib.hid (fun (W : World) (hW : TreeAt W T rt rm w.heap.size nd) => make_ok s W hW hs (by rw [He1.out]; exact hmw))
      have HMk2 := Lib.hid (fun (nd2 : List Nd) (he : ents nd2 = L1) (W : World) (hW : TreeAt W T rt rm w.heap.size nd2) => make_ok s W hW hs (by rw [he]; exact hag1))
      have HF1 := Lib.hid (fun (nd2 : List Nd) (he : ents nd2 = L1) (W : World) (hW : TreeAt W T rt rm w.heap.size nd2) => find_as s true W (hW.lower (Nat.zero_le _)) hs (by rw [he]; exact hw1))
      have HK1 := Lib.hid (fun (nd2 : List Nd) (he : ents nd2 = L1) (W : World) (hW : Two w W T rt rm nd2 U ru mu nu (.slice o n cap) L) => kept_any (.slice o n cap) L W (hW.t.lower (Nat.zero_le _)) hW.one.e (by rw [he]; exact hk1) Hl.out)
      have HSm1 := Lib.hid (fun (va vb : Value) (W : World) (h1 : EntsAt W va L1) (h2 : EntsAt W vb L1) => same_any va vb L1 W h1 h2 (by rw [← hn1]; omega))
      have b0 : ((bs p1).toList == (bs p1).toList) = true := by simp
      have hpk : ((bs p1).toList.isEmpty = true ∧ True) ∨ ((bs p1).toList.isEmpty = false ∧ ∀ (nd2 : List Nd) (he : ents nd2 = L1) (W : World) (hW : TreeAt W T rt rm w.heap.size nd2), Calls Tryz.prog 45 #[.pointer (some ⟨T, 0, none⟩), .string (bs p1)] W fun r w' => Below W.heap.size W w' ∧ r = .returned (.int .i64 1)) := by
        by_cases hq : p1 = []
        · exact .inl ⟨emptyB_t (by rw [bs_toList]; exact hq), trivial⟩
        · refine .inr ⟨emptyB_f (by rw [bs_toList]; exact hq), fun nd2 he W hW => ?_⟩
          rcases hh1 with h | ⟨e, he2, hk⟩
          · exact absurd h hq
          · have h := kind_as (bs p1) W (hW.lower (Nat.zero_le _)) (by rw [bs_size]; have := path_size hg1 he2; omega)
            rw [bs_toList, he, show kindL L1 p1 = 1 from by unfold kindL; rw [he2]; exact hk] at h
            exact h
      clear hmw hg1 hw1 hag1 hh1 hk1 hn1
      rcases hpk with ⟨e0, _⟩ | ⟨e0, hpk⟩
      · skip
        go_upto_region 14 with (first
          | (go_at_call 44; refine (HMk.out _ H2.out.t).mono ?_; rintro r w3 ⟨rfl, nd2, he2, ht2, hx2⟩
             have H3 := Lib.hid (H2.out.turn ht2 hx2)
             have He3 := Lib.hid he2
             clear he2 ht2 hx2 HMk H2)
          | (go_at_call 35; refine (HF1.out _ He3.out _ H3.out.t).mono ?_; rintro r w4 ⟨hb, rfl⟩
             have H4 := Lib.hid (H3.out.below hb)
             clear hb H3 HF1)
          | (go_at_call 20; refine (list_as H4.out.t He3.out Hn1.out).mono ?_; rintro r w5 ⟨mo, mc, rfl, hnow, hb⟩
             have H5 := Lib.hid (H4.out.below hb)
             have HM5 := Lib.hid hnow
             clear hnow hb H4)
          | (go_at_call 44; refine (HMk2.out _ He3.out _ H5.out.t).mono ?_; rintro r w6 ⟨rfl, nd3, he6, ht6, hx6⟩
             have H6 := Lib.hid (H5.out.turn ht6 hx6)
             have He6 := Lib.hid he6
             have HM6 := Lib.hid (HM5.out.turned hx6)
             clear he6 ht6 hx6 HMk2 H5 HM5)
          | (go_at_call 46; refine (HK1.out _ He6.out _ H6.out).mono ?_; rintro r w8 ⟨rfl, hb⟩
             have H8 := Lib.hid (H6.out.below hb)
             have HM8 := Lib.hid (HM6.out.below hb)
             clear hb H6 HM6)
          | (go_at_call 20; refine (list_as H8.out.t He6.out Hn1.out).mono ?_; rintro r w9 ⟨lo, lc, rfl, hnow, hb⟩
             have H9 := Lib.hid (H8.out.below hb)
             have HM9 := Lib.hid (HM8.out.below hb).ents
             have HN9 := Lib.hid hnow.ents
             clear hnow hb H8 HM8)
          | (go_at_call 23; refine (HSm1.out _ _ w9 HN9.out HM9.out).mono ?_; rintro r w10 ⟨hb, rfl⟩
             have Hz := Lib.hid (H9.out.below hb).one
             clear hb H9 HN9 HM9))
        clear HK1 HSm1 b0 e0 He3 He6
        cases hp2 : makeWay false L s.data.toList with
        | mk L2 x2 =>
        cases x2 with
        | error n2 =>
          obtain ⟨hL2, hn2⟩ := makeWay_err hp2
          have hev := errV_pos hn2
          have HPl := Lib.hid (fun (W : World) (hW : TreeAt W U ru mu w.heap.size nu) => place_no s W hW hs (by rw [HeU.out]; exact hp2))
          have Hev := Lib.hid hev
          clear hp2 hL2 hn2 hev
          go_wp2_with (first
            | (go_at_call 47; refine (HPl.out _ Hz.out.u).mono ?_; rintro r wa ⟨rfl, nu2, he2, ht2, hx2⟩
               have Ha := Lib.hid (Hz.out.turn ht2 hx2)
               have Hea := Lib.hid (he2.trans HeU.out)
               rw [Hev.out]
               clear he2 ht2 hx2 HPl)
            | (go_at_call 20; refine (list_as Ha.out.u Hea.out Hn.out).mono ?_; rintro r wb ⟨lo, lc, rfl, hnow, hb⟩
               have Hb2 := Lib.hid (Ha.out.below hb)
               have HNb := Lib.hid hnow.ents
               clear hnow hb Ha)
            | (go_at_call 23; refine (HSm.out _ _ wb HNb.out Hb2.out.e).mono ?_; rintro r wc9 ⟨hb, rfl⟩
               have Hc := Lib.hid (Hb2.out.below hb)
               clear hb Hb2)
            | (go_at_call 33; refine (works_any _ Hc.out.hd).mono ?_; rintro r wd ⟨rfl, hb⟩
               have Hd := Lib.hid (Hc.out.below hb)
               clear hb Hc))
          go_ret
          exact ⟨rfl, Hd.out.bel⟩
        | ok p2 =>
          have hsz := place_size Hgood.out hp2
          obtain ⟨hg2, hk2, hpar2, hnew2⟩ := place_law Hgood.out hp2
          obtain ⟨n2, hn2⟩ : ∃ n, n = L2.length := ⟨_, rfl⟩
          have hl2 := hg2.len
          rw [← hn2] at hl2
          have HPl := Lib.hid (fun (W : World) (hW : TreeAt W U ru mu w.heap.size nu) => place_ok s W hW hs (by rw [HeU.out]; exact hp2))
          have HK := Lib.hid (fun (nu2 : List Nd) (he : ents nu2 = L2) (W : World) (hW : One w W U ru mu nu2 (.slice o n cap) L) => kept_any (.slice o n cap) L W (hW.u.lower (Nat.zero_le _)) hW.e (by rw [he]; exact hk2) Hl.out)
          have HPr := Lib.hid (fun W => rparent_any (bs p2) W (by rw [bs_size]; omega))
          rw [bs_toList] at HPr
          have hpsz : (parent p2).length ≤ 255 := Nat.le_trans (parent_length p2) hsz
          have HKp := Lib.hid (fun (nu2 : List Nd) (he : ents nu2 = L2) (W : World) (hW : One w W U ru mu nu2 (.slice o n cap) L) (q : List UInt8) (hq : q.length ≤ 255) => (show Calls Tryz.prog 45 #[.pointer (some ⟨U, 0, none⟩), .string (bs q)] W fun r w' => Below W.heap.size W w' ∧ r = .returned (.int .i64 (kindL L2 q)) from by have h := kind_as (bs q) W (hW.u.lower (Nat.zero_le _)) (by rw [bs_size]; omega); rw [bs_toList, he] at h; exact h))
          have Hn2 := Lib.hid hn2
          clear hp2 hk2
          by_cases hp0 : p2 = []
          · subst hp0
            have e1 : (bs ([] : List UInt8)).toList.isEmpty = true := emptyB_t (by rw [bs_toList])
            have e2 : parent ([] : List UInt8) = [] := rfl
            rw [e2] at HPr
            clear hpar2 hnew2 e2 hn2 hsz hpsz
            go_wp2_with (first
              | (go_at_call 47; refine (HPl.out _ Hz.out.u).mono ?_; rintro r wa ⟨rfl, nu2, he2, ht2, hx2⟩
                 have Ha := Lib.hid (Hz.out.turn ht2 hx2)
                 have Hea := Lib.hid he2
                 clear he2 ht2 hx2 HPl)
              | (go_at_call 48; refine (HPr.out _).mono ?_; rintro r w9 ⟨rfl, rfl⟩)
              | (go_at_call 46; refine (HK.out _ Hea.out _ Ha.out).mono ?_; rintro r wb ⟨rfl, hb⟩
                 have Hb2 := Lib.hid (Ha.out.below hb)
                 clear hb Ha)
              | (go_at_call 33; refine (works_any _ Hb2.out.hd).mono ?_; rintro r wd ⟨rfl, hb⟩
                 have Hd := Lib.hid (Hb2.out.below hb)
                 clear hb Hb2))
            go_ret
            exact ⟨rfl, Hd.out.bel⟩
          · have e1 : (bs p2).toList.isEmpty = false := emptyB_f (by rw [bs_toList]; exact hp0)
            have hpk : ((bs (parent p2)).toList.isEmpty = true ∧ True) ∨ ((bs (parent p2)).toList.isEmpty = false ∧ kindL L2 (parent p2) = 1) := by
              by_cases hq : parent p2 = []
              · exact .inl ⟨emptyB_t (by rw [bs_toList]; exact hq), trivial⟩
              · refine .inr ⟨emptyB_f (by rw [bs_toList]; exact hq), ?_⟩
                rcases hpar2 with h | ⟨e, he, hk⟩
                · exact absurd h hq
                · unfold kindL; rw [he]; exact hk
            clear hpar2
            cases hlk : lookE L2 p2 with
            | some e =>
              have hke : kindL L2 p2 = e.k := by unfold kindL; rw [hlk]
              have hk13 := kinds hg2 hlk
              have b9 : (e.k == 0) = false := by simp; omega
              have HK2 := Lib.hid (fun nu2 he W hW => HKp.out nu2 he W hW p2 hsz)
              rw [hke] at HK2
              have b10 : ¬ e.k = 0 := by omega
              have b11 : (e.k != 0) = true := by simp; omega
              generalize e.k = ek at *
              clear hnew2 hlk hke hk13 hn2 hg2
              rcases hpk with ⟨e3, _⟩ | ⟨e3, hk3⟩
              · clear HKp
                go_wp2_with (first
                  | (go_at_call 47; refine (HPl.out _ Hz.out.u).mono ?_; rintro r wa ⟨rfl, nu2, he2, ht2, hx2⟩
                     have Ha := Lib.hid (Hz.out.turn ht2 hx2)
                     have Hea := Lib.hid he2
                     clear he2 ht2 hx2 HPl)
                  | (go_at_call 48; refine (HPr.out _).mono ?_; rintro r w9 ⟨rfl, rfl⟩)
                  | (go_at_call 46; refine (HK.out _ Hea.out _ Ha.out).mono ?_; rintro r wb ⟨rfl, hb⟩
                     have Hb2 := Lib.hid (Ha.out.below hb)
                     clear hb Ha)
                  | (go_at_call 45; refine (HK2.out _ Hea.out _ Hb2.out).mono ?_; rintro r wc9 ⟨hb, rfl⟩
                     have Hc := Lib.hid (Hb2.out.below hb)
                     clear hb Hb2)
                  | (go_at_call 33; refine (works_any _ Hc.out.hd).mono ?_; rintro r wd ⟨rfl, hb⟩
                     have Hd := Lib.hid (Hc.out.below hb)
                     clear hb Hc))
                go_ret
                exact ⟨rfl, Hd.out.bel⟩
              · have HK1 := Lib.hid (fun nu2 he W hW => HKp.out nu2 he W hW (parent p2) hpsz)
                rw [hk3] at HK1
                clear HKp hk3
                go_wp2_with (first
                  | (go_at_call 47; refine (HPl.out _ Hz.out.u).mono ?_; rintro r wa ⟨rfl, nu2, he2, ht2, hx2⟩
                     have Ha := Lib.hid (Hz.out.turn ht2 hx2)
                     have Hea := Lib.hid he2
                     clear he2 ht2 hx2 HPl)
                  | (go_at_call 48; refine (HPr.out _).mono ?_; rintro r w9 ⟨rfl, rfl⟩)
                  | (go_at_call 46; refine (HK.out _ Hea.out _ Ha.out).mono ?_; rintro r wb ⟨rfl, hb⟩
                     have Hb2 := Lib.hid (Ha.out.below hb)
                     clear hb Ha)
                  | (go_at_call 45; refine (HK1.out _ Hea.out _ Hb2.out).mono ?_; rintro r wx9 ⟨hb, rfl⟩
                     have Hx := Lib.hid (Hb2.out.below hb)
                     clear hb Hb2 HK1)
                  | (go_at_call 45; refine (HK2.out _ Hea.out _ Hx.out).mono ?_; rintro r wc9 ⟨hb, rfl⟩
                     have Hc := Lib.hid (Hx.out.below hb)
                     clear hb Hx)
                  | (go_at_call 33; refine (works_any _ Hc.out.hd).mono ?_; rintro r wd ⟨rfl, hb⟩
                     have Hd := Lib.hid (Hc.out.below hb)
                     clear hb Hc))
                go_ret
                exact ⟨rfl, Hd.out.bel⟩
            | none =>
              have hke : kindL L2 p2 = 0 := by unfold kindL; rw [hlk]
              have HK2 := Lib.hid (fun nu2 he W hW => HKp.out nu2 he W hW p2 hsz)
              rw [hke] at HK2
              clear hke
              by_cases hfull : 4096 ≤ n2
              · clear hnew2 hlk hn2 hg2
                rcases hpk with ⟨e3, _⟩ | ⟨e3, hk3⟩
                · clear HKp
                  go_wp2_with (first
                    | (go_at_call 47; refine (HPl.out _ Hz.out.u).mono ?_; rintro r wa ⟨rfl, nu2, he2, ht2, hx2⟩
                       have Ha := Lib.hid (Hz.out.turn ht2 hx2)
                       have Hea := Lib.hid he2
                       clear he2 ht2 hx2 HPl)
                    | (go_at_call 48; refine (HPr.out _).mono ?_; rintro r w9 ⟨rfl, rfl⟩)
                    | (go_at_call 46; refine (HK.out _ Hea.out _ Ha.out).mono ?_; rintro r wb ⟨rfl, hb⟩
                       have Hb2 := Lib.hid (Ha.out.below hb)
                       clear hb Ha)
                    | (go_at_call 45; refine (HK2.out _ Hea.out _ Hb2.out).mono ?_; rintro r wc9 ⟨hb, rfl⟩
                       have Hc := Lib.hid (Hb2.out.below hb)
                       clear hb Hb2)
                    | (go_at_call 20; refine (list_as Hc.out.u Hea.out Hn2.out).mono ?_; rintro r wf ⟨lo, lc, rfl, hnow, hb⟩
                       have Hf := Lib.hid (Hc.out.below hb)
                       clear hnow hb Hc)
                    | (go_at_call 33; refine (works_any _ Hf.out.hd).mono ?_; rintro r wd ⟨rfl, hb⟩
                       have Hd := Lib.hid (Hf.out.below hb)
                       clear hb Hf))
                  go_ret
                  exact ⟨rfl, Hd.out.bel⟩
                · have HK1 := Lib.hid (fun nu2 he W hW => HKp.out nu2 he W hW (parent p2) hpsz)
                  rw [hk3] at HK1
                  clear HKp hk3
                  go_wp2_with (first
                    | (go_at_call 47; refine (HPl.out _ Hz.out.u).mono ?_; rintro r wa ⟨rfl, nu2, he2, ht2, hx2⟩
                       have Ha := Lib.hid (Hz.out.turn ht2 hx2)
                       have Hea := Lib.hid he2
                       clear he2 ht2 hx2 HPl)
                    | (go_at_call 48; refine (HPr.out _).mono ?_; rintro r w9 ⟨rfl, rfl⟩)
                    | (go_at_call 46; refine (HK.out _ Hea.out _ Ha.out).mono ?_; rintro r wb ⟨rfl, hb⟩
                       have Hb2 := Lib.hid (Ha.out.below hb)
                       clear hb Ha)
                    | (go_at_call 45; refine (HK1.out _ Hea.out _ Hb2.out).mono ?_; rintro r wx9 ⟨hb, rfl⟩
                       have Hx := Lib.hid (Hb2.out.below hb)
                       clear hb Hb2 HK1)
                    | (go_at_call 45; refine (HK2.out _ Hea.out _ Hx.out).mono ?_; rintro r wc9 ⟨hb, rfl⟩
                       have Hc := Lib.hid (Hx.out.below hb)
                       clear hb Hx)
                    | (go_at_call 20; refine (list_as Hc.out.u Hea.out Hn2.out).mono ?_; rintro r wf ⟨lo, lc, rfl, hnow, hb⟩
                       have Hf := Lib.hid (Hc.out.below hb)
                       clear hnow hb Hc)
                    | (go_at_call 33; refine (works_any _ Hf.out.hd).mono ?_; rintro r wd ⟨rfl, hb⟩
                       have Hd := Lib.hid (Hf.out.below hb)
                       clear hb Hf))
                  go_ret
                  exact ⟨rfl, Hd.out.bel⟩
              · have hlt : n2 < 4096 := by omega
                obtain ⟨hput, tr9, hway⟩ := hnew2 hp0 hlk (by rw [← hn2]; exact hlt)
                have HPu := Lib.hid (fun (nu2 : List Nd) (he : ents nu2 = L2) (W : World) (hW : One w W U ru mu nu2 (.slice o n cap) L) => put_file W hW.u he hsz hput)
                have HFd := Lib.hid (fun (nu3 : List Nd) (he : ents nu3 = laidL L2 (fileE p2)) (W : World) (hW : One w W U ru mu nu3 (.slice o n cap) L) => find_as s true W (hW.u.lower (Nat.zero_le _)) hs (by rw [he]; exact hway))
                clear hlk hn2 hg2 hput hway hfull
                rcases hpk with ⟨e3, _⟩ | ⟨e3, hk3⟩
                · clear HKp
                  go_wp2_with (first
                    | (go_at_call 47; refine (HPl.out _ Hz.out.u).mono ?_; rintro r wa ⟨rfl, nu2, he2, ht2, hx2⟩
                       have Ha := Lib.hid (Hz.out.turn ht2 hx2)
                       have Hea := Lib.hid he2
                       clear he2 ht2 hx2 HPl)
                    | (go_at_call 48; refine (HPr.out _).mono ?_; rintro r w9 ⟨rfl, rfl⟩)
                    | (go_at_call 46; refine (HK.out _ Hea.out _ Ha.out).mono ?_; rintro r wb ⟨rfl, hb⟩
                       have Hb2 := Lib.hid (Ha.out.below hb)
                       clear hb Ha)
                    | (go_at_call 45; refine (HK2.out _ Hea.out _ Hb2.out).mono ?_; rintro r wc9 ⟨hb, rfl⟩
                       have Hc := Lib.hid (Hb2.out.below hb)
                       clear hb Hb2)
                    | (go_at_call 20; refine (list_as Hc.out.u Hea.out Hn2.out).mono ?_; rintro r wf ⟨lo, lc, rfl, hnow, hb⟩
                       have Hf := Lib.hid (Hc.out.below hb)
                       clear hnow hb Hc)
                    | (go_at_call 18; refine (HPu.out _ Hea.out _ Hf.out).mono ?_; rintro r wg ⟨rfl, nu3, he3, ht3, hx3⟩
                       have Hg3 := Lib.hid (Hf.out.turn ht3 hx3)
                       have Heg := Lib.hid he3
                       clear he3 ht3 hx3 Hf HPu)
                    | (go_at_call 35; refine (HFd.out _ Heg.out _ Hg3.out).mono ?_; rintro r wh ⟨hb, rfl⟩
                       have Hh := Lib.hid (Hg3.out.below hb)
                       clear hb Hg3 HFd)
                    | (go_at_call 33; refine (works_any _ Hh.out.hd).mono ?_; rintro r wd ⟨rfl, hb⟩
                       have Hd := Lib.hid (Hh.out.below hb)
                       clear hb Hh))
                  go_ret
                  exact ⟨rfl, Hd.out.bel⟩
                · have HK1 := Lib.hid (fun nu2 he W hW => HKp.out nu2 he W hW (parent p2) hpsz)
                  rw [hk3] at HK1
                  clear HKp hk3
                  go_wp2_with (first
                    | (go_at_call 47; refine (HPl.out _ Hz.out.u).mono ?_; rintro r wa ⟨rfl, nu2, he2, ht2, hx2⟩
                       have Ha := Lib.hid (Hz.out.turn ht2 hx2)
                       have Hea := Lib.hid he2
                       clear he2 ht2 hx2 HPl)
                    | (go_at_call 48; refine (HPr.out _).mono ?_; rintro r w9 ⟨rfl, rfl⟩)
                    | (go_at_call 46; refine (HK.out _ Hea.out _ Ha.out).mono ?_; rintro r wb ⟨rfl, hb⟩
                       have Hb2 := Lib.hid (Ha.out.below hb)
                       clear hb Ha)
                    | (go_at_call 45; refine (HK1.out _ Hea.out _ Hb2.out).mono ?_; rintro r wx9 ⟨hb, rfl⟩
                       have Hx := Lib.hid (Hb2.out.below hb)
                       clear hb Hb2 HK1)
                    | (go_at_call 45; refine (HK2.out _ Hea.out _ Hx.out).mono ?_; rintro r wc9 ⟨hb, rfl⟩
                       have Hc := Lib.hid (Hx.out.below hb)
                       clear hb Hx)
                    | (go_at_call 20; refine (list_as Hc.out.u Hea.out Hn2.out).mono ?_; rintro r wf ⟨lo, lc, rfl, hnow, hb⟩
                       have Hf := Lib.hid (Hc.out.below hb)
                       clear hnow hb Hc)
                    | (go_at_call 18; refine (HPu.out _ Hea.out _ Hf.out).mono ?_; rintro r wg ⟨rfl, nu3, he3, ht3, hx3⟩
                       have Hg3 := Lib.hid (Hf.out.turn ht3 hx3)
                       have Heg := Lib.hid he3
                       clear he3 ht3 hx3 Hf HPu)
                    | (go_at_call 35; refine (HFd.out _ Heg.out _ Hg3.out).mono ?_; rintro r wh ⟨hb, rfl⟩
                       have Hh := Lib.hid (Hg3.out.below hb)
                       clear hb Hg3 HFd)
                    | (go_at_call 33; refine (works_any _ Hh.out.hd).mono ?_; rintro r wd ⟨rfl, hb⟩
                       have Hd := Lib.hid (Hh.out.below hb)
                       clear hb Hh))
                  go_ret
                  exact ⟨rfl, Hd.out.bel⟩
      · have Hpk := Lib.hid hpk
        clear hpk
        go_upto_region 14 with (first
          | (go_at_call 44; refine (HMk.out _ H2.out.t).mono ?_; rintro r w3 ⟨rfl, nd2, he2, ht2, hx2⟩
             have H3 := Lib.hid (H2.out.turn ht2 hx2)
             have He3 := Lib.hid he2
             clear he2 ht2 hx2 HMk H2)
          | (go_at_call 35; refine (HF1.out _ He3.out _ H3.out.t).mono ?_; rintro r w4 ⟨hb, rfl⟩
             have H4 := Lib.hid (H3.out.below hb)
             clear hb H3 HF1)
          | (go_at_call 20; refine (list_as H4.out.t He3.out Hn1.out).mono ?_; rintro r w5 ⟨mo, mc, rfl, hnow, hb⟩
             have H5 := Lib.hid (H4.out.below hb)
             have HM5 := Lib.hid hnow
             clear hnow hb H4)
          | (go_at_call 44; refine (HMk2.out _ He3.out _ H5.out.t).mono ?_; rintro r w6 ⟨rfl, nd3, he6, ht6, hx6⟩
             have H6 := Lib.hid (H5.out.turn ht6 hx6)
             have He6 := Lib.hid he6
             have HM6 := Lib.hid (HM5.out.turned hx6)
             clear he6 ht6 hx6 HMk2 H5 HM5)
          | (go_at_call 45; refine (Hpk.out _ He6.out _ H6.out.t).mono ?_; rintro r w7 ⟨hb, rfl⟩
             have H7 := Lib.hid (H6.out.below hb)
             have HM7 := Lib.hid (HM6.out.below hb)
             clear hb H6 HM6)
          | (go_at_call 46; refine (HK1.out _ He6.out _ H7.out).mono ?_; rintro r w8 ⟨rfl, hb⟩
             have H8 := Lib.hid (H7.out.below hb)
             have HM8 := Lib.hid (HM7.out.below hb)
             clear hb H7 HM7)
          | (go_at_call 20; refine (list_as H8.out.t He6.out Hn1.out).mono ?_; rintro r w9 ⟨lo, lc, rfl, hnow, hb⟩
             have H9 := Lib.hid (H8.out.below hb)
             have HM9 := Lib.hid (HM8.out.below hb).ents
             have HN9 := Lib.hid hnow.ents
             clear hnow hb H8 HM8)
          | (go_at_call 23; refine (HSm1.out _ _ w9 HN9.out HM9.out).mono ?_; rintro r w10 ⟨hb, rfl⟩
             have Hz := Lib.hid (H9.out.below hb).one
             clear hb H9 HN9 HM9))
        clear HK1 HSm1 b0 e0 He3 He6 Hpk
        cases hp2 : makeWay false L s.data.toList with
        | mk L2 x2 =>
        cases x2 with
        | error n2 =>
          obtain ⟨hL2, hn2⟩ := makeWay_err hp2
          have hev := errV_pos hn2
          have HPl := Lib.hid (fun (W : World) (hW : TreeAt W U ru mu w.heap.size nu) => place_no s W hW hs (by rw [HeU.out]; exact hp2))
          have Hev := Lib.hid hev
          clear hp2 hL2 hn2 hev
          go_wp2_with (first
            | (go_at_call 47; refine (HPl.out _ Hz.out.u).mono ?_; rintro r wa ⟨rfl, nu2, he2, ht2, hx2⟩
               have Ha := Lib.hid (Hz.out.turn ht2 hx2)
               have Hea := Lib.hid (he2.trans HeU.out)
               rw [Hev.out]
               clear he2 ht2 hx2 HPl)
            | (go_at_call 20; refine (list_as Ha.out.u Hea.out Hn.out).mono ?_; rintro r wb ⟨lo, lc, rfl, hnow, hb⟩
               have Hb2 := Lib.hid (Ha.out.below hb)
               have HNb := Lib.hid hnow.ents
               clear hnow hb Ha)
            | (go_at_call 23; refine (HSm.out _ _ wb HNb.out Hb2.out.e).mono ?_; rintro r wc9 ⟨hb, rfl⟩
               have Hc := Lib.hid (Hb2.out.below hb)
               clear hb Hb2)
            | (go_at_call 33; refine (works_any _ Hc.out.hd).mono ?_; rintro r wd ⟨rfl, hb⟩
               have Hd := Lib.hid (Hc.out.below hb)
               clear hb Hc))
          go_ret
          exact ⟨rfl, Hd.out.bel⟩
        | ok p2 =>
          have hsz := place_size Hgood.out hp2
          obtain ⟨hg2, hk2, hpar2, hnew2⟩ := place_law Hgood.out hp2
          obtain ⟨n2, hn2⟩ : ∃ n, n = L2.length := ⟨_, rfl⟩
          have hl2 := hg2.len
          rw [← hn2] at hl2
          have HPl := Lib.hid (fun (W : World) (hW : TreeAt W U ru mu w.heap.size nu) => place_ok s W hW hs (by rw [HeU.out]; exact hp2))
          have HK := Lib.hid (fun (nu2 : List Nd) (he : ents nu2 = L2) (W : World) (hW : One w W U ru mu nu2 (.slice o n cap) L) => kept_any (.slice o n cap) L W (hW.u.lower (Nat.zero_le _)) hW.e (by rw [he]; exact hk2) Hl.out)
          have HPr := Lib.hid (fun W => rparent_any (bs p2) W (by rw [bs_size]; omega))
          rw [bs_toList] at HPr
          have hpsz : (parent p2).length ≤ 255 := Nat.le_trans (parent_length p2) hsz
          have HKp := Lib.hid (fun (nu2 : List Nd) (he : ents nu2 = L2) (W : World) (hW : One w W U ru mu nu2 (.slice o n cap) L) (q : List UInt8) (hq : q.length ≤ 255) => (show Calls Tryz.prog 45 #[.pointer (some ⟨U, 0, none⟩), .string (bs q)] W fun r w' => Below W.heap.size W w' ∧ r = .returned (.int .i64 (kindL L2 q)) from by have h := kind_as (bs q) W (hW.u.lower (Nat.zero_le _)) (by rw [bs_size]; omega); rw [bs_toList, he] at h; exact h))
          have Hn2 := Lib.hid hn2
          clear hp2 hk2
          by_cases hp0 : p2 = []
          · subst hp0
            have e1 : (bs ([] : List UInt8)).toList.isEmpty = true := emptyB_t (by rw [bs_toList])
            have e2 : parent ([] : List UInt8) = [] := rfl
            rw [e2] at HPr
            clear hpar2 hnew2 e2 hn2 hsz hpsz
            go_wp2_with (first
              | (go_at_call 47; refine (HPl.out _ Hz.out.u).mono ?_; rintro r wa ⟨rfl, nu2, he2, ht2, hx2⟩
                 have Ha := Lib.hid (Hz.out.turn ht2 hx2)
                 have Hea := Lib.hid he2
                 clear he2 ht2 hx2 HPl)
              | (go_at_call 48; refine (HPr.out _).mono ?_; rintro r w9 ⟨rfl, rfl⟩)
              | (go_at_call 46; refine (HK.out _ Hea.out _ Ha.out).mono ?_; rintro r wb ⟨rfl, hb⟩
                 have Hb2 := Lib.hid (Ha.out.below hb)
                 clear hb Ha)
              | (go_at_call 33; refine (works_any _ Hb2.out.hd).mono ?_; rintro r wd ⟨rfl, hb⟩
                 have Hd := Lib.hid (Hb2.out.below hb)
                 clear hb Hb2))
            go_ret
            exact ⟨rfl, Hd.out.bel⟩
          · have e1 : (bs p2).toList.isEmpty = false := emptyB_f (by rw [bs_toList]; exact hp0)
            have hpk : ((bs (parent p2)).toList.isEmpty = true ∧ True) ∨ ((bs (parent p2)).toList.isEmpty = false ∧ kindL L2 (parent p2) = 1) := by
              by_cases hq : parent p2 = []
              · exact .inl ⟨emptyB_t (by rw [bs_toList]; exact hq), trivial⟩
              · refine .inr ⟨emptyB_f (by rw [bs_toList]; exact hq), ?_⟩
                rcases hpar2 with h | ⟨e, he, hk⟩
                · exact absurd h hq
                · unfold kindL; rw [he]; exact hk
            clear hpar2
            cases hlk : lookE L2 p2 with
            | some e =>
              have hke : kindL L2 p2 = e.k := by unfold kindL; rw [hlk]
              have hk13 := kinds hg2 hlk
              have b9 : (e.k == 0) = false := by simp; omega
              have HK2 := Lib.hid (fun nu2 he W hW => HKp.out nu2 he W hW p2 hsz)
              rw [hke] at HK2
              have b10 : ¬ e.k = 0 := by omega
              have b11 : (e.k != 0) = true := by simp; omega
              generalize e.k = ek at *
              clear hnew2 hlk hke hk13 hn2 hg2
              rcases hpk with ⟨e3, _⟩ | ⟨e3, hk3⟩
              · clear HKp
                go_wp2_with (first
                  | (go_at_call 47; refine (HPl.out _ Hz.out.u).mono ?_; rintro r wa ⟨rfl, nu2, he2, ht2, hx2⟩
                     have Ha := Lib.hid (Hz.out.turn ht2 hx2)
                     have Hea := Lib.hid he2
                     clear he2 ht2 hx2 HPl)
                  | (go_at_call 48; refine (HPr.out _).mono ?_; rintro r w9 ⟨rfl, rfl⟩)
                  | (go_at_call 46; refine (HK.out _ Hea.out _ Ha.out).mono ?_; rintro r wb ⟨rfl, hb⟩
                     have Hb2 := Lib.hid (Ha.out.below hb)
                     clear hb Ha)
                  | (go_at_call 45; refine (HK2.out _ Hea.out _ Hb2.out).mono ?_; rintro r wc9 ⟨hb, rfl⟩
                     have Hc := Lib.hid (Hb2.out.below hb)
                     clear hb Hb2)
                  | (go_at_call 33; refine (works_any _ Hc.out.hd).mono ?_; rintro r wd ⟨rfl, hb⟩
                     have Hd := Lib.hid (Hc.out.below hb)
                     clear hb Hc))
                go_ret
                exact ⟨rfl, Hd.out.bel⟩
              · have HK1 := Lib.hid (fun nu2 he W hW => HKp.out nu2 he W hW (parent p2) hpsz)
                rw [hk3] at HK1
                clear HKp hk3
                go_wp2_with (first
                  | (go_at_call 47; refine (HPl.out _ Hz.out.u).mono ?_; rintro r wa ⟨rfl, nu2, he2, ht2, hx2⟩
                     have Ha := Lib.hid (Hz.out.turn ht2 hx2)
                     have Hea := Lib.hid he2
                     clear he2 ht2 hx2 HPl)
                  | (go_at_call 48; refine (HPr.out _).mono ?_; rintro r w9 ⟨rfl, rfl⟩)
                  | (go_at_call 46; refine (HK.out _ Hea.out _ Ha.out).mono ?_; rintro r wb ⟨rfl, hb⟩
                     have Hb2 := Lib.hid (Ha.out.below hb)
                     clear hb Ha)
                  | (go_at_call 45; refine (HK1.out _ Hea.out _ Hb2.out).mono ?_; rintro r wx9 ⟨hb, rfl⟩
                     have Hx := Lib.hid (Hb2.out.below hb)
                     clear hb Hb2 HK1)
                  | (go_at_call 45; refine (HK2.out _ Hea.out _ Hx.out).mono ?_; rintro r wc9 ⟨hb, rfl⟩
                     have Hc := Lib.hid (Hx.out.below hb)
                     clear hb Hx)
                  | (go_at_call 33; refine (works_any _ Hc.out.hd).mono ?_; rintro r wd ⟨rfl, hb⟩
                     have Hd := Lib.hid (Hc.out.below hb)
                     clear hb Hc))
                go_ret
                exact ⟨rfl, Hd.out.bel⟩
            | none =>
              have hke : kindL L2 p2 = 0 := by unfold kindL; rw [hlk]
              have HK2 := Lib.hid (fun nu2 he W hW => HKp.out nu2 he W hW p2 hsz)
              rw [hke] at HK2
              clear hke
              by_cases hfull : 4096 ≤ n2
              · clear hnew2 hlk hn2 hg2
                rcases hpk with ⟨e3, _⟩ | ⟨e3, hk3⟩
                · clear HKp
                  go_wp2_with (first
                    | (go_at_call 47; refine (HPl.out _ Hz.out.u).mono ?_; rintro r wa ⟨rfl, nu2, he2, ht2, hx2⟩
                       have Ha := Lib.hid (Hz.out.turn ht2 hx2)
                       have Hea := Lib.hid he2
                       clear he2 ht2 hx2 HPl)
                    | (go_at_call 48; refine (HPr.out _).mono ?_; rintro r w9 ⟨rfl, rfl⟩)
                    | (go_at_call 46; refine (HK.out _ Hea.out _ Ha.out).mono ?_; rintro r wb ⟨rfl, hb⟩
                       have Hb2 := Lib.hid (Ha.out.below hb)
                       clear hb Ha)
                    | (go_at_call 45; refine (HK2.out _ Hea.out _ Hb2.out).mono ?_; rintro r wc9 ⟨hb, rfl⟩
                       have Hc := Lib.hid (Hb2.out.below hb)
                       clear hb Hb2)
                    | (go_at_call 20; refine (list_as Hc.out.u Hea.out Hn2.out).mono ?_; rintro r wf ⟨lo, lc, rfl, hnow, hb⟩
                       have Hf := Lib.hid (Hc.out.below hb)
                       clear hnow hb Hc)
                    | (go_at_call 33; refine (works_any _ Hf.out.hd).mono ?_; rintro r wd ⟨rfl, hb⟩
                       have Hd := Lib.hid (Hf.out.below hb)
                       clear hb Hf))
                  go_ret
                  exact ⟨rfl, Hd.out.bel⟩
                · have HK1 := Lib.hid (fun nu2 he W hW => HKp.out nu2 he W hW (parent p2) hpsz)
                  rw [hk3] at HK1
                  clear HKp hk3
                  go_wp2_with (first
                    | (go_at_call 47; refine (HPl.out _ Hz.out.u).mono ?_; rintro r wa ⟨rfl, nu2, he2, ht2, hx2⟩
                       have Ha := Lib.hid (Hz.out.turn ht2 hx2)
                       have Hea := Lib.hid he2
                       clear he2 ht2 hx2 HPl)
                    | (go_at_call 48; refine (HPr.out _).mono ?_; rintro r w9 ⟨rfl, rfl⟩)
                    | (go_at_call 46; refine (HK.out _ Hea.out _ Ha.out).mono ?_; rintro r wb ⟨rfl, hb⟩
                       have Hb2 := Lib.hid (Ha.out.below hb)
                       clear hb Ha)
                    | (go_at_call 45; refine (HK1.out _ Hea.out _ Hb2.out).mono ?_; rintro r wx9 ⟨hb, rfl⟩
                       have Hx := Lib.hid (Hb2.out.below hb)
                       clear hb Hb2 HK1)
                    | (go_at_call 45; refine (HK2.out _ Hea.out _ Hx.out).mono ?_; rintro r wc9 ⟨hb, rfl⟩
                       have Hc := Lib.hid (Hx.out.below hb)
                       clear hb Hx)
                    | (go_at_call 20; refine (list_as Hc.out.u Hea.out Hn2.out).mono ?_; rintro r wf ⟨lo, lc, rfl, hnow, hb⟩
                       have Hf := Lib.hid (Hc.out.below hb)
                       clear hnow hb Hc)
                    | (go_at_call 33; refine (works_any _ Hf.out.hd).mono ?_; rintro r wd ⟨rfl, hb⟩
                       have Hd := Lib.hid (Hf.out.below hb)
                       clear hb Hf))
                  go_ret
                  exact ⟨rfl, Hd.out.bel⟩
              · have hlt : n2 < 4096 := by omega
                obtain ⟨hput, tr9, hway⟩ := hnew2 hp0 hlk (by rw [← hn2]; exact hlt)
                have HPu := Lib.hid (fun (nu2 : List Nd) (he : ents nu2 = L2) (W : World) (hW : One w W U ru mu nu2 (.slice o n cap) L) => put_file W hW.u he hsz hput)
                have HFd := Lib.hid (fun (nu3 : List Nd) (he : ents nu3 = laidL L2 (fileE p2)) (W : World) (hW : One w W U ru mu nu3 (.slice o n cap) L) => find_as s true W (hW.u.lower (Nat.zero_le _)) hs (by rw [he]; exact hway))
                clear hlk hn2 hg2 hput hway hfull
                rcases hpk with ⟨e3, _⟩ | ⟨e3, hk3⟩
                · clear HKp
                  go_wp2_with (first
                    | (go_at_call 47; refine (HPl.out _ Hz.out.u).mono ?_; rintro r wa ⟨rfl, nu2, he2, ht2, hx2⟩
                       have Ha := Lib.hid (Hz.out.turn ht2 hx2)
                       have Hea := Lib.hid he2
                       clear he2 ht2 hx2 HPl)
                    | (go_at_call 48; refine (HPr.out _).mono ?_; rintro r w9 ⟨rfl, rfl⟩)
                    | (go_at_call 46; refine (HK.out _ Hea.out _ Ha.out).mono ?_; rintro r wb ⟨rfl, hb⟩
                       have Hb2 := Lib.hid (Ha.out.below hb)
                       clear hb Ha)
                    | (go_at_call 45; refine (HK2.out _ Hea.out _ Hb2.out).mono ?_; rintro r wc9 ⟨hb, rfl⟩
                       have Hc := Lib.hid (Hb2.out.below hb)
                       clear hb Hb2)
                    | (go_at_call 20; refine (list_as Hc.out.u Hea.out Hn2.out).mono ?_; rintro r wf ⟨lo, lc, rfl, hnow, hb⟩
                       have Hf := Lib.hid (Hc.out.below hb)
                       clear hnow hb Hc)
                    | (go_at_call 18; refine (HPu.out _ Hea.out _ Hf.out).mono ?_; rintro r wg ⟨rfl, nu3, he3, ht3, hx3⟩
                       have Hg3 := Lib.hid (Hf.out.turn ht3 hx3)
                       have Heg := Lib.hid he3
                       clear he3 ht3 hx3 Hf HPu)
                    | (go_at_call 35; refine (HFd.out _ Heg.out _ Hg3.out).mono ?_; rintro r wh ⟨hb, rfl⟩
                       have Hh := Lib.hid (Hg3.out.below hb)
                       clear hb Hg3 HFd)
                    | (go_at_call 33; refine (works_any _ Hh.out.hd).mono ?_; rintro r wd ⟨rfl, hb⟩
                       have Hd := Lib.hid (Hh.out.below hb)
                       clear hb Hh))
                  go_ret
                  exact ⟨rfl, Hd.out.bel⟩
                · have HK1 := Lib.hid (fun nu2 he W hW => HKp.out nu2 he W hW (parent p2) hpsz)
                  rw [hk3] at HK1
                  clear HKp hk3
                  go_wp2_with (first
                    | (go_at_call 47; refine (HPl.out _ Hz.out.u).mono ?_; rintro r wa ⟨rfl, nu2, he2, ht2, hx2⟩
                       have Ha := Lib.hid (Hz.out.turn ht2 hx2)
                       have Hea := Lib.hid he2
                       clear he2 ht2 hx2 HPl)
                    | (go_at_call 48; refine (HPr.out _).mono ?_; rintro r w9 ⟨rfl, rfl⟩)
                    | (go_at_call 46; refine (HK.out _ Hea.out _ Ha.out).mono ?_; rintro r wb ⟨rfl, hb⟩
                       have Hb2 := Lib.hid (Ha.out.below hb)
                       clear hb Ha)
                    | (go_at_call 45; refine (HK1.out _ Hea.out _ Hb2.out).mono ?_; rintro r wx9 ⟨hb, rfl⟩
                       have Hx := Lib.hid (Hb2.out.below hb)
                       clear hb Hb2 HK1)
                    | (go_at_call 45; refine (HK2.out _ Hea.out _ Hx.out).mono ?_; rintro r wc9 ⟨hb, rfl⟩
                       have Hc := Lib.hid (Hx.out.below hb)
                       clear hb Hx)
                    | (go_at_call 20; refine (list_as Hc.out.u Hea.out Hn2.out).mono ?_; rintro r wf ⟨lo, lc, rfl, hnow, hb⟩
                       have Hf := Lib.hid (Hc.out.below hb)
                       clear hnow hb Hc)
                    | (go_at_call 18; refine (HPu.out _ Hea.out _ Hf.out).mono ?_; rintro r wg ⟨rfl, nu3, he3, ht3, hx3⟩
                       have Hg3 := Lib.hid (Hf.out.turn ht3 hx3)
                       have Heg := Lib.hid he3
                       clear he3 ht3 hx3 Hf HPu)
                    | (go_at_call 35; refine (HFd.out _ Heg.out _ Hg3.out).mono ?_; rintro r wh ⟨hb, rfl⟩
                       have Hh := Lib.hid (Hg3.out.below hb)
                       clear hb Hg3 HFd)
                    | (go_at_call 33; refine (works_any _ Hh.out.hd).mono ?_; rintro r wd ⟨rfl, hb⟩
                       have Hd := Lib.hid (Hh.out.below hb)
                       clear hb Hh))
                  go_ret
                  exact ⟨rfl, Hd.out.bel⟩
  · go_enter Tryz.func9, Tryz.ntmps9
    go_wp2_with (first
      | (go_at_call 32; refine (Hof.out _ HEa.out).mono ?_; rintro r w1 ⟨_, h2, hb⟩; obtain rfl := h2 hc0
         have HG1 := Lib.hid (Hg.out.below hb (Nat.le_refl _))
         have HB1 := Lib.hid hb
         have HEb := Lib.hid (HEa.out.below hb (Nat.le_refl _))
         clear h2 hb HEa)
      | (go_at_call 32; refine (Hof.out _ HEb.out).mono ?_; rintro r w2 ⟨_, h2, hb⟩; obtain rfl := h2 hc0
         have HG2 := Lib.hid (HG1.out.below hb (Nat.le_refl _))
         have HB2 := Lib.hid (HB1.out.trans (hb.mono HB1.out.size))
         clear h2 hb HG1 HEb)
      | (go_at_call 33; refine (works_any _ HG2.out).mono ?_; rintro r w3 ⟨rfl, hb⟩
         have HB3 := Lib.hid (HB2.out.trans (hb.mono HB2.out.size))
         clear hb HG2))
    go_ret
    exact ⟨rfl, HB3.out⟩
end Go.Proofs.YtdkodedocklmdaaGreatDoor
