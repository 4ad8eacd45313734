/- The walk of ResolvePlays. -/
import Derived.Test.YtdkodedocklmdaaGreatDoorPAsks
import Derived.Test.YtdkodedocklmdaaGreatDoorPRow
import Derived.Deep.RegionHeld3
set_option linter.unusedSimpArgs false
set_option linter.unusedVariables false
namespace Go.Proofs.YtdkodedocklmdaaGreatDoor
open Go.RowKit Go.Shelf Go.Maps Go.Sort
open Go.Lib hiding intOf size_eq
/-- a walk that is stored into a block of its own, cell by cell -/
theorem eight_cells {w : World} {b : Nat} {t : TypeId} {a0 a1 a2 a3 a4 a5 a6 a7 v0 v1 v2 v3 v4 v5 v6 v7 : Value} (h : w.heap[b]? = some (.cells #[a0, a1, a2, a3, a4, a5, a6, a7] t (0, 0))) :
    ((((((((w.setCell ⟨b, 0, none⟩ v0).setCell ⟨b, 1, none⟩ v1).setCell ⟨b, 2, none⟩ v2).setCell ⟨b, 3, none⟩ v3).setCell ⟨b, 4, none⟩ v4).setCell ⟨b, 5, none⟩ v5).setCell ⟨b, 6, none⟩ v6).setCell ⟨b, 7, none⟩ v7).heap[b]? = some (.cells #[v0, v1, v2, v3, v4, v5, v6, v7] t (0, 0)) := by
  have h0 := heap_setCell_same w b 0 _ _ v0 h
  have h1 := heap_setCell_same _ b 1 _ _ v1 h0
  have h2 := heap_setCell_same _ b 2 _ _ v2 h1
  have h3 := heap_setCell_same _ b 3 _ _ v3 h2
  have h4 := heap_setCell_same _ b 4 _ _ v4 h3
  have h5 := heap_setCell_same _ b 5 _ _ v5 h4
  have h6 := heap_setCell_same _ b 6 _ _ v6 h5
  have h7 := heap_setCell_same _ b 7 _ _ v7 h6
  rw [h7]
  simp only [List.setIfInBounds_toArray, List.set_cons_zero, List.set_cons_succ]
theorem eight_other {w : World} {b k : Nat} (hk : k ≠ b) {v0 v1 v2 v3 v4 v5 v6 v7 : Value} :
    ((((((((w.setCell ⟨b, 0, none⟩ v0).setCell ⟨b, 1, none⟩ v1).setCell ⟨b, 2, none⟩ v2).setCell ⟨b, 3, none⟩ v3).setCell ⟨b, 4, none⟩ v4).setCell ⟨b, 5, none⟩ v5).setCell ⟨b, 6, none⟩ v6).setCell ⟨b, 7, none⟩ v7).heap[k]? = w.heap[k]? := by
  rw [heap_setCell_other _ _ _ _ hk, heap_setCell_other _ _ _ _ hk, heap_setCell_other _ _ _ _ hk, heap_setCell_other _ _ _ _ hk, heap_setCell_other _ _ _ _ hk, heap_setCell_other _ _ _ _ hk, heap_setCell_other _ _ _ _ hk, heap_setCell_other _ _ _ _ hk]
theorem eight_below {w w' : World} {B b : Nat} (h : Below B w w') (hb : B ≤ b) {v0 v1 v2 v3 v4 v5 v6 v7 : Value} :
    Below B w ((((((((w'.setCell ⟨b, 0, none⟩ v0).setCell ⟨b, 1, none⟩ v1).setCell ⟨b, 2, none⟩ v2).setCell ⟨b, 3, none⟩ v3).setCell ⟨b, 4, none⟩ v4).setCell ⟨b, 5, none⟩ v5).setCell ⟨b, 6, none⟩ v6).setCell ⟨b, 7, none⟩ v7) :=
  (((((((h.setCell (p := ⟨b, 0, none⟩) hb _).setCell (p := ⟨b, 1, none⟩) hb _).setCell (p := ⟨b, 2, none⟩) hb _).setCell (p := ⟨b, 3, none⟩) hb _).setCell (p := ⟨b, 4, none⟩) hb _).setCell (p := ⟨b, 5, none⟩) hb _).setCell (p := ⟨b, 6, none⟩) hb _).setCell (p := ⟨b, 7, none⟩) hb _
set_option maxRecDepth 100000 in
set_option maxHeartbeats 8000000 in
theorem resolvePlays_any (v : Value) (L : List Ent) (va : Value) (A : List Axn) (w : World) (h : EntsAt w v L) (hb : Small L) (hl : L.length ≤ 1099511627776) (ha : ActsAt w va A) (hA : ∀ x ∈ A, x.s.size ≤ 4294967296) (hal : A.length ≤ 1099511627776) (hg : Handle w) :
    Calls Tryz.prog 8 #[v, va] w fun r w' => r = .returned (.bool true) ∧ Below w.heap.size w w' := by
  have hof := of_any v L w h hb hl
  have hE := h
  obtain ⟨o, cap, rfl, _, _, _⟩ := h
  obtain ⟨oA, capA, rfl, hca1, hca2, hcells⟩ := ha
  have Hof := Lib.hid hof
  have Hg := Lib.hid hg
  have HE := Lib.hid hE
  have HA := Lib.hid hA
  have HC := Lib.hid hcells
  obtain ⟨n, hn⟩ : ∃ n, n = L.length := ⟨_, rfl⟩
  obtain ⟨na, hna⟩ : ∃ n, n = A.length := ⟨_, rfl⟩
  rw [← hn] at Hof HE ⊢
  rw [← hna] at hca1 hal ⊢
  have Hn := Lib.hid hn
  have Hna := Lib.hid hna
  clear hof hg hb hE hn hna hA hcells hl
  by_cases hc0 : (checkL L).1 = 0
  · go_enter Tryz.func8, Tryz.ntmps8
    go_wp2_with (first
      | (go_at_call 32; refine Hof.out.mono ?_; rintro r w1 ⟨h1, _, hb⟩; obtain ⟨T, rt, rm, nd0, rfl, ht, he⟩ := h1 hc0
         have HT1 := Lib.hid ht
         have He1 := Lib.hid he
         have HB1 := Lib.hid hb
         clear h1 hb ht he Hof))
    go_loopw [7, 8] (fun nv iv wr => ∃ (i : Nat) (nd : List Nd) (o2 : Option Addr) (n2 cap2 : Nat), iv = .int .i64 (i : Int) ∧ nv = .slice o2 n2 cap2 ∧ i ≤ na ∧ TreeAt wr T rt rm w.heap.size nd ∧ n2 = (ents nd).length ∧ NowAt wr T rt rm nd (.slice o2 n2 cap2) (ents nd) ∧ Below w.heap.size w wr) (fun _ iv _ => na - (intOf iv).toNat)
    case atStart =>
      refine ⟨0, nd0, o, n, cap, rfl, rfl, Nat.zero_le _, HT1.out, by rw [He1.out]; exact Hn.out, ⟨by rw [He1.out]; exact HE.out.below HB1.out (Nat.le_refl _), fun b n9 c9 hv hL hx => ?_⟩, HB1.out⟩
      rw [He1.out] at hL
      injection hv with hv _ _
      subst hv
      have h1 := ents_lt2 HE.out hL
      have h2 := HT1.out.base_le hx
      omega
    case round =>
      obtain ⟨i, nd, o2, n2, cap2, rfl, rfl, hi, htr, hn2, hnow, hbr⟩ := hrel
      have hgd := htr.good
      by_cases hlt : i < na ∧ i < 100
      · obtain ⟨hlt1, hlt2⟩ := hlt
        obtain ⟨x, hx⟩ : ∃ x, A[i]? = some x := ⟨_, List.getElem?_eq_getElem (by rw [← Hna.out]; exact hlt1)⟩
        obtain ⟨a, rfl, hab, hac⟩ := HC.out i x hx
        have hxs := HA.out x (List.mem_of_getElem? hx)
        have hacr : ∀ W, Below w.heap.size wr W → ∀ j u, (axC x)[j]? = some u → W.cell? ((a.add (i * 2)).add j) = some u := fun W hW j u hj => by
          have := hac j u hj
          unfold World.cell? at this ⊢
          rw [hW.block _ (by rw [add_block, add_block]; have := hbr.size; omega), hbr.block _ (by rw [add_block, add_block]; exact hab)]
          exact this
        obtain ⟨m, hm, hp⟩ := pick4 x.k
        have hl2 := hgd.len
        rw [← hn2] at hl2
        have hgo := fun (W : World) (hW : Below wr.heap.size wr W) => rgo_any m hm (ents nd) hgd o2 cap2 x.s W (by rw [← hn2]; exact hnow.ents.below hW (Nat.le_refl _)) hxs
        have hask := fun (W : World) (hW : TreeAt W T rt rm w.heap.size nd) => asked_any x.k x.s m hm hp W hW hxs
        unfold AskR at hask
        have hgd2 := actF_good (m := m) (way := x.s.data.toList) hgd
        have hsm2 := actF_small (m := m) (L := ents nd) (way := x.s.data.toList)
        have hl3 := hgd2.len
        rw [← hn2] at hgo
        generalize actF m (ents nd) x.s.data.toList = F at *
        obtain ⟨LN, ab, aN⟩ := F
        obtain ⟨nN, hnN⟩ : ∃ n, n = LN.length := ⟨_, rfl⟩
        dsimp only at hgo hask hgd2 hsm2 hl3
        rw [← hnN] at hgo hl3
        have Hgo := Lib.hid hgo
        have Hask := Lib.hid hask
        have Hp := Lib.hid hp
        have HnN := Lib.hid hnN
        have Hgd2 := Lib.hid hgd2
        have Htr := Lib.hid htr
        have Hnow := Lib.hid hnow
        have Hbr := Lib.hid hbr
        have Hac := Lib.hid hacr
        have Hn2 := Lib.hid hn2
        clear hgo hask hp hnN hgd2 htr hnow hbr hn2 hgd hac hx
        have c0 : wr.cell? (a.add (i * 2)) = some (.int .i64 x.k) := by rw [← add_zero' (a.add (i * 2))]; exact hacr wr (Below.refl _ _) 0 _ rfl
        have c1 : wr.cell? ⟨(a.add (i * 2)).block, (a.add (i * 2)).off + 1, none⟩ = some (.string x.s) := hacr wr (Below.refl _ _) 1 _ rfl
        have c0a : ∀ ob, (wr.alloc ob).cell? (a.add (i * 2)) = some (.int .i64 x.k) := fun ob => by rw [← add_zero' (a.add (i * 2))]; exact hacr _ ((Below.refl _ _).alloc Hbr.out.size _) 0 _ rfl
        have c1a : ∀ ob, (wr.alloc ob).cell? ⟨(a.add (i * 2)).block, (a.add (i * 2)).off + 1, none⟩ = some (.string x.s) := fun ob => hacr _ ((Below.refl _ _).alloc Hbr.out.size _) 1 _ rfl
        clear hacr
        go_upto_region 8 with fail
        go_cut [9] (fun pv wx => ∃ (b : Nat) (oa' : Option Addr) (tc' : Nat) (cs : Array Value), pv = .pointer (some ⟨b, 0, none⟩) ∧ wr.heap.size ≤ b ∧ wx.heap[b]? = some (.cells cs 80 (0, 0)) ∧ cs[0]? = some (.slice oa' nN tc') ∧ cs[6]? = some (.string ab) ∧ cs[7]? = some (.int .i64 (aN : Int)) ∧
          EntsAt wx (.slice oa' nN tc') LN ∧ (∀ b1, oa' = some b1 → LN ≠ [] → wr.heap.size ≤ b1.block ∨ ∃ b0, o2 = some b0 ∧ ents nd ≠ [] ∧ b1.block = b0.block) ∧ Below wr.heap.size wr wx)
        case first =>
          go_region_law (first
            | (go_simp; go_at_call 42; refine (Hp.out _).mono ?_; rintro r w3 ⟨rfl, rfl⟩)
            | (go_simp; go_at_call 41; refine (Hgo.out wr.drew (below_drew (Below.refl _ _))).mono ?_; rintro r w4 ⟨hb4, o4, t4, st, lo, ln, lc, hops, ro, rn, rc, dn, rfl, he4, ho4⟩; unfold walkV)
            | (go_simp; go_at_call 41; refine (Hgo.out (wr.drew.alloc _) ((below_drew (Below.refl _ _)).alloc (Nat.le_refl _) _)).mono ?_; rintro r w4 ⟨hb4, o4, t4, st, lo, ln, lc, hops, ro, rn, rc, dn, rfl, he4, ho4⟩; unfold walkV
               have hz4 := (hb4.block wr.heap.size (by simp)).trans (heap_alloc_new wr.drew _)
               have z0 := cell_of_row hz4 (i := 0) rfl
               have f0 := frozen_of_row hz4 (i := 0)
               have z1 := cell_of_row hz4 (i := 1) rfl
               have f1 := frozen_of_row hz4 (i := 1)
               have z2 := cell_of_row hz4 (i := 2) rfl
               have f2 := frozen_of_row hz4 (i := 2)
               have z3 := cell_of_row hz4 (i := 3) rfl
               have f3 := frozen_of_row hz4 (i := 3)
               have z4 := cell_of_row hz4 (i := 4) rfl
               have f4 := frozen_of_row hz4 (i := 4)
               have z5 := cell_of_row hz4 (i := 5) rfl
               have f5 := frozen_of_row hz4 (i := 5)
               have z6 := cell_of_row hz4 (i := 6) rfl
               have f6 := frozen_of_row hz4 (i := 6)
               have z7 := cell_of_row hz4 (i := 7) rfl
               have f7 := frozen_of_row hz4 (i := 7)))
          all_goals go_wp2_with fail
          all_goals go_meet
          all_goals first
            | exact ⟨w4.heap.size, o4, t4, _, rfl, hb4.size, World.alloc_heap_new _ _, rfl, rfl, rfl, he4.below ((Below.refl _ _).alloc (Nat.le_refl _) _) (Nat.le_refl _), ho4, (((below_drew (Below.refl _ _)).trans hb4).alloc hb4.size _)⟩
            | (refine ⟨wr.heap.size, o4, t4, _, rfl, Nat.le_refl _, eight_cells hz4, rfl, rfl, rfl, ents_keep he4 (by simp) (fun b1 n9 c9 hv hL => eight_other ?_), fun b1 hv hL => ?_, eight_below ((((below_drew (Below.refl _ _)).alloc (Nat.le_refl _) _).trans (hb4.mono (by simp)))) (Nat.le_refl _)⟩
               · injection hv with hv _ _
                 rcases ho4 b1 hv hL with h | ⟨b0, h1, h2, h3⟩
                 · simp at h; omega
                 · have hno := Hnow.out.ents
                   rw [h1] at hno
                   have := ents_lt2 hno h2
                   omega
               · rcases ho4 b1 hv hL with h | h
                 · exact .inl (by simp at h; omega)
                 · exact .inr h)
        case rest =>
          obtain ⟨b, o4, t4, cs, rfl, hwb, hcs, hc0', hc6, hc7, hee, hoo, hbc⟩ := hcut
          have htc : TreeAt wc T rt rm w.heap.size nd := Htr.out.below hbc (Nat.le_refl _)
          have hask2 := (Hask.out wc htc)
          have Hask2 := Lib.hid hask2
          have Htc := Lib.hid htc
          have Hac2 := Lib.hid (Hac.out wc (hbc.mono Hbr.out.size))
          have hnb : b < wc.heap.size := heap_lt hcs
          have hnt : ¬ IsBlk T rt rm nd b := fun hx => by have := Htr.out.lt hx; omega
          have hnow2 : NowAt wc T rt rm nd (.slice o4 nN t4) LN := ⟨hee, fun b1 n9 c9 hv hL hx => by
            injection hv with hv _ _
            rcases hoo b1 hv hL with h | ⟨b0, h1, h2, h3⟩
            · have := Htr.out.lt hx; omega
            · rw [h3] at hx
              exact Hnow.out.off b0 n2 cap2 (by rw [h1]) h2 hx⟩
          have Hcs := Lib.hid hcs
          have Hc0 := Lib.hid hc0'
          have Hc6 := Lib.hid hc6
          have Hc7 := Lib.hid hc7
          have Hnow2 := Lib.hid hnow2
          have Hbc := Lib.hid (Hbr.out.trans (hbc.mono Hbr.out.size))
          have Hnt := Lib.hid hnt
          have HSm := Lib.hid (fun (vx vy : Value) (W : World) (h1 : EntsAt W vx LN) (h2 : EntsAt W vy LN) => same_any vx vy LN W h1 h2 (by rw [← HnN.out]; omega))
          have b0 : (ab.toList == ab.toList) = true := by simp
          have Hsm2 := Lib.hid hsm2
          have hpl := fun (W : World) (hW : Handle W) => plain_same aN W hsm2 hW
          generalize hev : errV aN = ev at *
          have HPl := Lib.hid hpl
          clear hpl
          have Hev := Lib.hid hev
          clear hask2 htc hcs hc0' hc6 hc7 hee hoo hbc hnow2 hnt Hgo Hask Hp c0 c1 c0a c1a hsm2 Hac hev
          go_upto_region 10 with (first
            | (refine wpList_load_at rfl _ _ rfl (a.add (i * 2)) rfl [.int .i64 x.k, .string x.s] _ Hac2.out Tryz.underlying83 rfl (by kernel_rfl) ?_)
            | (go_at_call 43; refine Hask2.out.mono ?_; rintro r w5 ⟨rfl, nd5, he5, ht5, hx5⟩
               have HT5 := Lib.hid ht5
               have He5 := Lib.hid he5
               have HN5 := Lib.hid (Hnow2.out.turned hx5)
               have HB5 := Lib.hid (Hbc.out.trans (hx5.below Htc.out))
               have HC5 := Lib.hid ((hx5.keep b hnb Hnt.out).trans Hcs.out)
               clear he5 ht5 hx5))
          obtain ⟨wd, hwd⟩ : ∃ x, x = w5.drew := ⟨_, rfl⟩
          have hb5d : Below w5.heap.size w5 wd := by rw [hwd]; exact below_drew (Below.refl _ _)
          have HT6 := Lib.hid (HT5.out.below hb5d (Nat.le_refl _))
          have HN6 := Lib.hid (HN5.out.below hb5d)
          have HB6 := Lib.hid (HB5.out.trans (hb5d.mono HB5.out.size))
          have hc6 := (hb5d.block b (heap_lt HC5.out)).trans HC5.out
          have hcell : ∀ W, Below wd.heap.size wd W → W.heap[b]? = some (.cells cs 80 (0, 0)) := fun W hW => (hW.block b (heap_lt hc6)).trans hc6
          have Hcell := Lib.hid hcell
          have hcc : ∀ {W : World} {j : Nat} {u : Value}, W.heap[b]? = some (.cells cs 80 (0, 0)) → cs[j]? = some u → W.cell? ⟨b, j, none⟩ = some u := fun h hj => cell_of_row h hj
          have d6 := hcc (hcell wd (Below.refl _ _)) Hc6.out
          have d7 := hcc (hcell wd (Below.refl _ _)) Hc7.out
          have d0 := hcc (hcell wd (Below.refl _ _)) Hc0.out
          rw [hwd] at d0 d6 d7
          have Hwd := Lib.hid hwd
          have HG6 := Lib.hid (Hg.out.below HB6.out (Nat.le_refl _))
          have Hd := Lib.hid hb5d
          clear hb5d hc6 hcell hwd HT5 HN5 HB5 HC5
          go_region_law (first
            | (go_simp; go_at_call 36; refine (HPl.out w5.drew (by rw [← Hwd.out]; exact HG6.out)).mono ?_; rintro r w6 ⟨rfl, hb⟩
               have hb6 : Below wd.heap.size wd w6 := by rw [Hwd.out]; exact hb
               have B6 := Lib.hid hb6
               have e0 := hcc (Hcell.out w6 hb6) Hc0.out
               clear hb hb6)
            | (go_simp; go_at_call 20; refine (list_as (HT6.out.below B6.out (Nat.le_refl _)) He5.out HnN.out).mono ?_; rintro r w7 ⟨lo, lc, rfl, hnow7, hb⟩
               have hb7 := B6.out.trans (hb.mono B6.out.size)
               have B7 := Lib.hid hb7
               have e1 := hcc (Hcell.out w7 hb7) Hc0.out
               have HN7 := Lib.hid hnow7.ents
               clear hb hb7 hnow7)
            | (go_simp; go_at_call 23; refine (HSm.out _ _ w7 HN7.out (HN6.out.below B7.out).ents).mono ?_; rintro r w8 ⟨hb, rfl⟩
               have B8 := Lib.hid (B7.out.trans (hb.mono B7.out.size))
               have e2 := hcc (Hcell.out w8 B8.out) Hc0.out
               clear hb))
          all_goals go_wp2_with fail
          all_goals go_roundw
          all_goals first
            | exact ⟨i + 1, nd5, o4, nN, t4, by go_num, rfl, by omega, HT6.out.below B8.out (Nat.le_refl _), by rw [He5.out]; exact HnN.out, by rw [He5.out]; exact HN6.out.below B8.out, HB6.out.trans (B8.out.mono HB6.out.size)⟩
            | (simp [intOf]; omega)
      · have Hbr := Lib.hid hbr
        have HGr := Lib.hid (Hg.out.below hbr (Nat.le_refl _))
        clear htr hn2 hnow hbr hgd
        by_cases hlt1 : i < na
        · have hlt2 : ¬ i < 100 := fun h => hlt ⟨hlt1, h⟩
          clear hlt
          go_wp2_with (go_at_call 33; refine (works_any _ HGr.out).mono ?_; rintro r w9 ⟨rfl, hb⟩
                       have HB9 := Lib.hid (Hbr.out.trans (hb.mono Hbr.out.size))
                       clear hb)
          go_ret
          exact ⟨rfl, HB9.out⟩
        · obtain rfl : i = na := by omega
          clear hlt hlt1
          go_wp2_with (go_at_call 33; refine (works_any _ HGr.out).mono ?_; rintro r w9 ⟨rfl, hb⟩
                       have HB9 := Lib.hid (Hbr.out.trans (hb.mono Hbr.out.size))
                       clear hb)
          go_ret
          exact ⟨rfl, HB9.out⟩
  · go_enter Tryz.func8, Tryz.ntmps8
    go_wp2_with (first
      | (go_at_call 32; refine Hof.out.mono ?_; rintro r w1 ⟨_, h2, hb⟩; obtain rfl := h2 hc0
         have HG1 := Lib.hid (Hg.out.below hb (Nat.le_refl _))
         have HB1 := Lib.hid hb
         clear h2 hb)
      | (go_at_call 33; refine (works_any _ HG1.out).mono ?_; rintro r w2 ⟨rfl, hb⟩
         have HB2 := Lib.hid (HB1.out.trans (hb.mono HB1.out.size))
         clear hb HB1 HG1))
    go_ret
    exact ⟨rfl, HB2.out⟩
end Go.Proofs.YtdkodedocklmdaaGreatDoor
