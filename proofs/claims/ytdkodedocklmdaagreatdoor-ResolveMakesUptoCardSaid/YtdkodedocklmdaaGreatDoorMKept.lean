/- The statements' kept: does a tree have all entries of a list, and besides them only directories? -/
import Derived.Test.YtdkodedocklmdaaGreatDoorMLaw
import Derived.Test.YtdkodedocklmdaaGreatDoorTListed
import Derived.Test.YtdkodedocklmdaaGreatDoorRSome
import Derived.Laws.StructEq
set_option linter.unusedSimpArgs false
set_option linter.unusedVariables false
namespace Go.Proofs.YtdkodedocklmdaaGreatDoor
open Go.RowKit Go.Shelf Go.Maps Go.Sort
open Go.Lib hiding intOf size_eq
theorem ents_cells {W : World} {o : Option Addr} {n cap k : Nat} {L : List Ent} {e : Ent} (h : EntsAt W (.slice o n cap) L) (hk : L[k]? = some e) : ∃ a, o = some a ∧ (a.add (k * 5)).block < W.heap.size ∧ ∀ j x, (entC e)[j]? = some x → W.cell? ((a.add (k * 5)).add j) = some x := by
  obtain ⟨o2, cap2, hv, _, _, hc⟩ := h
  injection hv with h1 h2 h3
  subst h1
  obtain ⟨a, ha, hb, hx⟩ := hc k e hk
  exact ⟨a, ha, by rw [add_block]; exact hb, hx⟩
theorem cells_up {W W2 : World} {B : Nat} {a : Addr} {cs : List Value} (h : ∀ j x, cs[j]? = some x → W.cell? (a.add j) = some x) (ha : a.block < B) (hb : Below B W W2) : ∀ j x, cs[j]? = some x → W2.cell? (a.add j) = some x := fun j x hx => by
  have := h j x hx
  unfold World.cell? at this ⊢
  rw [hb.block _ (by rw [add_block]; exact ha)]
  exact this
set_option maxRecDepth 100000 in
set_option maxHeartbeats 1000000 in
theorem kept_any {T rt rm : Nat} {nd : List Nd} (v : Value) (L : List Ent) (w : World) (ht : TreeAt w T rt rm 0 nd) (hE : EntsAt w v L) (hk : KeptR (ents nd) L) (hl : L.length ≤ 1099511627776) :
    Calls Tryz.prog 46 #[.pointer (some ⟨T, 0, none⟩), v] w fun r w' => r = .returned (.bool true) ∧ Below w.heap.size w w' := by
  have hlen := ht.good.len
  have hlist := (list_any w ht).mono (fun e w' h => show ∃ o cap, e = .returned (.slice o (ents nd).length cap) ∧ EntsAt w' (.slice o (ents nd).length cap) (ents nd) ∧ Below w.heap.size w w' from by
    obtain ⟨va, h1, h2, h3⟩ := h
    have h4 := ents_of_row h2
    obtain ⟨o, cap, hv, _⟩ := id h4
    subst hv
    exact ⟨o, cap, h1, h4, h3⟩)
  obtain ⟨o, cap, rfl, hc1, hc2, hcx⟩ := id hE
  clear hcx
  generalize ents nd = N at *
  obtain ⟨n, hn⟩ : ∃ n, n = N.length := ⟨_, rfl⟩
  obtain ⟨m, hm⟩ : ∃ m, m = L.length := ⟨_, rfl⟩
  rw [← hn] at hlist hlen
  rw [← hm] at hE hl hc1 ⊢
  have Hlist := Lib.hid hlist
  have HE := Lib.hid hE
  have Hk := Lib.hid hk
  have Hn := Lib.hid hn
  have Hm := Lib.hid hm
  clear hlist hE hk hn hm ht
  go_enter Tryz.func46, Tryz.ntmps46
  go_wp2_with (first
    | (go_at_call 20; refine Hlist.out.mono ?_; rintro r w1 ⟨lo, lc, rfl, h1, hb⟩
       have hlc : n ≤ lc ∧ lc ≤ maxLen := (by
         obtain ⟨o2, cap2, hv, k1, k2, _⟩ := id h1
         injection hv with _ _ hv
         subst hv
         exact ⟨by rw [Hn.out]; exact k1, k2⟩)
       obtain ⟨hlc1, hlc2⟩ := hlc
       have H1 := Lib.hid h1
       have HE1 := Lib.hid (HE.out.below hb (Nat.le_refl _))
       have HB1 := Lib.hid hb
       clear h1 hb HE Hlist))
  go_loopw [6, 7] (fun kv iv wr => ∃ (k i : Nat), kv = .int .i64 (k : Int) ∧ iv = .int .i64 (i : Int) ∧ k ≤ m ∧ i ≤ n ∧ KeptR (N.drop i) (L.drop k) ∧ Below w1.heap.size w1 wr) (fun _ iv _ => n - (intOf iv).toNat)
  case atStart => exact ⟨0, 0, rfl, rfl, Nat.zero_le _, Nat.zero_le _, by rw [List.drop_zero, List.drop_zero]; exact Hk.out, Below.refl _ _⟩
  case round =>
    obtain ⟨k, i, rfl, rfl, hkm, hin, hkr, hbr⟩ := hrel
    by_cases hlt : i < n
    · obtain ⟨x, hx⟩ : ∃ x, N[i]? = some x := ⟨_, List.getElem?_eq_getElem (by rw [← Hn.out]; exact hlt)⟩
      have hdr : N.drop i = x :: N.drop (i + 1) := by
        obtain ⟨hlt2, rfl⟩ := List.getElem?_eq_some_iff.1 hx
        exact List.drop_eq_getElem_cons hlt2
      rw [hdr] at hkr
      obtain ⟨xa, rfl, hxb, hxc⟩ := ents_cells H1.out hx
      have hxw := cells_up hxc hxb hbr
      have xk : wr.cell? ⟨(xa.add (i * 5)).block, (xa.add (i * 5)).off + 1, none⟩ = some (.int .i64 x.k) := hxw 1 _ rfl
      have xm : wr.cell? ⟨(xa.add (i * 5)).block, (xa.add (i * 5)).off + 2, none⟩ = some (.int .i64 x.m) := hxw 2 _ rfl
      have hub : ∀ (a : Addr) (cs : List Value), (∀ j v, cs[j]? = some v → wr.cell? (a.add j) = some v) → a.block < w1.heap.size → ∀ W, Below w1.heap.size wr W → ∀ j v, cs[j]? = some v → W.cell? (a.add j) = some v := fun a cs h ha W hW j v hj => by
        have := h j v hj
        unfold World.cell? at this ⊢
        rw [hW.block _ (by rw [add_block]; exact ha)]
        exact this
      have Kd := Lib.hid (hub (xa.add (i * 5)) (entC x) hxw hxb)
      have Hbr := Lib.hid hbr
      by_cases hlk : k < m
      · obtain ⟨y, hy⟩ : ∃ y, L[k]? = some y := ⟨_, List.getElem?_eq_getElem (by rw [← Hm.out]; exact hlk)⟩
        have hdy : L.drop k = y :: L.drop (k + 1) := by
          obtain ⟨hlt2, rfl⟩ := List.getElem?_eq_some_iff.1 hy
          exact List.drop_eq_getElem_cons hlt2
        rw [hdy] at hkr
        obtain ⟨ya, rfl, hyb, hyc⟩ := ents_cells HE1.out hy
        have hyw := cells_up hyc hyb hbr
        have Ky := Lib.hid (hub (ya.add (k * 5)) (entC y) hyw hyb)
        cases hkr with
        | both hkr =>
          have Hkr := Lib.hid hkr
          clear hkr hdr hdy hx hy hxc hxw hyc hyw hbr hxb hyb xk xm
          go_upto_region 6 with fail
          refine region_still_named (by kernel_rfl) (by kernel_rfl) ?_
          intro wz hz
          have hbz : Below w1.heap.size wr wz := by rw [hz]; exact below_drew1 (Below.refl _ _)
          have Kdz := Lib.hid (Kd.out wz hbz)
          have Kyz := Lib.hid (Ky.out wz hbz)
          have Hbf := Lib.hid (Hbr.out.trans hbz)
          clear hz hbz Kd Ky
          iterate 8 still_step
          refine rs_load_guard (by rfl) _ _ rfl (xa.add (i * 5)) rfl [.string x.p, .int .i64 x.k, .int .i64 x.m, .string x.d, .string x.l] _ Kdz.out Tryz.underlying38 rfl (by kernel_rfl) ?_
          iterate 3 still_step
          refine rs_load_guard (by rfl) _ _ rfl (ya.add (k * 5)) rfl [.string x.p, .int .i64 x.k, .int .i64 x.m, .string x.d, .string x.l] _ Kyz.out Tryz.underlying38 rfl (by kernel_rfl) ?_
          iterate 2 still_step
          refine wpStill_nil ?_
          go_wp2_with fail
          go_roundw
          case rel => exact ⟨k + 1, i + 1, by go_num, by go_num, by omega, by omega, Hkr.out, Hbf.out⟩
          case measure => simp [intOf]; omega
        | more h1 h2 h3 hkr =>
          have hne : (x.p.toList == y.p.toList) = false := by
            rw [beq_eq_false_iff_ne, toList_data, toList_data]
            exact fun e => h3 y (List.mem_cons_self ..) e.symm
          have Hkr := Lib.hid (show KeptR (N.drop (i + 1)) (L.drop k) by rw [hdy]; exact hkr)
          clear hkr hdr hdy hx hy hxc hxw hyc hyw h3 hbr hxb hyb
          go_upto_region 6 with fail
          refine region_still_named (by kernel_rfl) (by kernel_rfl) ?_
          intro wz hz
          have hbz : Below w1.heap.size wr wz := by rw [hz]; exact below_drew1 (Below.refl _ _)
          have Kdz := Lib.hid (Kd.out wz hbz)
          have Kyz := Lib.hid (Ky.out wz hbz)
          have Hbf := Lib.hid (Hbr.out.trans hbz)
          clear hz hbz Kd Ky
          iterate 8 still_step
          refine rs_load_guard (by rfl) _ _ rfl (xa.add (i * 5)) rfl [.string x.p, .int .i64 x.k, .int .i64 x.m, .string x.d, .string x.l] _ Kdz.out Tryz.underlying38 rfl (by kernel_rfl) ?_
          iterate 3 still_step
          refine rs_load_guard (by rfl) _ _ rfl (ya.add (k * 5)) rfl [.string y.p, .int .i64 y.k, .int .i64 y.m, .string y.d, .string y.l] _ Kyz.out Tryz.underlying38 rfl (by kernel_rfl) ?_
          iterate 2 still_step
          refine wpStill_nil ?_
          have k1 : wz.cell? ⟨(xa.add (i * 5)).block, (xa.add (i * 5)).off + 1, none⟩ = some (.int .i64 x.k) := Kdz.out 1 _ rfl
          have k2 : wz.cell? ⟨(xa.add (i * 5)).block, (xa.add (i * 5)).off + 2, none⟩ = some (.int .i64 x.m) := Kdz.out 2 _ rfl
          rw [h1] at k1
          rw [h2] at k2
          clear xk xm h1 h2
          go_upto_region 8 with fail
          clear hne
          go_wp2_with fail
          go_roundw
          case rel =>
            refine ⟨k, i + 1, ?_, ?_, ?_, ?_, Hkr.out, Hbf.out⟩
            · rfl
            · go_num
            · omega
            · omega
          case measure => simp [intOf]; omega
      · obtain rfl : k = m := by omega
        have hdl : L.drop k = [] := List.drop_eq_nil_of_le (by rw [← Hm.out]; exact Nat.le_refl _)
        rw [hdl] at hkr
        cases hkr with
        | more h1 h2 h3 hkr =>
          have Hkr := Lib.hid (show KeptR (N.drop (i + 1)) (L.drop k) by rw [hdl]; exact hkr)
          clear hkr hdr hdl hx hxc hxw h3 hbr hxb
          go_upto_region 6 with fail
          refine region_still_named (by kernel_rfl) (by kernel_rfl) ?_
          intro wz hz
          have hbz : Below w1.heap.size wr wz := by rw [hz]; exact below_drew1 (Below.refl _ _)
          have Kdz := Lib.hid (Kd.out wz hbz)
          have Hbf := Lib.hid (Hbr.out.trans hbz)
          have k1 : wz.cell? ⟨(xa.add (i * 5)).block, (xa.add (i * 5)).off + 1, none⟩ = some (.int .i64 x.k) := Kdz.out 1 _ rfl
          have k2 : wz.cell? ⟨(xa.add (i * 5)).block, (xa.add (i * 5)).off + 2, none⟩ = some (.int .i64 x.m) := Kdz.out 2 _ rfl
          rw [h1] at k1
          rw [h2] at k2
          clear hz hbz Kd xk xm h1 h2
          iterate 5 still_step
          iterate 9 (rw [rs_skip]; rotate_left; rfl; simp only [Act.put, List.setIfInBounds_toArray, List.set_cons_zero, List.set_cons_succ])
          rw [rs_val (v := .bool false)]
          rotate_left
          rfl
          rfl
          simp only [Act.put, List.setIfInBounds_toArray, List.set_cons_zero, List.set_cons_succ]
          refine wpStill_nil ?_
          go_upto_region 8 with fail
          go_wp2_with fail
          go_roundw
          case rel =>
            refine ⟨k, i + 1, ?_, ?_, ?_, ?_, Hkr.out, Hbf.out⟩
            · rfl
            · go_num
            · omega
            · omega
          case measure => simp [intOf]; omega
    · obtain rfl : i = n := by omega
      have hdn : N.drop i = [] := List.drop_eq_nil_of_le (by rw [← Hn.out]; exact Nat.le_refl _)
      rw [hdn] at hkr
      obtain rfl : k = m := by
        have h0 : L.drop k = [] := by
          generalize L.drop k = R at hkr
          cases hkr
          rfl
        have h1 := congrArg List.length h0
        rw [List.length_drop, ← Hm.out] at h1
        simp at h1
        omega
      have Hbr := Lib.hid (HB1.out.trans (hbr.mono HB1.out.size))
      clear hkr hdn hbr
      go_wp2
      go_ret
      exact ⟨rfl, Hbr.out⟩
end Go.Proofs.YtdkodedocklmdaaGreatDoor
