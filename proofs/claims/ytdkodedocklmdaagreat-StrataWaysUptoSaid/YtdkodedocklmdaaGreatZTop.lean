/- The statements' kindAt, straight, holds. -/
import Derived.Test.YtdkodedocklmdaaGreatZPlain
import Derived.Test.YtdkodedocklmdaaGreatTListed
import Derived.Test.YtdkodedocklmdaaGreatRSome
import Derived.Laws.StructEq
set_option linter.unusedSimpArgs false
set_option linter.unusedVariables false
namespace Go.Proofs.YtdkodedocklmdaaGreat
open Go.RowKit Go.Shelf Go.Maps Go.Sort
open Go.Lib hiding intOf size_eq
theorem lookE_first {q : List UInt8} {e : Ent} : ∀ {L : List Ent} {k : Nat}, L[k]? = some e → e.path = q → (∀ j x, j < k → L[j]? = some x → x.path ≠ q) → lookE L q = some e
  | [], k, h, _, _ => by simp at h
  | x :: r, 0, h, hp, _ => by
    injection (show some x = some e from h) with h
    subst h
    unfold lookE
    rw [List.find?_cons_of_pos (by simpa using hp)]
  | x :: r, k + 1, h, hp, hno => by
    have hx := hno 0 x (by omega) rfl
    have ih := lookE_first (L := r) (k := k) h hp (fun j y hj hy => hno (j + 1) y (by omega) hy)
    unfold lookE at ih ⊢
    rw [List.find?_cons_of_neg (by simpa using hx)]
    exact ih
theorem lookE_no {q : List UInt8} {L : List Ent} (h : ∀ (j : Nat) x, L[j]? = some x → x.path ≠ q) : lookE L q = none := by
  unfold lookE
  rw [List.find?_eq_none]
  intro x hx
  obtain ⟨j, hj⟩ := List.mem_iff_getElem?.1 hx
  simpa using h j x hj
set_option maxRecDepth 100000 in
set_option maxHeartbeats 1000000 in
theorem kindAt_any (v : Value) (L : List Ent) (q : ByteArray) (w : World) (h : EntsAt w v L) (hl : L.length ≤ 1099511627776) :
    Calls Tryz.prog 9 #[v, .string q] w fun r w' => r = .returned (.int .i64 (kindT L q.data.toList)) ∧ w' = w := by
  by_cases h0 : q.data.toList = []
  · have b0 : q.toList.isEmpty = true := emptyB_t h0
    have Hr := Lib.hid (show kindT L q.data.toList = 1 by unfold kindT; rw [if_pos h0])
    clear h0
    go_enter Tryz.func9, Tryz.ntmps9
    go_wp2
    go_ret
    exact ⟨by rw [Hr.out]; rfl, rfl⟩
  have b0 : q.toList.isEmpty = false := emptyB_f h0
  have hkind : kindT L q.data.toList = match lookE L q.data.toList with | none => 0 | some e => e.k := by unfold kindT; rw [if_neg h0]; cases lookE L q.data.toList <;> rfl
  obtain ⟨o, cap, rfl, hlc, hcm, hcells⟩ := h
  obtain ⟨n, hn⟩ : ∃ n, n = L.length := ⟨_, rfl⟩
  rw [← hn] at hlc hl ⊢
  have Hcells := Lib.hid hcells
  have Hn := Lib.hid hn
  have Hk := Lib.hid hkind
  clear hcells hn hkind h0
  go_enter Tryz.func9, Tryz.ntmps9
  go_wp2
  go_loopw [5] (fun iv wr => ∃ (k : Nat), iv = .int .i64 (k : Int) ∧ k ≤ n ∧ (∀ j x, j < k → L[j]? = some x → x.path ≠ q.data.toList) ∧ wr = w) (fun iv _ => n - (intOf iv).toNat)
  case atStart => exact ⟨0, rfl, Nat.zero_le _, fun j x hj => by omega, rfl⟩
  case round =>
    obtain ⟨k, rfl, hk, hno, rfl⟩ := hrel
    by_cases hlt : k < n
    · obtain ⟨e, hek⟩ : ∃ e, L[k]? = some e := ⟨_, List.getElem?_eq_getElem (by rw [← Hn.out]; exact hlt)⟩
      obtain ⟨a, rfl, hal, hcs⟩ := Hcells.out k e hek
      have hcw : wr.cell? (a.add (k * 5)) = some (.string e.p) := by rw [← add_zero' (a.add (k * 5))]; exact hcs 0 _ rfl
      have hck : wr.cell? ⟨(a.add (k * 5)).block, (a.add (k * 5)).off + 1, none⟩ = some (.int .i64 e.k) := hcs 1 _ rfl
      have Hno := Lib.hid hno
      have Hek := Lib.hid hek
      clear hno hek hcs Hcells
      by_cases hpq : e.path = q.data.toList
      · have b1 : (e.p.toList == q.toList) = true := eqB_t (by rw [toList_data]; exact hpq)
        have Hr := Lib.hid (lookE_first Hek.out hpq Hno.out)
        clear hpq
        go_wp2
        go_ret
        exact ⟨by rw [Hk.out, Hr.out]; rfl, rfl⟩
      · have b1 : (e.p.toList == q.toList) = false := eqB_f (by rw [toList_data]; exact hpq)
        have Hpq := Lib.hid hpq
        clear hpq hck
        go_wp2
        go_roundw
        case rel =>
          refine ⟨k + 1, by go_num, by omega, fun j x hj hx => ?_, trivial⟩
          by_cases hjk : j = k
          · subst hjk
            rw [Hek.out] at hx
            injection hx with hx
            subst hx
            exact Hpq.out
          · exact Hno.out j x (by omega) hx
        case measure => simp [intOf]; omega
    · obtain rfl : k = n := by omega
      have Hr := Lib.hid (lookE_no (q := q.data.toList) (L := L) (fun j x hj => hno j x (by have := (List.getElem?_eq_some_iff.1 hj).1; rw [Hn.out]; exact this) hj))
      clear hno
      go_wp2
      go_ret
      exact ⟨by rw [Hk.out, Hr.out]; rfl, rfl⟩
set_option maxRecDepth 100000 in
set_option maxHeartbeats 1000000 in
theorem straight_any (v : Value) (L : List Ent) (p : ByteArray) (w : World) (h : EntsAt w v L) (hl : L.length ≤ 1099511627776) (hp : p.size ≤ 4611686018427387904) (hs : straightP L p.data.toList) :
    Calls Tryz.prog 8 #[v, .string p] w fun r w' => r = .returned (.bool true) ∧ w' = w := by
  have hka : ∀ (i : Nat), p.data.toList[i]? = some 47 → Calls Tryz.prog 9 #[v, .string (p.extract 0 i)] w fun r w' => r = .returned (.int .i64 1) ∧ w' = w := fun i hi => by
    have := kindAt_any v L (p.extract 0 i) w h hl
    have e : (p.extract 0 i).data.toList = p.data.toList.take i := by rw [extract_head]; simp [bs]
    rw [e, hs.2 i hi] at this
    exact this
  have Hka := Lib.hid hka
  have Hd := Lib.hid hs.1
  clear hka hs h hl
  go_enter Tryz.func8, Tryz.ntmps8
  go_wp2
  go_loopw [5] (fun iv wr => ∃ (k : Nat), iv = .int .i64 (k : Int) ∧ k ≤ p.size ∧ wr = w) (fun iv _ => p.size - (intOf iv).toNat)
  case atStart => exact ⟨0, rfl, Nat.zero_le _, rfl⟩
  case round =>
    obtain ⟨k, rfl, hk, rfl⟩ := hrel
    by_cases hlt : k < p.size
    · by_cases hc : p.data.toList[k]? = some 47
      · have hb : ((((p[k]'hlt).toNat : Nat) : Int) == 47) = true := byte_eq hlt 47 (by decide) hc
        have H := Lib.hid (Hka.out k hc)
        clear hc
        go_wp2_with (go_at_call 9; refine H.out.mono ?_; rintro r w2 ⟨rfl, rfl⟩)
        go_roundw
        case rel => exact ⟨k + 1, by go_num, by omega, trivial⟩
        case measure => simp [intOf]; omega
      · have hb : ((((p[k]'hlt).toNat : Nat) : Int) == 47) = false := byte_ne hlt 47 (by decide) hc
        clear hc
        go_wp2_with fail
        go_roundw
        case rel => exact ⟨k + 1, by go_num, by omega, trivial⟩
        case measure => simp [intOf]; omega
    · obtain rfl : k = p.size := by omega
      by_cases h0 : p.size = 0
      · go_wp2
        go_ret
        exact ⟨rfl, rfl⟩
      · have hlt0 : 0 < p.size := by omega
        have hb : ((((p[0]'hlt0).toNat : Nat) : Int) == 47) = false := byte_ne hlt0 47 (by decide) (by
          intro e
          apply Hd.out
          rw [List.head?_eq_getElem?]
          exact e)
        have hr : (((p.size : Nat) : Int) == 0 || ((((p[0]'hlt0).toNat : Nat) : Int) != 47)) = true := by rw [bne, hb]; simp
        go_wp2
        go_ret
        exact ⟨rfl, rfl⟩
theorem ents_cellsZ {W : World} {o : Option Addr} {n cap k : Nat} {L : List Ent} {e : Ent} (h : EntsAt W (.slice o n cap) L) (hk : L[k]? = some e) : ∃ a, o = some a ∧ (a.add (k * 5)).block < W.heap.size ∧ ∀ j x, (entC e)[j]? = some x → W.cell? ((a.add (k * 5)).add j) = some x := by
  obtain ⟨o2, cap2, hv, _, _, hc⟩ := h
  injection hv with h1 h2 h3
  subst h1
  obtain ⟨a, ha, hb, hx⟩ := hc k e hk
  exact ⟨a, ha, by rw [add_block]; exact hb, hx⟩
set_option maxRecDepth 100000 in
set_option maxHeartbeats 1000000 in
/-- what is in the one list is in the other -/
theorem holds_any (vn v : Value) (N L : List Ent) (w : World) (hN : EntsAt w vn N) (hE : EntsAt w v L) (hg : Good N) (hk : L.Sublist N) (hln : N.length ≤ 1099511627776) (hl : L.length ≤ 1099511627776) :
    Calls Tryz.prog 13 #[vn, v] w fun r w' => r = .returned (.bool true) ∧ Below w.heap.size w w' := by
  obtain ⟨on, capn, rfl, hn1, hn2, hnx⟩ := id hN
  obtain ⟨o, cap, rfl, hc1, hc2, hcx⟩ := id hE
  clear hcx hnx
  have huniq : ∀ x ∈ N, ∀ y ∈ N, x.path = y.path → x = y := fun x hx y hy e => by
    have h1 := lookE_mem hg.inc hx
    have h2 := lookE_mem hg.inc hy
    rw [e, h2] at h1
    exact (Option.some.inj h1).symm
  obtain ⟨n, hn⟩ : ∃ n, n = N.length := ⟨_, rfl⟩
  obtain ⟨m, hm⟩ : ∃ m, m = L.length := ⟨_, rfl⟩
  rw [← hn] at hN hln hn1 ⊢
  rw [← hm] at hE hl hc1 ⊢
  have H1 := Lib.hid hN
  have HE1 := Lib.hid hE
  have Hk := Lib.hid hk
  have Hn := Lib.hid hn
  have Hm := Lib.hid hm
  have Hu := Lib.hid huniq
  clear hE hN hk hn hm huniq hg
  go_enter Tryz.func13, Tryz.ntmps13
  go_wp2_with fail
  go_loopw [5, 6] (fun av iv wr => ∃ (a i : Nat), av = .int .i64 (a : Int) ∧ iv = .int .i64 (i : Int) ∧ i ≤ m ∧ a ≤ n ∧ (L.drop i).Sublist (N.drop a) ∧ Below w.heap.size w wr) (fun _ iv _ => m - (intOf iv).toNat)
  case atStart => exact ⟨0, 0, rfl, rfl, Nat.zero_le _, Nat.zero_le _, by rw [List.drop_zero, List.drop_zero]; exact Hk.out, Below.refl _ _⟩
  case round =>
    obtain ⟨a, i, rfl, rfl, him, han, hks, hbr⟩ := hrel
    by_cases hlt : i < m
    · obtain ⟨y, hy⟩ : ∃ y, L[i]? = some y := ⟨_, List.getElem?_eq_getElem (by rw [← Hm.out]; exact hlt)⟩
      have hdy : L.drop i = y :: L.drop (i + 1) := by
        obtain ⟨hlt2, rfl⟩ := List.getElem?_eq_some_iff.1 hy
        exact List.drop_eq_getElem_cons hlt2
      rw [hdy] at hks
      have Hks := Lib.hid hks
      have Hbr := Lib.hid hbr
      have Hy := Lib.hid hy
      obtain ⟨ya, rfl, hyb, hyc⟩ := ents_cellsZ HE1.out hy
      have Hyc := Lib.hid hyc
      clear hks hbr hy hdy hyc
      go_wp2_with fail
      go_loopw [5] (fun av wx => ∃ (a : Nat), av = .int .i64 (a : Int) ∧ a ≤ n ∧ (y :: L.drop (i + 1)).Sublist (N.drop a) ∧ Below w.heap.size w wx) (fun av _ => n - (intOf av).toNat)
      case atStart => exact ⟨a, rfl, by omega, Hks.out, Hbr.out⟩
      case round =>
        obtain ⟨b, rfl, hbn, hsb, hbx⟩ := hrel
        have hbl : b < n := by
          have := hsb.length_le
          rw [List.length_drop, List.length_cons, ← Hn.out] at this
          omega
        obtain ⟨x, hx⟩ : ∃ x, N[b]? = some x := ⟨_, List.getElem?_eq_getElem (by rw [← Hn.out]; exact hbl)⟩
        have hdx : N.drop b = x :: N.drop (b + 1) := by
          obtain ⟨hlt2, rfl⟩ := List.getElem?_eq_some_iff.1 hx
          exact List.drop_eq_getElem_cons hlt2
        obtain ⟨xa, rfl, hxb, hxc⟩ := ents_cellsZ H1.out hx
        have hub : ∀ (a : Addr) (cs : List Value), (∀ j v, cs[j]? = some v → w.cell? (a.add j) = some v) → a.block < w.heap.size → ∀ W, Below w.heap.size w W → ∀ j v, cs[j]? = some v → W.cell? (a.add j) = some v := fun a cs h ha W hW j v hj => by
          have := h j v hj
          unfold World.cell? at this ⊢
          rw [hW.block _ (by rw [add_block]; exact ha)]
          exact this
        have Kx := Lib.hid (hub (xa.add (b * 5)) (entC x) hxc hxb)
        have Ky := Lib.hid (hub (ya.add (i * 5)) (entC y) Hyc.out hyb)
        have Hbx := Lib.hid hbx
        have hym : y ∈ N := (hsb.subset (List.mem_cons_self ..) |> List.mem_of_mem_drop)
        have hxm : x ∈ N := List.mem_of_getElem? hx
        have Hsb := Lib.hid hsb
        by_cases hxy : x = y
        · subst hxy
          clear hx hdx hxc hub hsb hbx hxb hym hxm
          go_upto_region 5 with fail
          refine region_still_named (by kernel_rfl) (by kernel_rfl) ?_
          intro wz hz
          have hbz := Hbx.out.trans (hz ▸ below_drew1 (Below.refl w.heap.size wr) : Below w.heap.size wr wz)
          have Kdz := Lib.hid (Kx.out wz hbz)
          have Kyz := Lib.hid (Ky.out wz hbz)
          have Hbf := Lib.hid hbz
          clear hz hbz Kx Ky
          iterate 8 still_step
          refine rs_load_guard (by rfl) _ _ rfl (xa.add (b * 5)) rfl [.string x.p, .int .i64 x.k, .int .i64 x.m, .string x.d, .string x.l] _ Kdz.out Tryz.underlying39 rfl (by kernel_rfl) ?_
          iterate 3 still_step
          refine rs_load_guard (by rfl) _ _ rfl (ya.add (i * 5)) rfl [.string x.p, .int .i64 x.k, .int .i64 x.m, .string x.d, .string x.l] _ Kyz.out Tryz.underlying39 rfl (by kernel_rfl) ?_
          iterate 2 still_step
          refine wpStill_nil ?_
          go_wp2_with fail
          go_roundw
          case rel => exact ⟨b, i + 1, by go_num, by go_num, by omega, by omega, (List.sublist_cons_self _ _).trans Hsb.out, Hbf.out⟩
          case measure => simp [intOf]; omega
        · have hne : (x.p.toList == y.p.toList) = false := by
            rw [beq_eq_false_iff_ne, toList_data, toList_data]
            exact fun e => hxy (Hu.out x hxm y hym e)
          have Hs2 := Lib.hid (show (y :: L.drop (i + 1)).Sublist (N.drop (b + 1)) from by
            rw [hdx] at hsb
            cases hsb with
            | cons _ h => exact h
            | cons_cons _ h => exact absurd rfl hxy)
          clear hx hdx hxc hub hsb hbx hxb hym hxm Hsb hxy
          go_upto_region 5 with fail
          refine region_still_named (by kernel_rfl) (by kernel_rfl) ?_
          intro wz hz
          have hbz := Hbx.out.trans (hz ▸ below_drew1 (Below.refl w.heap.size wr) : Below w.heap.size wr wz)
          have Kdz := Lib.hid (Kx.out wz hbz)
          have Kyz := Lib.hid (Ky.out wz hbz)
          have Hbf := Lib.hid hbz
          clear hz hbz Kx Ky
          iterate 8 still_step
          refine rs_load_guard (by rfl) _ _ rfl (xa.add (b * 5)) rfl [.string x.p, .int .i64 x.k, .int .i64 x.m, .string x.d, .string x.l] _ Kdz.out Tryz.underlying39 rfl (by kernel_rfl) ?_
          iterate 3 still_step
          refine rs_load_guard (by rfl) _ _ rfl (ya.add (i * 5)) rfl [.string y.p, .int .i64 y.k, .int .i64 y.m, .string y.d, .string y.l] _ Kyz.out Tryz.underlying39 rfl (by kernel_rfl) ?_
          iterate 2 still_step
          refine wpStill_nil ?_
          clear hne
          go_wp2_with fail
          go_roundw
          case rel => exact ⟨b + 1, by go_num, by omega, Hs2.out, Hbf.out⟩
          case measure => simp [intOf]; omega
    · obtain rfl : i = m := by omega
      have Hbr := Lib.hid hbr
      clear hks hbr
      go_wp2
      go_ret
      exact ⟨rfl, Hbr.out⟩
end Go.Proofs.YtdkodedocklmdaaGreat
