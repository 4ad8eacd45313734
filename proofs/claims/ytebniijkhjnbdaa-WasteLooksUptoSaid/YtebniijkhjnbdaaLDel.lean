/- Lists of lists of changes, lent; whether they were left as they were. -/
import Derived.Test.YtebniijkhjnbdaaLLent
import Derived.Test.YtebniijkhjnbdaaLSumP
set_option linter.unusedSimpArgs false
set_option linter.unusedVariables false
namespace Go.Proofs.Ytebniijkhjnbdaa
open Go.RowKit Go.Maps
open Go.Lib hiding intOf size_eq
theorem Try.infoRow2 : (Try.prog.info? 38).map (fun i => (i.zero, i.size, i.bytes)) = some (some (.slice none 0 0), 1, 24) := by kernel_rfl
/-- a list of changes of one's own: what is seen, and what stands in its spare room -/
def InC (W : World) (B : Nat) (v : Value) (p : List Chg × List Chg) : Prop := ∃ g cap, v = .slice (some ⟨g, 0, none⟩) p.1.length cap ∧ W.ownsRow B 43 7 (.slice (some ⟨g, 0, none⟩) (p.1 ++ p.2).length cap) (p.1 ++ p.2).length ((p.1 ++ p.2).flatMap chgC)
theorem InC.below {w w' : World} {B B2 : Nat} {v : Value} {p : List Chg × List Chg} (h : InC w B v p) (hb : Below B2 w w') (hB : w.heap.size ≤ B2) : InC w' B v p := by
  obtain ⟨g, cap, h1, h2⟩ := h
  exact ⟨g, cap, h1, row_belowC h2 (hb.mono hB)⟩
theorem row_base {W : World} {base B n size : Nat} {e : TypeId} {v : Value} {xs : List Value} (h : W.ownsRow base e size v n xs) (hB : B ≤ base) : W.ownsRow B e size v n xs := by
  obtain ⟨h1, h2⟩ := h
  refine ⟨h1, ?_⟩
  rcases h2 with h2 | ⟨g, cap, cur, a, b, c⟩
  · exact .inl h2
  · exact .inr ⟨g, cap, cur, a, Nat.le_trans hB b, c⟩
theorem InC.of_lent {W : World} {base B : Nat} {v : Value} {L : List Chg} (h : LentC W base v L) (hB : B ≤ base) : InC W B v (L, marksC 90 16) := by
  obtain ⟨g, cap, h1, h2⟩ := h
  refine ⟨g, cap, h1, ?_⟩
  show W.ownsRow B 43 7 (.slice (some ⟨g, 0, none⟩) (L ++ marksC 90 16).length cap) (L ++ marksC 90 16).length _
  rw [full_lenC]
  exact row_base h2 hB
theorem InC.lent {W : World} {B : Nat} {v : Value} {L : List Chg} (h : InC W B v (L, marksC 90 16)) : LentC W B v L := by
  obtain ⟨g, cap, h1, h2⟩ := h
  have h3 : W.ownsRow B 43 7 (.slice (some ⟨g, 0, none⟩) (L ++ marksC 90 16).length cap) (L ++ marksC 90 16).length _ := h2
  rw [full_lenC] at h3
  exact ⟨g, cap, h1, h3⟩
def sprC : Chg := ⟨⟨#[115, 112, 97, 114, 101]⟩, false, ⟨#[]⟩, 0, 0, ⟨#[]⟩, ⟨#[]⟩⟩
theorem InC.spare {W : World} {B b : Nat} (h : W.heap[b]? = some (.cells (chgC sprC).toArray 43 (0, 0))) (hB : B ≤ b) : InC W B (.slice (some ⟨b, 0, none⟩) 1 1) ([sprC], []) :=
  ⟨b, 1, rfl, rfl, .inr ⟨b, 1, _, rfl, hB, h, Nat.le_refl _, by unfold maxLen; decide, rfl, rfl⟩⟩
def lentPL (LL : List (List Chg)) (i : Nat) : List (List Chg × List Chg) := LL.map (fun L => (L, marksC 90 16)) ++ List.replicate i ([sprC], [])
theorem lentPL_len (LL : List (List Chg)) (i : Nat) : (lentPL LL i).length = LL.length + i := by simp [lentPL]
theorem lentPL_succ (LL : List (List Chg)) (i : Nat) : lentPL LL (i + 1) = lentPL LL i ++ [([sprC], [])] := by
  unfold lentPL
  rw [List.append_assoc, List.replicate_succ']
theorem lentPL_get {LL : List (List Chg)} {i k : Nat} {L : List Chg} (h : LL[k]? = some L) : (lentPL LL i)[k]? = some (L, marksC 90 16) := by
  have := (List.getElem?_eq_some_iff.1 h).1
  unfold lentPL
  rw [List.getElem?_append_left (by simpa using this), List.getElem?_map, h]
  rfl
theorem lentPL_spare {LL : List (List Chg)} {i k : Nat} (h : LL.length ≤ k) (h2 : k < LL.length + i) : (lentPL LL i)[k]? = some ([sprC], []) := by
  unfold lentPL
  rw [List.getElem?_append_right (by simpa using h), List.getElem?_replicate]
  simp
  omega
/-- while the lists are laid -/
structure DJ (w W : World) (B : Nat) (out : Value) (PL : List (List Chg × List Chg)) (vs : List Value) : Prop where
  bel : Below B w W
  row : W.ownsRow B 38 1 out PL.length vs
  all : ∀ (i : Nat) v p, vs[i]? = some v → PL[i]? = some p → InC W B v p
theorem DJ.start (w : World) : DJ w w w.heap.size (.slice none 0 0) [] [] := ⟨Below.refl _ _, World.ownsRow_nil _ _ _ _, fun i v p h => by cases h⟩
theorem DJ.later {w W W1 : World} {B : Nat} {out : Value} {PL : List (List Chg × List Chg)} {vs : List Value} (h : DJ w W B out PL vs) (hb : Below W.heap.size W W1) (hB : B ≤ W.heap.size) : DJ w W1 B out PL vs :=
  ⟨h.bel.trans (hb.mono hB), row_belowC h.row hb, fun i v p hv hp => (h.all i v p hv hp).below hb (Nat.le_refl _)⟩
theorem DJ.step {w W W2 : World} {B : Nat} {out out' v : Value} {PL : List (List Chg × List Chg)} {vs : List Value} {p : List Chg × List Chg} (h : DJ w W B out PL vs) (hB : B ≤ W.heap.size)
    (hi : InC W B v p) (h2 : W2.ownsRow B 38 1 out' (PL.length + 1) (vs ++ [v])) (g2 : (W.alloc (.cells #[v] 38)).grownBy W2 out.ownBlock) : DJ w W2 B out' (PL ++ [p]) (vs ++ [v]) := by
  have hT : 43 ≠ 38 := by decide
  have up : ∀ u q, InC W B u q → InC W2 B u q := fun u q ⟨g, cap, k1, k2⟩ => ⟨g, cap, k1, (k2.alloc _).kept g2 (rows_apart k2 h.row hT)⟩
  refine ⟨(h.bel.alloc hB _).grown g2 (by simp; omega) (fun k e => (World.ownsRow.lt h.row k e).1), by rw [List.length_append, List.length_singleton]; exact h2, fun i u q hu hq => ?_⟩
  have hl : vs.length = PL.length := by have := h.row.1; omega
  by_cases hil : i < vs.length
  · rw [List.getElem?_append_left hil] at hu
    rw [List.getElem?_append_left (by omega)] at hq
    exact up _ _ (h.all i u q hu hq)
  · have e1 : i = vs.length := by
      have := (List.getElem?_eq_some_iff.1 hu).1
      rw [List.length_append, List.length_singleton] at this
      omega
    subst e1
    rw [List.getElem?_append_right (Nat.le_refl _), Nat.sub_self] at hu
    rw [List.getElem?_append_right (by omega), hl, Nat.sub_self] at hq
    injection hu with hu
    injection hq with hq
    subst hu hq
    exact up _ _ hi
/-- lists that are lent -/
def LentDs (W : World) (B : Nat) (v : Value) (LL : List (List Chg)) : Prop := ∃ g cap vs, v = .slice (some ⟨g, 0, none⟩) LL.length cap ∧ W.ownsRow B 38 1 (.slice (some ⟨g, 0, none⟩) (LL.length + 16) cap) (LL.length + 16) vs ∧ ∀ (i : Nat) u p, vs[i]? = some u → (lentPL LL 16)[i]? = some p → InC W B u p
theorem LentDs.below {w w' : World} {B B2 : Nat} {v : Value} {LL : List (List Chg)} (h : LentDs w B v LL) (hb : Below B2 w w') (hB : w.heap.size ≤ B2) : LentDs w' B v LL := by
  obtain ⟨g, cap, vs, h1, h2, h3⟩ := h
  exact ⟨g, cap, vs, h1, row_belowC h2 (hb.mono hB), fun i u p hu hp => (h3 i u p hu hp).below hb hB⟩
theorem row_cell {W : World} {B g n cap : Nat} {T : TypeId} {xs : List Value} (h : W.ownsRow B T 1 (.slice (some ⟨g, 0, none⟩) n cap) n xs) : n ≤ cap ∧ cap ≤ maxLen ∧ xs.length = n ∧ (0 < n → g < W.heap.size) ∧ B ≤ g ∧ ∀ (i : Nat) x, xs[i]? = some x → W.cell? ⟨g, i, none⟩ = some x := by
  obtain ⟨h1, h2⟩ := h
  rcases h2 with ⟨e, _⟩ | ⟨g2, cap2, cur, e, hB, hg, hnc, hcm, hsz, htk⟩
  · cases e
  · injection e with e1 e2 e3
    injection e1 with e1
    injection e1 with e1
    subst e1 e3
    refine ⟨hnc, hcm, by omega, fun _ => heap_lt hg, hB, fun i x hx => ?_⟩
    refine block_cell hg ?_
    rw [← htk] at hx
    rw [List.getElem?_take] at hx
    split at hx
    · simpa using hx
    · cases hx
theorem LentDs.deltas {W : World} {B : Nat} {v : Value} {LL : List (List Chg)} (h : LentDs W B v LL) : DeltasAt W v LL := by
  obtain ⟨g, cap, vs, rfl, h2, h3⟩ := h
  obtain ⟨k1, k2, k3, k4, _, k5⟩ := row_cell h2
  refine ⟨_, cap, rfl, by omega, k2, fun i L hL => ?_⟩
  have hi := (List.getElem?_eq_some_iff.1 hL).1
  have hv : vs[i]? = some vs[i] := List.getElem?_eq_getElem (by omega)
  refine ⟨_, vs[i], rfl, k4 (by omega), ?_, (h3 i _ _ hv (lentPL_get hL)).lent.ents⟩
  rw [gadd_new, Nat.zero_add]
  exact k5 i _ hv
set_option maxRecDepth 100000 in
set_option maxHeartbeats 4000000 in
theorem lentDs_any (v : Value) (LL : List (List Chg)) (w : World) (h : DeltasAt w v LL) (hl : LL.length ≤ 1048576) (hL : ∀ L ∈ LL, L.length ≤ 1048576) :
    Calls Try.prog 9 #[v] w fun r w' => ∃ v', r = .returned v' ∧ LentDs w' w.heap.size v' LL ∧ Below w.heap.size w w' := by
  obtain ⟨iR, hiR, hR0, hR1, hR2⟩ := info_parts Try.infoRow2
  have HiR := Lib.hid hiR
  have HR0 := Lib.hid hR0
  have HR1 := Lib.hid hR1
  have HR2 := Lib.hid hR2
  clear hiR hR0 hR1 hR2
  obtain ⟨o, cap, rfl, hlc, hcm⟩ := h.len
  obtain ⟨n, hn⟩ : ∃ n, n = LL.length := ⟨_, rfl⟩
  rw [← hn] at hlc hl ⊢
  have Hd := Lib.hid h
  have Hn := Lib.hid hn
  have HL := Lib.hid hL
  clear h hn hL
  go_enter Try.func9, Try.ntmps9
  go_wp2_with fail
  go_loopw [3, 4, 5] (fun ov iv xv wr => ∃ (k : Nat) (vs : List Value) (x1 : Value), xv = x1 ∧ iv = .int .i64 (k : Int) ∧ k ≤ n ∧ Hid (DJ w wr w.heap.size ov (lentPL (LL.take k) 0) vs)) (fun _ iv _ _ => n - (intOf iv).toNat)
  case atStart => exact ⟨0, [], _, rfl, rfl, Nat.zero_le _, Lib.hid (DJ.start w)⟩
  case round =>
    obtain ⟨k, vs, x1, rfl, rfl, hk, HJ⟩ := hrel
    by_cases hkn : k < n
    · obtain ⟨L, hL⟩ : ∃ L, LL[k]? = some L := ⟨_, List.getElem?_eq_getElem (by rw [← Hn.out]; exact hkn)⟩
      obtain ⟨a, u, rfl, hab, hac0, hIt⟩ : ∃ a u, o = some a ∧ a.block < w.heap.size ∧ w.cell? (a.add k) = some u ∧ ChgsAt w u L := by
        obtain ⟨a, o2, c2, h1, h2, h3, _, _, h6⟩ := Hd.out.get hL
        exact ⟨a, _, h1, h2, h3, h6⟩
      have hac : wr.cell? (a.add k) = some u := (HJ.out.bel.cell (p := a.add k) (by rw [gadd_block]; exact hab)).trans hac0
      have hsz := HJ.out.bel.size
      have hcall := lentC_any u L wr (hIt.below HJ.out.bel (Nat.le_refl _)) (by have := HL.out L (List.mem_of_getElem? hL); omega)
      have hpl : (lentPL (LL.take k) 0).length = k := by rw [lentPL_len, List.length_take]; have := Hn.out; omega
      have hst : lentPL (LL.take k) 0 ++ [(L, marksC 90 16)] = lentPL (LL.take (k + 1)) 0 := by
        unfold lentPL
        rw [← gtake hL, List.map_append]
        simp
      have Hcall := Lib.hid hcall
      have Hst := Lib.hid hst
      have Hpl := Lib.hid hpl
      clear hIt hac0 hab hL hcall hst hpl
      go_wp2_with fail
      refine Hcall.out.mono ?_
      rintro r w1 ⟨v1, rfl, hv1, hb1⟩
      have hJ1 := HJ.out.later hb1 hsz
      have hs1 := hb1.size
      have hI1 := Lib.hid (InC.of_lent hv1 hsz)
      have hrow1 := hJ1.row
      rw [Hpl.out] at hrow1
      have Hrow1 := Lib.hid (hrow1.alloc (.cells #[v1] 38))
      have HJ1 := Lib.hid hJ1
      obtain ⟨g1, c1, rfl, _⟩ := hv1
      clear hb1 hJ1 hrow1
      go_wp2_with (first
        | (at_builtin; refine wpList_append_own_at _ rfl _ _ 22 rfl w.heap.size 38 iR _ 1 24 Try.underlying22 HiR.out HR0.out HR1.out HR2.out rfl (by decide) _ _ _ rfl Hrow1.out ⟨w1.heap.size, 0, none⟩ 1 1 [.slice (some ⟨g1, 0, none⟩) L.length c1] rfl rfl (item_cells (World.alloc_heap_new _ _)) (by simp [Value.oneCell']) (by unfold maxLen; omega) (by omega) (by simp; omega) ?_
           intro v2 w2' hown2 hgrow2 _ _
           have HNew := Lib.hid (HJ1.out.step (by omega) hI1.out (by rw [Hpl.out]; exact hown2) hgrow2)
           clear hown2 hgrow2))
      go_roundw
      case rel => exact ⟨k + 1, _, _, rfl, by go_num, by omega, by rw [← Hst.out]; exact HNew⟩
      case measure => simp [intOf]; omega
    · obtain rfl : k = n := by omega
      have hall : LL.take k = LL := by rw [Hn.out, List.take_length]
      rw [hall] at HJ
      clear hall
      go_wp2_with fail
      obtain ⟨w3, hw3⟩ : ∃ x, x = wr := ⟨_, rfl⟩
      subst hw3
      go_loopw [3, 6] (fun ov iv wr => ∃ (i : Nat) (vs : List Value), iv = .int .i64 (i : Int) ∧ i ≤ 16 ∧ Hid (DJ w wr w.heap.size ov (lentPL LL i) vs)) (fun _ iv _ => 16 - (intOf iv).toNat)
      case atStart => exact ⟨0, vs, rfl, Nat.zero_le _, HJ⟩
      case round =>
        obtain ⟨i, vs2, rfl, hi, HK⟩ := hrel
        have hpl : (lentPL LL i).length = k + i := by rw [lentPL_len, Hn.out]
        by_cases h16 : i < 16
        · have hs2 := HK.out.bel.size
          obtain ⟨w4, hw4⟩ : ∃ y, y = wr.alloc (.cells #[.string ⟨#[115, 112, 97, 114, 101]⟩, .bool false, .string ⟨#[]⟩, .int .i64 0, .int .i64 0, .string ⟨#[]⟩, .string ⟨#[]⟩] 43) := ⟨_, rfl⟩
          have hJ4 := HK.out.later (W1 := w4) (by rw [hw4]; exact (Below.refl _ _).alloc (Nat.le_refl _) _) hs2
          have hn4 : w4.heap[wr.heap.size]? = some (.cells (chgC sprC).toArray 43 (0, 0)) := by rw [hw4]; exact World.alloc_heap_new wr _
          have hz4 : w4.heap.size = wr.heap.size + 1 := by rw [hw4]; simp
          have hI4 := InC.spare hn4 hs2
          have hrow4 := hJ4.row
          rw [hpl] at hrow4
          have Hrow4 := Lib.hid (hrow4.alloc (.cells #[.slice (some ⟨wr.heap.size, 0, none⟩) 1 1] 38))
          have HJ4 := Lib.hid hJ4
          have HI4 := Lib.hid hI4
          have Hpl := Lib.hid hpl
          have Hz4 := Lib.hid hz4
          have Hcl := Lib.hid (item_cells (cs := [.slice (some ⟨wr.heap.size, 0, none⟩) 1 1]) (World.alloc_heap_new w4 (.cells #[.slice (some ⟨wr.heap.size, 0, none⟩) 1 1] 38)))
          rw [hz4, hw4] at Hcl
          rw [hw4] at Hrow4
          clear hJ4 hn4 hI4 hrow4 hpl hz4
          go_wp2_with (first
            | (at_builtin; refine wpList_append_own_at _ rfl _ _ 22 rfl w.heap.size 38 iR _ 1 24 Try.underlying22 HiR.out HR0.out HR1.out HR2.out rfl (by decide) _ _ _ rfl Hrow4.out ⟨wr.heap.size + 1, 0, none⟩ 1 1 [.slice (some ⟨wr.heap.size, 0, none⟩) 1 1] rfl rfl Hcl.out (by simp [Value.oneCell']) (by unfold maxLen; omega) (by omega) (by simp; omega) ?_
               intro v2 w2' hown2 hgrow2 _ _
               have HNew := Lib.hid (HJ4.out.step (by have := Hz4.out; omega) HI4.out (by rw [Hpl.out]; exact hown2) (by rw [hw4]; exact hgrow2))
               clear hown2 hgrow2))
          go_roundw
          case rel => exact ⟨i + 1, _, by go_num, by omega, by rw [lentPL_succ]; exact HNew⟩
          case measure => simp [intOf]; omega
        · obtain rfl : i = 16 := by omega
          have hrow := HK.out.row
          rw [hpl] at hrow
          have hrow2 := hrow
          obtain ⟨_, h5⟩ := hrow2
          rcases h5 with ⟨_, h0⟩ | ⟨g, cap2, cur, rfl, _, _, hnc, hcm2, _⟩
          · omega
          have hfin : LentDs wr w.heap.size (.slice (some ⟨g, 0, none⟩) k cap2) LL := by
            rw [Hn.out]
            exact ⟨g, cap2, vs2, rfl, by rw [← Hn.out]; exact hrow, HK.out.all⟩
          have Hfin := Lib.hid hfin
          have Hbel := Lib.hid HK.out.bel
          clear hrow hpl hfin HK
          go_wp2_with fail
          go_ret
          exact ⟨_, rfl, Hfin.out, Hbel.out⟩
set_option maxRecDepth 100000 in
set_option maxHeartbeats 4000000 in
theorem keptDs_any (va vb : Value) (LL : List (List Chg)) (B : Nat) (w : World) (ha : LentDs w B va LL) (hb : DeltasAt w vb LL) (hl : LL.length ≤ 1048576) (hL : ∀ L ∈ LL, L.length ≤ 1048576) :
    Calls Try.prog 13 #[va, vb] w fun r w' => r = .returned (.bool true) ∧ Below w.heap.size w w' := by
  obtain ⟨g, cap, vs, rfl, hrow, hin⟩ := ha
  obtain ⟨k1, k2, k3, k4, _, k5⟩ := row_cell hrow
  obtain ⟨o, cap0, rfl, hlc, hcm⟩ := hb.len
  obtain ⟨n, hn⟩ : ∃ n, n = LL.length := ⟨_, rfl⟩
  rw [← hn] at hlc hl k1 k3 k4 ⊢
  have hgl : g < w.heap.size := k4 (by omega)
  have Hd := Lib.hid hb
  have Hn := Lib.hid hn
  have HL := Lib.hid hL
  have Hin := Lib.hid hin
  have K3 := Lib.hid k3
  have K5 := Lib.hid k5
  clear hb hn hL hin k3 k4 k5 hrow
  go_enter Try.func13, Try.ntmps13
  go_wp2_with fail
  go_loopw [7] (fun iv wr => ∃ i : Nat, iv = .int .i64 (i : Int) ∧ i ≤ n ∧ Hid (Below w.heap.size w wr)) (fun iv _ => n - (intOf iv).toNat)
  case atStart => exact ⟨0, rfl, Nat.zero_le _, Lib.hid (Below.refl _ _)⟩
  case round =>
    obtain ⟨i, rfl, hi, HB⟩ := hrel
    by_cases hin : i < n
    · obtain ⟨L, hL⟩ : ∃ L, LL[i]? = some L := ⟨_, List.getElem?_eq_getElem (by rw [← Hn.out]; exact hin)⟩
      obtain ⟨a, u, rfl, hab, hac0, hIt⟩ : ∃ a u, o = some a ∧ a.block < w.heap.size ∧ w.cell? (a.add i) = some u ∧ ChgsAt w u L := by
        obtain ⟨a, o2, c2, h1, h2, h3, _, _, h6⟩ := Hd.out.get hL
        exact ⟨a, _, h1, h2, h3, h6⟩
      obtain ⟨x, hx⟩ : ∃ x, vs[i]? = some x := ⟨_, List.getElem?_eq_getElem (by have := K3.out; omega)⟩
      have hlent := (Hin.out i x _ hx (lentPL_get hL)).lent
      have hbd : Below wr.heap.size wr wr.drew := below_drew (Below.refl _ _)
      have hbz := HB.out.trans (hbd.mono HB.out.size)
      have cx : wr.drew.cell? ⟨g, i, none⟩ = some x := (hbz.cell (p := ⟨g, i, none⟩) hgl).trans (K5.out i x hx)
      have cu : wr.drew.cell? (a.add i) = some u := (hbz.cell (p := a.add i) (by rw [gadd_block]; exact hab)).trans hac0
      have hk := keptC_any x u L B wr.drew (hlent.below hbz (Nat.le_refl _)) (hIt.below hbz (Nat.le_refl _)) (HL.out L (List.mem_of_getElem? hL))
      have Hk := Lib.hid hk
      have Cx := Lib.hid cx
      have Cu := Lib.hid cu
      have Hbz := Lib.hid hbz
      clear hk cx cu hbz hbd hlent hx hIt hac0 hL
      have hi16 : (i : Int) < (n : Int) + 16 := by omega
      have hin2 : (i : Int) < (n : Int) := by omega
      go_upto_region 8 with fail
      refine gregion_tail 8 (by kernel_rfl) (by kernel_rfl) ?_
      intro wz hz
      have cx := Cx.out
      have cu := Cu.out
      rw [← hz] at cx cu Hk Hbz
      clear hz
      simp only [List.take_succ_cons, List.take_zero, List.drop_succ_cons, List.drop_zero]
      iterate 8 still_step
      refine wpStill_nil ?_
      go_wp2_with fail
      refine Hk.out.mono ?_
      rintro r w5 ⟨rfl, hb5⟩
      have HB5 := Lib.hid (Hbz.out.trans (hb5.mono Hbz.out.size))
      clear hb5 cx cu
      go_wp2_with fail
      go_roundw
      case rel => exact ⟨i + 1, by go_num, by omega, HB5⟩
      case measure => simp [intOf]; omega
    · obtain rfl : i = n := by omega
      go_wp2_with fail
      obtain ⟨w3, hw3⟩ : ∃ x, x = wr := ⟨_, rfl⟩
      subst hw3
      go_loopw [8] (fun iv wr => ∃ j : Nat, iv = .int .i64 (j : Int) ∧ i ≤ j ∧ j ≤ i + 16 ∧ w3 = wr) (fun iv _ => i + 16 - (intOf iv).toNat)
      case atStart => exact ⟨i, rfl, Nat.le_refl _, by omega, rfl⟩
      case round =>
        obtain ⟨j, rfl, hij, hj, rfl⟩ := hrel
        by_cases hlt : j < i + 16
        · obtain ⟨x, hx⟩ : ∃ x, vs[j]? = some x := ⟨_, List.getElem?_eq_getElem (by have := K3.out; omega)⟩
          obtain ⟨g2, c2, rfl, h2⟩ := (Hin.out j x _ hx (lentPL_spare (by rw [← Hn.out]; exact hij) (by rw [← Hn.out]; exact hlt))).below HB.out (Nat.le_refl _)
          have hit := items_of_row chgC_len h2
          obtain ⟨a2, ha2, _, hc2⟩ := hit.get (i := 0) (e := sprC) rfl
          injection ha2 with ha2
          subst ha2
          have q0 := hc2 0 _ rfl
          rw [gadd_new, gadd_new] at q0
          have q0a : w3.cell? ⟨g2, 0, none⟩ = some (.string ⟨#[115, 112, 97, 114, 101]⟩) := q0
          have hg2 := World.block_lt_of_cell? w3 ⟨g2, 0, none⟩ q0a
          have cx : w3.cell? ⟨g, j, none⟩ = some (.slice (some ⟨g2, 0, none⟩) 1 c2) := (HB.out.cell (p := ⟨g, j, none⟩) hgl).trans (K5.out j _ hx)
          clear q0 hc2 hit h2 hx
          go_wp2_with fail
          go_roundw
          case rel => exact ⟨j + 1, by go_num, by omega, by omega, by trivial⟩
          case measure => simp [intOf]; omega
        · obtain rfl : j = i + 16 := by omega
          go_wp2_with fail
          go_ret
          exact ⟨rfl, HB.out⟩
end Go.Proofs.Ytebniijkhjnbdaa
