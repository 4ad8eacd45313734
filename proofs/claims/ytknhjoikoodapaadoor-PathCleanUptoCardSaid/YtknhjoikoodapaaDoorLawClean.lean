/- The walk of PathClean. -/
import Derived.Test.YtknhjoikoodapaaDoorLaws
import Derived.Test.YtknhjoikoodapaaDoorStays
set_option linter.unusedSimpArgs false
set_option linter.unusedVariables false
namespace Go.Proofs.YtknhjoikoodapaaDoor
open Go.RowKit Go.Shelf
open Go.Lib hiding intOf
attribute [local go_sem] Oper.semAt_some

theorem wf_weight_le {l : List UInt8} {pre : List (List UInt8)} {x : List UInt8} {rest : List (List UInt8)} (h : pieces l = pre ++ x :: rest) : weight pre + (x.length + 1) ≤ l.length + 1 := by
  have h3 := weight_pieces l
  rw [h, weight_append, weight_cons] at h3
  omega

set_option maxRecDepth 100000 in
set_option maxHeartbeats 4000000 in
theorem pathClean_any (s t : ByteArray) (w : World) (hs : s.size ≤ 1073741824) (ht : t.size ≤ 1073741824) (hg : Handle w) :
    Calls Tryd.prog 10 #[.string s, .string t] w fun e w' => e = .returned (.bool true) ∧ Below w.heap.size w w' := by
  obtain ⟨c, hc⟩ : ∃ c, c = bs (cleanP s.data.toList) := ⟨_, rfl⟩
  obtain ⟨d, hd⟩ : ∃ d, d = bs (cleanP (s.data.toList ++ 47 :: t.data.toList)) := ⟨_, rfl⟩
  have hcl : c.data.toList = cleanP s.data.toList := by rw [hc]; rfl
  have hcs : c.size ≤ 1073741825 := by
    have := clean_length s.data.toList
    rw [← size_eq] at this
    rw [hc, bs_size]
    omega
  have c1 := fun W => clean_any s W (by omega)
  rw [← hc] at c1
  have c2 := fun W => clean_any c W (by omega)
  rw [hcl, clean_clean, ← hc] at c2
  have c3 := fun W => clean_any (s ++ ⟨#[47]⟩ ++ t) W (by rw [append_bs, append_bs]; simp [← size_eq]; omega)
  rw [show (s ++ ⟨#[47]⟩ ++ t).data.toList = s.data.toList ++ 47 :: t.data.toList from by rw [append_bs, append_bs]; simp, ← hd] at c3
  have c4 := fun W => clean_any (c ++ ⟨#[47]⟩ ++ t) W (by rw [append_bs, append_bs]; simp [← size_eq]; omega)
  rw [show (c ++ ⟨#[47]⟩ ++ t).data.toList = c.data.toList ++ 47 :: t.data.toList from by rw [append_bs, append_bs]; simp, hcl, ← clean_join, ← hd] at c4
  have hgood : ∀ x ∈ pieces c.data.toList, Good x := by rw [hcl, pieces_clean]; exact good_clean _
  have hwt : (c.data.toList = [] ∧ weight (pieces c.data.toList) = 0) ∨ weight (pieces c.data.toList) = c.size + 1 := by
    have h := clean_weight s.data.toList
    rw [← hcl, ← size_eq] at h
    exact h
  have b1 : ¬ 9223372036854775807 < s.size + 1 := by omega
  have b2 : ¬ 9223372036854775807 < s.size + 1 + t.size := by omega
  have b3 : ¬ 9223372036854775807 < c.size + 1 := by omega
  have b4 : ¬ 9223372036854775807 < c.size + 1 + t.size := by omega
  have C1 := Lib.hid c1
  have C2 := Lib.hid c2
  have C3 := Lib.hid c3
  have C4 := Lib.hid c4
  have C5 := Lib.hid (fun W => piecesFn_any c W)
  have Hg := Lib.hid hg
  have Hgood := Lib.hid hgood
  have Hwt := Lib.hid hwt
  clear c1 c2 c3 c4 hg hgood hwt hc hd hcl
  refine (callsIn_wide (n := 0)).1 ?_
  refine callsIn_of_wp_marks Tryd.func10 rfl trivial ?_ rfl
  simp only [Tryd.ntmps10, List.size_toArray, List.length_cons, List.length_nil, Nat.reduceAdd, Nat.reduceSub, Array.replicate_succ, Array.replicate_zero, List.push_toArray, List.append_toArray, List.nil_append, List.cons_append]
  have hbr : Boxed (w.alloc (.cells #[.bool false] 4)) w.heap.size 4 (.bool false) := Boxed.new w _ _
  have hb0 : Below w.heap.size w (w.alloc (.cells #[.bool false] 4)) := (Below.refl _ _).alloc (Nat.le_refl _) _
  have R0 := Lib.hid hbr
  have B0 := Lib.hid hb0
  have H0 := Lib.hid (Hg.out.alloc (.cells #[.bool false] 4))
  clear hbr hb0
  gi_wp2_with fail
  refine ⟨trivial, rfl, ?_⟩
  gi_at_call 26
  refine CallsIn.mono (callsIn_wide.2 (C1.out _)) ?_
  rintro e w1 ⟨rfl, hb⟩
  have R1 := Lib.hid (boxed_below R0.out hb)
  have B1 := Lib.hid (below_step B0.out hb (by simp))
  have H1 := Lib.hid (H0.out.step hb)
  clear hb
  gi_wp2_with fail
  refine ⟨trivial, rfl, ?_⟩
  gi_at_call 15
  refine CallsIn.mono (callsIn_wide.2 (works_any _ H1.out)) ?_
  rintro e w2 ⟨rfl, hb⟩
  have R2 := Lib.hid (boxed_below R1.out hb)
  have B2 := Lib.hid (B1.out.trans (hb.mono B1.out.size))
  clear hb
  gi_wp2_with fail
  refine ⟨trivial, rfl, ?_⟩
  gi_at_call 26
  refine CallsIn.mono (callsIn_wide.2 (C2.out _)) ?_
  rintro e w3 ⟨rfl, hb⟩
  have R3 := Lib.hid (boxed_below R2.out hb)
  have B3 := Lib.hid (B2.out.trans (hb.mono B2.out.size))
  clear hb
  gi_wp2_with fail
  refine ⟨trivial, rfl, ?_⟩
  gi_at_call 26
  refine CallsIn.mono (callsIn_wide.2 (C3.out _)) ?_
  rintro e w4 ⟨rfl, hb⟩
  have R4 := Lib.hid (boxed_below R3.out hb)
  have B4 := Lib.hid (B3.out.trans (hb.mono B3.out.size))
  clear hb
  gi_wp2_with fail
  refine ⟨trivial, rfl, ?_⟩
  gi_at_call 26
  refine CallsIn.mono (callsIn_wide.2 (C4.out _)) ?_
  rintro e w5 ⟨rfl, hb⟩
  have R5 := Lib.hid (boxed_below R4.out hb)
  have B5 := Lib.hid (B4.out.trans (hb.mono B4.out.size))
  clear hb
  have hw5 : w.heap.size + 1 ≤ w5.heap.size := R5.out.lt
  gi_wp2_with (refine ⟨trivial, rfl, ?_⟩; gi_at_call 34; refine CallsIn.mono (callsIn_wide.2 (C5.out _)) ?_; rintro e w1 ⟨rfl, rfl⟩)
  obtain ⟨W2, hW2⟩ : ∃ W2, W2 = (w5.alloc (.cells #[.int .i64 0] 3)).alloc (.cells #[.string c] 9) := ⟨_, rfl⟩
  rw [← hW2]
  have hsz : W2.heap.size = w5.heap.size + 2 := by rw [hW2]; simp
  have hbr : Boxed W2 w.heap.size 4 (.bool false) := by rw [hW2]; exact (R5.out.alloc _).alloc _
  have hbn : Boxed W2 w5.heap.size 3 (.int .i64 0) := by rw [hW2]; exact (Boxed.new w5 _ _).alloc _
  have hb2 : Below w.heap.size w W2 := by rw [hW2]; exact (B5.out.alloc (by omega) _).alloc (by simp; omega) _
  have hseq : SeqL Tryd.prog 53 #[.pointer (some ⟨w5.heap.size + 1, 0, none⟩)] (fun p => #[.string (bs p)]) (KeepsT 28) (pieces c.data.toList) W2 := by
    refine pieces_seq _ c W2 (by omega) ?_ (by omega)
    rw [hW2]
    have h := (Boxed.new (w5.alloc (.cells #[.int .i64 0] 3)) 9 (.string c)).cell
    rw [World.size_alloc] at h
    exact h
  clear hW2
  refine wpIn_range_flat (gf := 53) (lb := #[.pointer (some ⟨w5.heap.size + 1, 0, none⟩)]) rfl Tryd.piecesEnters hseq (fun W => KeepsT.refl W) (fun h k => h.trans k) (fun _ _ _ o' _ h ho _ => KeepsT.putObj o' h ho) (Below.refl _ _) (fun _ => rfl)
    (fun pre Wx => (Boxed Wx w.heap.size 4 (.bool false) ∧ Boxed Wx w5.heap.size 3 (.int .i64 (weight pre : Int))) ∧ Below w.heap.size w Wx)
    (fun _ _ _ => False)
    (OwnFrom.and (OwnFrom.and (Own.from (boxed_own _ _ (fun _ => _)) _) (Own.from (boxed_own _ _ (fun pre : List (List UInt8) => .int .i64 (weight pre : Int))) _)) (ownFrom_below (Nat.le_refl _) (by omega)))
    (fun _ _ _ _ _ hs _ _ => hs)
    ⟨⟨hbr, hbn⟩, hb2⟩ ?a1 ?assign ?body ?done ?stop
  case assign =>
    intro l' x Wx K hK
    gi_wp2
    exact hK
  case body =>
    rintro l' pre x rest Wx hl hr hL ⟨⟨hr1, hn⟩, hb⟩
    have hnc := hn.cell
    have hnf := hn.frozen
    have hwl := wf_weight_le hL
    rw [← size_eq] at hwl
    obtain ⟨g1, g2, g3, g4⟩ := Hgood.out x (by rw [hL]; simp)
    have t0 : (bs x).toList.isEmpty = false := emptyB_f g1
    have t1 : ((bs x).toList == [46]) = false := eqB_f g2
    have t2 : ((bs x).toList == [46, 46]) = false := eqB_f g3
    have hfin : weight (pre ++ [x]) = weight pre + x.length + 1 := by rw [weight_append, weight_cons, weight_nil]; omega
    have hxs : (bs x).size = x.length := bs_size x
    have Hfin := Lib.hid hfin
    generalize weight pre = n at *
    have Hb := Lib.hid hb
    have Hn := Lib.hid hn
    have Hr := Lib.hid hr1
    clear hb hn hr1 hL g1 g2 g3 g4 hfin hseq hbr hbn hb2
    gi_wp2
    refine ⟨(KeepsOthers.setCell _ _ _).from _, KeepsT.setCell _ (fun cs fz h => box_ne Hn.out (by decide) h), ⟨Hr.out.other (by omega) _, ?_⟩, Hb.out.setCell (p := ⟨w5.heap.size, 0, none⟩) (by simp; omega) _⟩
    have h := Hn.out.set (.int .i64 (((n + x.length + 1 : Nat)) : Int))
    simp only [Hfin.out]
    simpa using h
  case done =>
    rintro D Wd hD ⟨⟨hr1, hn⟩, hb⟩ hK
    have hrc := hr1.cell
    have hrf := hr1.frozen
    have hnc := hn.cell
    have hnf := hn.frozen
    have Hb := Lib.hid hb
    have Hn := Lib.hid hn
    have Hr := Lib.hid hr1
    have HK := Lib.hid hK
    clear hb hn hr1 hK hseq hbr hbn hb2
    have fin : ∀ tmps : Array Value, tmps[4]? = some (.pointer (some ⟨w.heap.size, 0, none⟩)) → LeavesInM Fence.wide 0 Tryd.prog Tryd.f10 tmps (fun e w' => e = .returned (.bool true) ∧ Below w.heap.size w w') [{ target := .collected D, args := #[] }] .returning
        (Wd.setCell ⟨w.heap.size, 0, none⟩ (.bool true)) := by
      intro tmps ht
      have hK1 := deferred_setCell HK.out rfl ⟨w.heap.size, 0, none⟩ (.bool true)
      have hb := (Boxed.putObj (Hr.out.set (.bool true)) (.deferred none) hK1 rfl).cell
      refine leave_mark (v := .bool true) hK1 (by simp [results, Tryd.results10, go_sem, ht, hb]) ⟨rfl, below_putObj (Hb.out.setCell (p := ⟨w.heap.size, 0, none⟩) (Nat.le_refl _) _) _ (by omega)⟩
    have Fin := Lib.hid fin
    clear fin
    rcases Hwt.out with ⟨h1, h2⟩ | h2
    · have e0 := emptyB_t h1
      rw [h2] at hnc
      clear h1 h2
      gi_wp2
      exact Fin.out _ rfl
    · rw [h2] at hnc
      have q1 : ((c.size : Int) + 1 == (c.size : Int) + 1) = true := by simp
      have q2 : (((c.size + 1 : Nat) : Int) == 0) = false := by simp; omega
      clear h2
      cases e0 : c.toList.isEmpty
      · gi_wp2
        exact Fin.out _ rfl
      · gi_wp2
        exact Fin.out _ rfl
  case stop =>
    rintro D c pre x rest Wd hD hL h hK
    exact h.elim
end Go.Proofs.YtknhjoikoodapaaDoor
