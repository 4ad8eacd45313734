/- The contract of path.Check. -/
import Derived.Test.YtfanfkogogijpaaGreatDoorIter
import Derived.Test.YtfanfkogogijpaaGreatDoorName
import Derived.Test.YtfanfkogogijpaaGreatDoorTCheck
set_option linter.unusedSimpArgs false
set_option linter.unusedVariables false
namespace Go.Proofs.YtfanfkogogijpaaGreatDoor
open Go.RowKit Go.Shelf
open Go.Lib hiding intOf
attribute [local go_sem] Oper.semAt_some

theorem splitP_no (l : List UInt8) : (splitP l).2.2 = 0 ∨ (splitP l).2.2 = 9 := by
  unfold splitP
  split
  · exact .inl rfl
  · split
    · exact .inr rfl
    · split
      · exact .inr rfl
      · exact .inl rfl
theorem whiteout_length (l : List UInt8) : (whiteout l).length ≤ 2 * l.length + 5 := by
  unfold whiteout joinP parent lastName white
  split <;> simp <;> omega
set_option maxRecDepth 100000 in
set_option maxHeartbeats 4000000 in
theorem check_any (s : ByteArray) (w : World) (hs : s.size < 1152921504606846976) :
    Calls Tryz.prog 37 #[.string s] w fun e w' => e = .returned (errV (checkNo s.data.toList)) ∧ Below w.heap.size w w' := by
  by_cases h0 : s.data.toList = []
  · have b0 := emptyB_t h0
    have g : errV (checkNo s.data.toList) = .iface 65 (.int .i64 15) := by unfold checkNo; rw [if_pos h0]; rfl
    have G := Lib.hid g
    clear g h0
    go_enter Tryz.func37, Tryz.ntmps37
    go_wp2
    refine bodyPost_ret (v := .iface 65 (.int .i64 15)) (by simp [results, Tryz.results37, go_sem]) rfl ⟨by rw [G.out], ?_⟩
    exact (Below.refl _ _).alloc (Nat.le_refl _) _
  have b0 := emptyB_f h0
  refine (callsIn_wide (n := 0)).1 ?_
  refine callsIn_of_wp_marks Tryz.func37 rfl trivial ?_ rfl
  simp only [Tryz.ntmps37, List.size_toArray, List.length_cons, List.length_nil, Nat.reduceAdd, Nat.reduceSub, Array.replicate_succ, Array.replicate_zero, List.push_toArray, List.append_toArray, List.nil_append, List.cons_append]
  have Hall := Lib.hid (fun W => allFn_any s W)
  have H0 := Lib.hid h0
  clear h0
  gi_wp2_with (refine ⟨trivial, rfl, ?_⟩; gi_at_call 59; refine CallsIn.mono (callsIn_wide.2 (Hall.out _)) ?_; rintro e w1 ⟨rfl, rfl⟩)
  obtain ⟨W2, hW2⟩ : ∃ W2, W2 = ((w.alloc (.cells #[.nilIface] 26)).alloc (.cells #[.int .i64 0] 3)).alloc (.cells #[.string s] 9) := ⟨_, rfl⟩
  rw [← hW2]
  have hsz : W2.heap.size = w.heap.size + 3 := by rw [hW2]; simp
  have hbe : Boxed W2 w.heap.size 26 .nilIface := by rw [hW2]; exact ((Boxed.new w 26 .nilIface).alloc _).alloc _
  have hbn : Boxed W2 (w.heap.size + 1) 3 (.int .i64 0) := by
    rw [hW2]
    have := Boxed.new (w.alloc (.cells #[.nilIface] 26)) 3 (.int .i64 0)
    rw [World.size_alloc] at this
    exact this.alloc _
  have hb2 : Below w.heap.size w W2 := by rw [hW2]; exact (((Below.refl _ _).alloc (Nat.le_refl _) _).alloc (by simp) _).alloc (by simp; omega) _
  have hseq : SeqL Tryz.prog 74 #[.pointer (some ⟨w.heap.size + 1 + 1, 0, none⟩)] (fun p => #[.string (bs p)]) (fun _ _ => True) (pcs s.data.toList) W2 := by
    refine all_seq _ _ s W2 (by omega) ?_ (by omega)
    rw [hW2]
    have h := (Boxed.new ((w.alloc (.cells #[.nilIface] 26)).alloc (.cells #[.int .i64 0] 3)) 9 (.string s)).cell
    rw [World.size_alloc, World.size_alloc] at h
    exact h
  clear hW2
  refine wpIn_range_flat (gf := 74) (lb := #[.pointer (some ⟨w.heap.size + 1 + 1, 0, none⟩)]) rfl Tryz.allEnters hseq (fun _ => trivial) (fun _ _ => trivial) (fun _ _ _ _ _ _ _ _ => trivial) (Below.refl _ _) (fun _ => rfl)
    (fun pre Wx => (Boxed Wx w.heap.size 26 .nilIface ∧ Boxed Wx (w.heap.size + 1) 3 (.int .i64 (pre.length : Int))) ∧ Below w.heap.size w Wx ∧ pre.any (fun p => !nameOk p) = false)
    (fun c pre Wx => c = .ret ∧ Boxed Wx w.heap.size 26 (errV 8) ∧ Below w.heap.size w Wx ∧ pre.any (fun p => !nameOk p) = true)
    (OwnFrom.and (OwnFrom.and (Own.from (boxed_own _ _ (fun _ => _)) _) (Own.from (boxed_own _ _ (fun pre : List (List UInt8) => .int .i64 (pre.length : Int))) _)) (OwnFrom.and (ownFrom_below (Nat.le_refl _) (by omega)) (ownFrom_pure _ _)))
    (fun c => OwnFrom.and (ownFrom_pure _ _) (OwnFrom.and (Own.from (boxed_own _ _ (fun _ => _)) _) (OwnFrom.and (ownFrom_below (Nat.le_refl _) (by omega)) (ownFrom_pure _ _))))
    ⟨⟨hbe, hbn⟩, hb2, rfl⟩ ?a1 ?assign ?body ?done ?stop
  case assign =>
    intro l' x Wx K hK
    gi_wp2
    exact hK
  case body =>
    rintro l' pre x rest Wx hl hr hL ⟨⟨he, hn⟩, hb, hany⟩
    have hec := he.cell
    have hef := he.frozen
    have hnc := hn.cell
    have hnf := hn.frozen
    have hlen : pre.length + 1 ≤ s.size + 1 := by
      have := pcs_length s.data.toList
      rw [hL, ← size_eq] at this
      simp at this
      omega
    have hxl : (bs x).size < 4611686018427387904 := by
      have := pcs_mem_length s.data.toList x (by rw [hL]; simp)
      rw [← size_eq] at this
      simp
      omega
    have hname := name_any (bs x) Wx (Nat.le_of_lt (Nat.lt_of_lt_of_le hxl (by decide)))
    rw [bs_toList] at hname
    have Hb := Lib.hid hb
    have He := Lib.hid he
    have Hn := Lib.hid hn
    have Hany := Lib.hid hany
    have HL := Lib.hid hL
    clear hb he hn hany hL hseq hbe hbn hb2
    cases hx : nameOk x
    · have hv : errV (nameNo x) = .iface 65 (.int .i64 8) := by unfold nameNo; rw [hx]; rfl
      rw [hv] at hname
      have Hname := Lib.hid hname
      have Hx := Lib.hid hx
      clear hname hx hv
      gi_wp2_with (refine ⟨trivial, rfl, ?_⟩; gi_at_call 60; refine CallsIn.mono (callsIn_wide.2 Hname.out) ?_; rintro e w1 ⟨rfl, hb1⟩; have hec1 := (boxed_below He.out hb1).cell; have hef1 := (boxed_below He.out hb1).frozen; have Hb1 := Lib.hid hb1; clear hb1)
      exact ⟨keepsFrom_setCell (keepsFrom_below Hb1.out) _ _, rfl, (boxed_below He.out Hb1.out).set _, (Hb.out.trans (Hb1.out.mono Hb.out.size)).setCell (p := ⟨w.heap.size, 0, none⟩) (Nat.le_refl _) _, by rw [List.any_append, Hany.out]; simp [Hx.out]⟩
    · have hv : errV (nameNo x) = .nilIface := by unfold nameNo; rw [hx]; rfl
      rw [hv] at hname
      have Hname := Lib.hid hname
      have Hx := Lib.hid hx
      clear hname hx hv
      gi_wp2_with (refine ⟨trivial, rfl, ?_⟩; gi_at_call 60; refine CallsIn.mono (callsIn_wide.2 Hname.out) ?_; rintro e w1 ⟨rfl, hb1⟩; have hnc1 := (boxed_below Hn.out hb1).cell; have hnf1 := (boxed_below Hn.out hb1).frozen; have Hb1 := Lib.hid hb1; clear hb1)
      have Hn1 := boxed_below Hn.out Hb1.out
      refine ⟨keepsFrom_setCell (keepsFrom_below Hb1.out) _ _, trivial, ⟨(boxed_below He.out Hb1.out).other (by omega) _, ?_⟩, (Hb.out.trans (Hb1.out.mono Hb.out.size)).setCell (p := ⟨w.heap.size + 1, 0, none⟩) (by simp) _, by rw [List.any_append, Hany.out]; simp [Hx.out]⟩
      have := Hn1.set (.int .i64 ((pre.length : Int) + 1))
      rw [List.length_append, List.length_singleton]
      exact this
  case done =>
    rintro D Wd hD ⟨⟨he, hn⟩, hb, hany⟩ hK
    have hec := he.cell
    have hef := he.frozen
    have hnc := hn.cell
    have hnf := hn.frozen
    have hlen : (pcs s.data.toList).length ≤ s.size + 1 := by
      have := pcs_length s.data.toList
      rw [← size_eq] at this
      exact this
    have Hb := Lib.hid hb
    have He := Lib.hid he
    have Hn := Lib.hid hn
    have Hany := Lib.hid hany
    have HK := Lib.hid hK
    clear hb he hn hany hseq hbe hbn hb2 hK
    generalize hq : (pcs s.data.toList).length = q at *
    have Hq := Lib.hid hq
    clear hq
    by_cases hbig : 32 < q ∨ 255 < s.size
    · have g : errV (checkNo s.data.toList) = .iface 65 (.int .i64 9) := by
        unfold checkNo
        rw [if_neg H0.out, Hany.out, Hq.out, ← size_eq, if_pos hbig]
        rfl
      have G := Lib.hid g
      clear g
      have fin : ∀ tmps : Array Value, tmps[2]? = some (.pointer (some ⟨w.heap.size, 0, none⟩)) → LeavesInM Fence.wide 0 Tryz.prog Tryz.f37 tmps (fun e w' => e = .returned (errV (checkNo s.data.toList)) ∧ Below w.heap.size w w') [{ target := .collected D, args := #[] }] .returning
          (Wd.setCell ⟨w.heap.size, 0, none⟩ (.iface 65 (.int .i64 9))) := by
        intro tmps ht
        have hK1 := deferred_setCell HK.out rfl ⟨w.heap.size, 0, none⟩ (.iface 65 (.int .i64 9))
        have hb := (Boxed.putObj (He.out.set (.iface 65 (.int .i64 9))) (.deferred none) hK1 rfl).cell
        refine leave_mark (v := .iface 65 (.int .i64 9)) hK1 (by simp [results, Tryz.results37, go_sem, ht, hb]) ⟨by rw [G.out], below_putObj (Hb.out.setCell (p := ⟨w.heap.size, 0, none⟩) (Nat.le_refl _) _) _ (by omega)⟩
      have Fin := Lib.hid fin
      clear fin
      rcases hbig with hbig | hbig
      · gi_wp2
        exact Fin.out _ rfl
      · by_cases hq32 : 32 < q
        · gi_wp2
          exact Fin.out _ rfl
        · gi_wp2
          exact Fin.out _ rfl
    · have hq1 : q ≤ 32 := by omega
      have hq2 : s.size ≤ 255 := by omega
      clear hbig
      have hp := fun W => parent_any s W (by omega)
      have hlst := fun W => last_any s W (by omega)
      have hj : ∀ W, Calls Tryz.prog 62 #[.string (bs (parent s.data.toList)), .string (⟨#[46, 119, 104, 46]⟩ ++ bs (lastName s.data.toList))] W fun e w' => e = .returned (.string (bs (whiteout s.data.toList))) ∧ W = w' := by
        intro W
        have h := join_any (bs (parent s.data.toList)) (⟨#[46, 119, 104, 46]⟩ ++ bs (lastName s.data.toList)) W (by
          rw [append_bs, bs_size, bs_size]
          have h1 : (parent s.data.toList).length ≤ s.size := by rw [size_eq]; unfold parent; simp; omega
          have h2 : (lastName s.data.toList).length ≤ s.size := by rw [size_eq]; unfold lastName; simp
          simp
          omega)
        rw [append_bs, bs_toList, bs_toList, bs_toList] at h
        rw [append_bs, bs_toList]
        exact h
      have hsp := fun W => split_any (bs (whiteout s.data.toList)) W (by
        have := whiteout_length s.data.toList
        rw [← size_eq] at this
        simp
        omega)
      have hno := splitP_no (whiteout s.data.toList)
      have g : errV (checkNo s.data.toList) = errV (splitP (whiteout s.data.toList)).2.2 := by
        unfold checkNo
        rw [if_neg H0.out, Hany.out, Hq.out, ← size_eq, if_neg (show ¬ (32 < q ∨ 255 < s.size) by omega)]
        rfl
      rw [bs_toList] at hsp
      have hlastlen : (bs (lastName s.data.toList)).size ≤ 255 := by
        have : (lastName s.data.toList).length ≤ s.size := by rw [size_eq]; unfold lastName; simp
        simp
        omega
      generalize splitP (whiteout s.data.toList) = sp at *
      obtain ⟨s1, s2, e⟩ := sp
      generalize bs (whiteout s.data.toList) = wo at *
      generalize bs (parent s.data.toList) = pa at *
      generalize bs (lastName s.data.toList) = la at *
      generalize bs s1 = s1 at *
      generalize bs s2 = s2 at *
      have G := Lib.hid g
      have Hp := Lib.hid hp
      have Hlst := Lib.hid hlst
      have Hj := Lib.hid hj
      clear g hp hlst hj
      have fin : ∀ (tmps : Array Value) (Wx : World) (v : Value), tmps[2]? = some (.pointer (some ⟨w.heap.size, 0, none⟩)) → Same Wd Wx → v = errV e → LeavesInM Fence.wide 0 Tryz.prog Tryz.f37 tmps (fun e w' => e = .returned (errV (checkNo s.data.toList)) ∧ Below w.heap.size w w') [{ target := .collected D, args := #[] }] .returning
          (Wx.setCell ⟨w.heap.size, 0, none⟩ v) := by
        intro tmps Wx v ht hsm hv
        have hbx := hsm.below Wd.heap.size
        have hK1 := deferred_setCell (deferred_below HK.out hbx) rfl ⟨w.heap.size, 0, none⟩ v
        have hb := (Boxed.putObj ((boxed_below He.out hbx).set v) (.deferred none) hK1 rfl).cell
        refine leave_mark (v := v) hK1 (by simp [results, Tryz.results37, go_sem, ht, hb]) ⟨by rw [G.out, hv], below_putObj ((Hb.out.trans (hbx.mono Hb.out.size)).setCell (p := ⟨w.heap.size, 0, none⟩) (Nat.le_refl _) _) _ (by omega)⟩
      have Fin := Lib.hid fin
      clear fin
      have hal : ¬ 9223372036854775807 < 4 + la.size := by omega
      rcases hno with rfl | rfl
      · have hsp' : ∀ W, Calls Tryz.prog 61 #[.string wo] W fun e w' => e = .returned (.tuple #[.string s1, .string s2, .nilIface]) ∧ Same W w' := hsp
        have Hsp := Lib.hid hsp'
        clear hsp hsp'
        gi_wp2_with (first
          | (refine ⟨trivial, rfl, ?_⟩; gi_at_call 40; refine CallsIn.mono (callsIn_wide.2 (Hp.out _)) ?_; rintro e w1 ⟨rfl, rfl⟩)
          | (refine ⟨trivial, rfl, ?_⟩; gi_at_call 41; refine CallsIn.mono (callsIn_wide.2 (Hlst.out _)) ?_; rintro e w1 ⟨rfl, rfl⟩)
          | (refine ⟨trivial, rfl, ?_⟩; gi_at_call 62; refine CallsIn.mono (callsIn_wide.2 (Hj.out _)) ?_; rintro e w1 ⟨rfl, rfl⟩)
          | (refine ⟨trivial, rfl, ?_⟩; gi_at_call 61; refine CallsIn.mono (callsIn_wide.2 (Hsp.out _)) ?_; rintro e w1 ⟨rfl, hsm⟩; have hec1 := (boxed_below He.out (hsm.below _)).cell; have hef1 := (boxed_below He.out (hsm.below _)).frozen; have Hsm := Lib.hid hsm; clear hsm))
        exact Fin.out _ _ _ rfl Hsm.out rfl
      · have hsp' : ∀ W, Calls Tryz.prog 61 #[.string wo] W fun e w' => e = .returned (.tuple #[.string s1, .string s2, .iface 65 (.int .i64 9)]) ∧ Same W w' := hsp
        have Hsp := Lib.hid hsp'
        clear hsp hsp'
        gi_wp2_with (first
          | (refine ⟨trivial, rfl, ?_⟩; gi_at_call 40; refine CallsIn.mono (callsIn_wide.2 (Hp.out _)) ?_; rintro e w1 ⟨rfl, rfl⟩)
          | (refine ⟨trivial, rfl, ?_⟩; gi_at_call 41; refine CallsIn.mono (callsIn_wide.2 (Hlst.out _)) ?_; rintro e w1 ⟨rfl, rfl⟩)
          | (refine ⟨trivial, rfl, ?_⟩; gi_at_call 62; refine CallsIn.mono (callsIn_wide.2 (Hj.out _)) ?_; rintro e w1 ⟨rfl, rfl⟩)
          | (refine ⟨trivial, rfl, ?_⟩; gi_at_call 61; refine CallsIn.mono (callsIn_wide.2 (Hsp.out _)) ?_; rintro e w1 ⟨rfl, hsm⟩; have hec1 := (boxed_below He.out (hsm.below _)).cell; have hef1 := (boxed_below He.out (hsm.below _)).frozen; have Hsm := Lib.hid hsm; clear hsm))
        exact Fin.out _ _ _ rfl Hsm.out rfl
  case stop =>
    rintro D c pre x rest Wd hD hL ⟨rfl, he, hb, hany⟩ hK
    have Hb := Lib.hid hb
    have He := Lib.hid he
    have HK := Lib.hid hK
    have g : errV (checkNo s.data.toList) = errV 8 := by
      unfold checkNo
      rw [if_neg H0.out, hL]
      rw [show pre ++ x :: rest = (pre ++ [x]) ++ rest from by simp, List.any_append, hany]
      rfl
    have G := Lib.hid g
    clear hb he hK g hany hL
    gi_wp2
    have hb := (Boxed.putObj He.out (.deferred none) HK.out rfl).cell
    refine leave_mark (v := errV 8) HK.out (by simp [results, Tryz.results37, go_sem, hb]) ⟨by rw [G.out], below_putObj Hb.out _ (by omega)⟩
end Go.Proofs.YtfanfkogogijpaaGreatDoor
