/- What the statements on trees ask first: a tree is one, and can be changed. -/
import Derived.Test.YtdkodedocklmdaaGreatDoorUAt
import Derived.Test.YtdkodedocklmdaaGreatDoorULent
import Derived.Test.YtdkodedocklmdaaGreatDoorTTakeW
import Derived.Test.YtdkodedocklmdaaGreatDoorTListed
import Derived.Test.YtdkodedocklmdaaGreatDoorROf
import Derived.Lib.QuietBelow
set_option linter.unusedSimpArgs false
set_option linter.unusedVariables false
namespace Go.Proofs.YtdkodedocklmdaaGreatDoor
open Go.RowKit Go.Maps Go.Shelf Go.Sort
open Go.Lib hiding intOf size_eq
set_option maxRecDepth 100000 in
theorem dirE_any (p : ByteArray) (w : World) : Calls Tryz.prog 57 #[.string p] w fun r w' => r = .returned (.agg #[.string p, .int .i64 1, .int .i64 493, .string ⟨#[]⟩, .string ⟨#[]⟩]) ∧ Below w.heap.size w w' := by
  have hb0 := World.alloc_heap_new w (.cells #[.string ⟨#[]⟩, .int .i64 0, .int .i64 0, .string ⟨#[]⟩, .string ⟨#[]⟩] 38)
  have HB0 := Lib.hid hb0
  clear hb0
  go_enter Tryz.func57, Tryz.ntmps57
  go_wp2_with (first
    | (refine wpList_store_row rfl _ _ _ rfl w.heap.size #[.string p, .int .i64 1, .int .i64 493, .string ⟨#[]⟩, .string ⟨#[]⟩] rfl rfl 38 _ HB0.out (by kernel_rfl) rfl (by kernel_rfl) ?_))
  refine bodyPost_ret_by (v := .agg #[.string p, .int .i64 1, .int .i64 493, .string ⟨#[]⟩, .string ⟨#[]⟩]) ?_ rfl ⟨rfl, ?_⟩
  · exact results_cell_row rfl _ _ w.heap.size _ _ _ _ rfl (setRow_at HB0.out) Tryz.underlying38 rfl (by kernel_rfl)
  · have h := (Below.refl w.heap.size w).alloc (Nat.le_refl _) (.cells #[.string ⟨#[]⟩, .int .i64 0, .int .i64 0, .string ⟨#[]⟩, .string ⟨#[]⟩] 38)
    exact ⟨h.os, h.tape, h.output, by simp, fun j hj => (setRow_other _ w.heap.size j _ (by omega)).trans (h.block j hj)⟩
set_option maxRecDepth 100000 in
theorem fileE_any (p d : ByteArray) (w : World) : Calls Tryz.prog 58 #[.string p, .string d] w fun r w' => r = .returned (.agg #[.string p, .int .i64 2, .int .i64 420, .string d, .string ⟨#[]⟩]) ∧ Below w.heap.size w w' := by
  have hb0 := World.alloc_heap_new w (.cells #[.string ⟨#[]⟩, .int .i64 0, .int .i64 0, .string ⟨#[]⟩, .string ⟨#[]⟩] 38)
  have HB0 := Lib.hid hb0
  clear hb0
  go_enter Tryz.func58, Tryz.ntmps58
  go_wp2_with (first
    | (refine wpList_store_row rfl _ _ _ rfl w.heap.size #[.string p, .int .i64 2, .int .i64 420, .string d, .string ⟨#[]⟩] rfl rfl 38 _ HB0.out (by kernel_rfl) rfl (by kernel_rfl) ?_))
  refine bodyPost_ret_by (v := .agg #[.string p, .int .i64 2, .int .i64 420, .string d, .string ⟨#[]⟩]) ?_ rfl ⟨rfl, ?_⟩
  · exact results_cell_row rfl _ _ w.heap.size _ _ _ _ rfl (setRow_at HB0.out) Tryz.underlying38 rfl (by kernel_rfl)
  · have h := (Below.refl w.heap.size w).alloc (Nat.le_refl _) (.cells #[.string ⟨#[]⟩, .int .i64 0, .int .i64 0, .string ⟨#[]⟩, .string ⟨#[]⟩] 38)
    exact ⟨h.os, h.tape, h.output, by simp, fun j hj => (setRow_other _ w.heap.size j _ (by omega)).trans (h.block j hj)⟩
/-- tree.Check -/
def errT (L : List Ent) : Value := if (checkL L).1 = 0 then .nilIface else fltV ((checkL L).1 : Int) 0 ((checkL L).2 : Int)
set_option maxRecDepth 100000 in
theorem tcheck_any (v : Value) (L : List Ent) (w : World) (h : EntsAt w v L) (hb : Small L) : Calls Tryz.prog 14 #[v] w fun r w' => r = .returned (errT L) ∧ Below w.heap.size w w' := by
  have H := Lib.hid (build_any v L w h hb)
  obtain ⟨o, cap, rfl, _, _, _⟩ := h
  unfold errT
  by_cases hc : (checkL L).1 = 0
  · rw [if_pos hc]
    go_enter Tryz.func14, Tryz.ntmps14
    go_wp2_with (go_at_call 55; refine H.out.mono ?_; rintro r w1 ⟨h1, h2, h3⟩; obtain ⟨T, rt, rm, nd, rfl, ht, he⟩ := h1 hc
                 have H3 := Lib.hid h3
                 clear h1 h2 h3 ht he)
    go_ret
    exact ⟨rfl, H3.out⟩
  · rw [if_neg hc]
    unfold fltV
    go_enter Tryz.func14, Tryz.ntmps14
    go_wp2_with (go_at_call 55; refine H.out.mono ?_; rintro r w1 ⟨h1, h2, h3⟩; obtain rfl := h2 hc
                 have H3 := Lib.hid h3
                 clear h1 h2 h3)
    go_ret
    exact ⟨rfl, H3.out⟩
theorem quiet_load_guard {P : Program} {ops : Array Oper} {C : World → Prop} {rest : List Oper} {o : Oper} {a : Act} {Q : Act → Prop} (hw : Region.wanted o (yielded ops a.tmps) = true) (ty : TypeId) (x : Operand) (ho : o.op = .load ty x)
    (p : Addr) (hx : a.eval x = .pointer (some p)) (cs : List Value) (d : TypeDesc) (hc : ∀ w, C w → ∀ j v, cs[j]? = some v → w.cell? (p.add j) = some v)
    (hu : P.underlying ty = some d) (hd : (match d with | .struct _ | .array _ _ => true | _ => false) = true) (hi : (P.info? ty).map (·.size) = some cs.length)
    (h : wpQuiet P ops C Q rest (a.put o.dst (.agg cs.toArray))) : wpQuiet P ops C Q (o :: rest) a := by
  refine wpQuiet_step (fun K hK => ?_)
  rw [if_pos hw]
  refine ⟨.agg cs.toArray, fun w hC => ?_, hK _ h⟩
  unfold Oper.quietAt execOp
  simp only [ho, hx, Instr.loadAt, Instr.sureAddr, Sem.run_bind, Sem.run_pure, Result.andThen_ok, run_loadVar_at w p ty cs d (hc w hC) hu hd hi]
  exact ⟨rfl, rfl⟩
/- works -/
def vE1 : Ent := ⟨⟨#[97]⟩, 1, 493, ⟨#[]⟩, ⟨#[]⟩⟩
def vE2 : Ent := ⟨⟨#[97, 47, 98]⟩, 2, 420, ⟨#[120]⟩, ⟨#[]⟩⟩
def vE3 : Ent := ⟨⟨#[99]⟩, 2, 420, ⟨#[121, 122]⟩, ⟨#[]⟩⟩
def vE4 : Ent := ⟨⟨#[98, 47, 99]⟩, 2, 420, ⟨#[120]⟩, ⟨#[]⟩⟩
theorem vCheck : checkL [vE1, vE2] = (0, 0) := by kernel_rfl
theorem vCheck2 : checkL [vE1, vE4] = (10, 1) := by kernel_rfl
theorem vPut : putNo [vE1, vE2] vE3 = 0 := by kernel_rfl
theorem vLaid : laidL [vE1, vE2] vE3 = [vE1, vE2, vE3] := by kernel_rfl
theorem vLook : lookE [vE1, vE2, vE3] [99] = some vE3 := by kernel_rfl
theorem vTake : takeNo [vE1, vE2, vE3] [97] = 0 := by kernel_rfl
theorem vGone : withoutL [vE1, vE2, vE3] [97] = [vE3] := by kernel_rfl
theorem two_ents (w : World) (a b : Ent) : EntsAt (w.alloc (.cells #[.string a.p, .int .i64 a.k, .int .i64 a.m, .string a.d, .string a.l, .string b.p, .int .i64 b.k, .int .i64 b.m, .string b.d, .string b.l] 38)) (.slice (some ⟨w.heap.size, 0, none⟩) 2 2) [a, b] :=
  ents_of_row (base := 0) ⟨rfl, .inr ⟨w.heap.size, 2, _, rfl, Nat.zero_le _, World.alloc_heap_new w _, Nat.le_refl _, by unfold maxLen; omega, rfl, rfl⟩⟩
theorem small_v {a b : Ent} (h : (a.p.size < 1152921504606846976 ∧ a.d.size < 1152921504606846976 ∧ a.l.size < 1152921504606846976) ∧ (b.p.size < 1152921504606846976 ∧ b.d.size < 1152921504606846976 ∧ b.l.size < 1152921504606846976)) : Small [a, b] := fun e he => by
  rcases List.mem_cons.1 he with rfl | he
  · exact h.1
  · rw [List.mem_singleton.1 he]; exact h.2
set_option maxRecDepth 100000 in
set_option maxHeartbeats 8000000 in
theorem works07_any (w : World) (hg : Handle w) : Calls Tryz.prog 16 #[] w fun e w' => e = .returned (.bool true) ∧ Below w.heap.size w w' := by
  have D := fun W => dirE_any ⟨#[97]⟩ W
  have F1 := fun W => fileE_any ⟨#[97, 47, 98]⟩ ⟨#[120]⟩ W
  have F2 := fun W => fileE_any ⟨#[98, 47, 99]⟩ ⟨#[120]⟩ W
  have F3 := fun W => fileE_any ⟨#[99]⟩ ⟨#[121, 122]⟩ W
  have hof := fun (W : World) => tof_any _ [vE1, vE2] _ (two_ents W vE1 vE2) (small_v (by decide))
  have hch := fun (W : World) => tcheck_any _ [vE1, vE4] _ (two_ents W vE1 vE4) (small_v (by decide))
  rw [show errT [vE1, vE4] = fltV 10 0 1 from by unfold errT; rw [vCheck2]; rfl] at hch
  have hat := fun (W : World) (hW : Handle W) => at_fault 10 0 1 W (by decide) (by decide) hW
  have HD := Lib.hid D
  have HD2 := Lib.hid D
  have HF1 := Lib.hid F1
  have HF2 := Lib.hid F2
  have HF3 := Lib.hid F3
  have HF4 := Lib.hid F3
  have Hof := Lib.hid hof
  have Hch := Lib.hid hch
  have Hat := Lib.hid hat
  have Hg := Lib.hid hg
  clear D F1 F2 F3 hof hch hat hg
  go_enter Tryz.func16, Tryz.ntmps16
  go_upto_region 4 with (first
    | (go_at_call 57; refine (HD.out w).mono ?_; rintro r w1 ⟨rfl, hb1⟩; have B1 := Lib.hid hb1; clear hb1 HD)
    | (go_at_call 58; refine (HF1.out w1).mono ?_; rintro r w2 ⟨rfl, hb2⟩; have B2 := Lib.hid (B1.out.trans (hb2.mono B1.out.size)); clear hb2 HF1)
    | (go_at_call 27; refine (Hof.out w2).mono ?_; rintro r w3 ⟨h1, _, hb⟩; obtain ⟨T, rt, rm, nd, rfl, ht, he⟩ := h1 (by rw [vCheck])
       have hb3 : Below w.heap.size w w3 := (B2.out.alloc B2.out.size _).trans (hb.mono (by have := B2.out.size; simp; omega))
       have HT := Lib.hid (ht.lower (by have := B2.out.size; simp; omega) : TreeAt w3 T rt rm w.heap.size nd)
       have He := Lib.hid he
       have B3 := Lib.hid hb3
       clear h1 hb ht he hb3 Hof)
    | (go_at_call 57; refine (HD2.out w3).mono ?_; rintro r w4 ⟨rfl, hb1⟩
       have HT4 := Lib.hid (HT.out.below hb1 (Nat.le_refl _))
       have B4 := Lib.hid (B3.out.trans (hb1.mono B3.out.size)); clear hb1 HD2)
    | (go_at_call 58; refine (HF2.out w4).mono ?_; rintro r w5 ⟨rfl, hb1⟩
       have HT5 := Lib.hid (HT4.out.below hb1 (Nat.le_refl _))
       have B5 := Lib.hid (B4.out.trans (hb1.mono B4.out.size)); clear hb1 HF2)
    | (go_at_call 14; refine (Hch.out w5).mono ?_; rintro r w6 ⟨rfl, hb1⟩
       have HT6 := Lib.hid ((HT5.out.alloc _).below hb1 (Nat.le_refl _))
       have B6 := Lib.hid ((B5.out.alloc B5.out.size _).trans (hb1.mono (by have := B5.out.size; simp; omega))); clear hb1 Hch)
    | (go_at_call 13; refine (Hat.out w6 (Hg.out.below B6.out (Nat.le_refl _))).mono ?_; rintro r w7 ⟨rfl, hb1⟩
       have HT7 := Lib.hid (HT6.out.below hb1 (Nat.le_refl _))
       have B7 := Lib.hid (B6.out.trans (hb1.mono B6.out.size)); clear hb1 Hat))
  have hput := fun (W : World) (hW : TreeAt W T rt rm w.heap.size nd) => (put_any vE3 W hW (by decide) (by decide) (by decide)).mono (R' := fun r W' => r = .returned .nilIface ∧ ∃ nd', ents nd' = [vE1, vE2, vE3] ∧ TreeAt W' T rt rm w.heap.size nd' ∧ Below w.heap.size W W') (fun r W' ⟨h1, nd', h2, h3, h4⟩ => by
    unfold putL at h2
    rw [He.out, vPut] at h1
    rw [He.out, vPut, if_pos rfl, vLaid] at h2
    exact ⟨h1, nd', h2, h3, h4.below hW⟩)
  have hget := fun (nd' : List Nd) (hn : ents nd' = [vE1, vE2, vE3]) (W : World) (hW : TreeAt W T rt rm w.heap.size nd') => (get_any ⟨#[99]⟩ W hW (by decide)).mono (R' := fun r W' => r = .returned (.tuple #[.agg #[.string ⟨#[99]⟩, .int .i64 2, .int .i64 420, .string ⟨#[121, 122]⟩, .string ⟨#[]⟩], .bool true]) ∧ Below W.heap.size W W') (fun r W' ⟨h1, h2⟩ => by
    rw [hn, show (⟨#[99]⟩ : ByteArray).data.toList = [99] from rfl, vLook] at h1
    exact ⟨h1, h2⟩)
  have hsize := fun (nd' : List Nd) (hn : ents nd' = [vE1, vE2, vE3]) (W : World) (hW : TreeAt W T rt rm w.heap.size nd') => (size_any W hW).mono (R' := fun r W' => r = .returned (.tuple #[.int .i64 3, .int .i64 3]) ∧ Same W W') (fun r W' ⟨h1, h2⟩ => by
    rw [hn] at h1
    exact ⟨h1, h2⟩)
  have htake := fun (nd' : List Nd) (hn : ents nd' = [vE1, vE2, vE3]) (W : World) (hW : TreeAt W T rt rm w.heap.size nd') => (take_any ⟨#[97]⟩ W hW (by decide)).mono (R' := fun r W' => r = .returned (.tuple #[.int .i64 2, .nilIface]) ∧ ∃ nd'', ents nd'' = [vE3] ∧ TreeAt W' T rt rm w.heap.size nd'' ∧ Below w.heap.size W W' ∧ ∀ k, k < W.heap.size → ¬ IsBlk T rt rm nd' k → W'.heap[k]? = W.heap[k]?) (fun r W' ⟨h1, nd'', h2, h3, h4⟩ => by
    unfold takeN at h1
    unfold takeL at h2
    rw [hn, show (⟨#[97]⟩ : ByteArray).data.toList = [97] from rfl, vTake, if_pos rfl, vGone] at h1
    rw [hn, show (⟨#[97]⟩ : ByteArray).data.toList = [97] from rfl, vTake, if_pos rfl, vGone] at h2
    exact ⟨h1, nd'', h2, h3, h4.below hW, h4.keep⟩)
  have hlist := fun (nd'' : List Nd) (hn : ents nd'' = [vE3]) (W : World) (hW : TreeAt W T rt rm w.heap.size nd'') => (list_any W hW).mono (R' := fun r W' => ∃ (a : Addr) (cap : Nat), r = .returned (.slice (some a) 1 cap) ∧ 1 ≤ cap ∧ cap ≤ maxLen ∧ (∀ j x, (entC vE3)[j]? = some x → W'.cell? (a.add j) = some x) ∧ a.block < W'.heap.size ∧ Below W.heap.size W W') (fun r W' ⟨v, h1, h2, h3⟩ => by
    rw [hn] at h2
    obtain ⟨o, cap, rfl, q1, q2, q3⟩ := ents_of_row h2
    obtain ⟨a, rfl, q4, q5⟩ := q3 0 vE3 rfl
    rw [Nat.zero_mul, add_zero'] at q5
    exact ⟨a, cap, h1, q1, q2, q5, q4, h3⟩)
  have Hput := Lib.hid hput
  have Hget := Lib.hid hget
  have Hsize := Lib.hid hsize
  have Htake := Lib.hid htake
  have Hlist := Lib.hid hlist
  have HO3 := Lib.hid (entC_one vE3)
  clear hput hget hsize htake hlist HT HT4 HT5 HT6 B1 B2 B3 B4 B5 B6 He
  go_upto_region 9 with (first
    | (go_at_call 58; refine (HF3.out w7).mono ?_; rintro r w8 ⟨rfl, hb1⟩
       have HT8 := Lib.hid (HT7.out.below hb1 (Nat.le_refl _))
       have B8 := Lib.hid (B7.out.trans (hb1.mono B7.out.size)); clear hb1 HF3 HT7 B7)
    | (go_at_call 18; refine (Hput.out w8 HT8.out).mono ?_; rintro r w9 ⟨rfl, nd1, hn1, ht1, hb1⟩
       have HN1 := Lib.hid hn1
       have HT9 := Lib.hid ht1
       have B9 := Lib.hid (B8.out.trans hb1); clear hb1 hn1 ht1 HT8 B8 Hput)
    | (go_at_call 24; refine (Hget.out nd1 HN1.out w9 HT9.out).mono ?_; rintro r wa ⟨rfl, hb1⟩
       have HTa := Lib.hid (HT9.out.below hb1 (Nat.le_refl _))
       have Ba := Lib.hid (B9.out.trans (hb1.mono B9.out.size))
       have HZ := Lib.hid (World.alloc_heap_new wa (.cells #[.string ⟨#[]⟩, .int .i64 0, .int .i64 0, .string ⟨#[]⟩, .string ⟨#[]⟩] 38))
       have hbz := (show Below wa.heap.size wa ((wa.alloc (.cells #[.string ⟨#[]⟩, .int .i64 0, .int .i64 0, .string ⟨#[]⟩, .string ⟨#[]⟩] 38)).setRow wa.heap.size (entC vE3).toArray) from (by
         have h := (Below.refl wa.heap.size wa).alloc (Nat.le_refl _) (.cells #[.string ⟨#[]⟩, .int .i64 0, .int .i64 0, .string ⟨#[]⟩, .string ⟨#[]⟩] 38)
         exact ⟨h.os, h.tape, h.output, by simp, fun j hj => (setRow_other _ wa.heap.size j _ (by omega)).trans (h.block j hj)⟩))
       obtain ⟨wb, hwb⟩ : ∃ x, x = ((wa.alloc (.cells #[.string ⟨#[]⟩, .int .i64 0, .int .i64 0, .string ⟨#[]⟩, .string ⟨#[]⟩] 38)).setRow wa.heap.size (entC vE3).toArray) := ⟨_, rfl⟩
       have HWB := Lib.hid hwb
       have HX := Lib.hid (show wb.cell? ⟨wa.heap.size, 3, none⟩ = some (.string ⟨#[121, 122]⟩) ∧ wa.heap.size < wb.heap.size from (by
         have h2 := setRow_at (cs := (entC vE3).toArray) HZ.out
         rw [← hwb] at h2
         exact ⟨(by unfold World.cell?; rw [h2]; rfl), heap_lt h2⟩))
       rw [← hwb] at hbz
       have HTb := Lib.hid (HTa.out.below hbz (Nat.le_refl _))
       have Bb := Lib.hid (Ba.out.trans (hbz.mono Ba.out.size))
       have HNB := Lib.hid (show ¬ IsBlk T rt rm nd1 wa.heap.size from fun h => absurd (HTa.out.lt h) (Nat.lt_irrefl _))
       clear hb1 hbz hwb HT9 B9 Hget HTa Ba)
    | (refine wpList_store_row rfl _ _ _ rfl wa.heap.size (entC vE3).toArray rfl rfl 38 _ HZ.out (by kernel_rfl) rfl HO3.out ?_; rw [← HWB.out])
    | (go_at_call 21; refine (Hsize.out nd1 HN1.out wb HTb.out).mono ?_; rintro r wc ⟨rfl, hs⟩
       have HTc := Lib.hid (HTb.out.same' hs)
       have Bc := Lib.hid (show Below w.heap.size w wc from (by obtain ⟨q, rfl⟩ := hs; exact below_drewN Bb.out q))
       have HXc := Lib.hid (show wc.cell? ⟨wa.heap.size, 3, none⟩ = some (.string ⟨#[121, 122]⟩) ∧ wa.heap.size < wc.heap.size from (by obtain ⟨q, rfl⟩ := hs; exact HX.out))
       clear hs Hsize HTb Bb)
    | (go_at_call 19; refine (Htake.out nd1 HN1.out wc HTc.out).mono ?_; rintro r wd ⟨rfl, nd2, hn2, ht2, hb2, hkp⟩
       have HXd := Lib.hid (show wd.cell? ⟨wa.heap.size, 3, none⟩ = some (.string ⟨#[121, 122]⟩) ∧ wa.heap.size < wd.heap.size from ⟨(by have h := HXc.out.1; unfold World.cell? at h ⊢; rw [hkp _ HXc.out.2 HNB.out]; exact h), Nat.lt_of_lt_of_le HXc.out.2 hb2.size⟩)
       clear hkp
       have HN2 := Lib.hid hn2
       have HTd := Lib.hid ht2
       have Bd := Lib.hid (Bc.out.trans hb2)
       clear hb2 hn2 ht2 Htake HTc Bc)
    | (go_at_call 20; refine (Hlist.out nd2 HN2.out wd HTd.out).mono ?_; rintro r we ⟨al, cal, rfl, k1, k2, k3, k4, hb2⟩
       have K3 := Lib.hid k3
       have HXe := Lib.hid (show we.cell? ⟨wa.heap.size, 3, none⟩ = some (.string ⟨#[121, 122]⟩) from (hb2.cell (p := ⟨wa.heap.size, 3, none⟩) HXd.out.2).trans HXd.out.1)
       have Be := Lib.hid (Bd.out.trans (hb2.mono Bd.out.size))
       clear hb2 k3 Hlist HTd Bd))
  have x1 : ∀ d os, (grow (redrawn we d) os).cell? ⟨wa.heap.size, 3, none⟩ = some (.string ⟨#[121, 122]⟩) := fun d os => cell_regrown HXe.out d os
  have Kd := Lib.hid (show ∀ W, (∃ p : Regrown, W = grow (redrawn we p.d) p.os) → ∀ j x, (entC vE3)[j]? = some x → W.cell? (al.add j) = some x from fun W ⟨q, hq⟩ j x hj => by rw [hq]; exact cell_regrown (K3.out j x hj) q.d q.os)
  have cF := fun d os => Calls.regrown_of (HF4.out (grow (redrawn we d) os))
  refine wp_region_quiet_below (by kernel_rfl) (by kernel_rfl) ?_
  iterate 34 (quiet_step (exact cF _ _))
  refine quiet_load_guard (by rfl) _ _ rfl al rfl [.string ⟨#[99]⟩, .int .i64 2, .int .i64 420, .string ⟨#[121, 122]⟩, .string ⟨#[]⟩] _ Kd.out Tryz.underlying38 rfl (by kernel_rfl) ?_
  repeat (quiet_step (exact cF _ _))
  refine wpQuiet_nil ?_
  intro wf hwf
  obtain ⟨⟨dq, oq⟩, hwf2⟩ := hwf
  subst hwf2
  have Bf := Lib.hid (Be.out.trans ((below_regrown we dq oq).mono Be.out.size))
  go_wp2_with fail
  go_ret
  exact ⟨rfl, Bf.out⟩
end Go.Proofs.YtdkodedocklmdaaGreatDoor
