/- The law DeltaKnown: crowded. -/
import Derived.Test.YtipfccfjniglbaaGreatDoorKBig
set_option linter.unusedSimpArgs false
set_option linter.unusedVariables false
namespace Go.Proofs.YtipfccfjniglbaaGreatDoor
open Go.RowKit Go.Maps Go.Shelf
open Go.Lib hiding intOf size_eq
theorem crowd_small (h : UInt8) (n : Nat) : Small (crowdE h n) := fun e he => by
  obtain ⟨i, _, rfl⟩ := crowd_mem he
  exact ⟨by show 5 < _; decide, by show 0 < _; decide, by show 0 < _; decide⟩
theorem big_small {L : List Ent} (h : ∀ e ∈ L, e.p.size ≤ 5 ∧ e.d.size ≤ 1048576 ∧ e.l.size = 0) : Small L := fun e he => by
  obtain ⟨a, b, c⟩ := h e he
  exact ⟨by omega, by omega, by omega⟩
theorem bigE_small {s : ByteArray} (hs : s.size ≤ 1048576) (i : Nat) : (bigE s i).p.size ≤ 5 ∧ (bigE s i).d.size ≤ 1048576 ∧ (bigE s i).l.size = 0 := ⟨by show 5 ≤ 5; decide, hs, rfl⟩
theorem bigL_small {s : ByteArray} (hs : s.size = 1048576) : Small (bigL s 16) := big_small fun e he => by
  obtain ⟨i, _, rfl⟩ := List.mem_map.1 he
  exact bigE_small (by omega) i
theorem bigX_small {s t : ByteArray} (hs : s.size = 1048576) (ht : t.size = 1048575) : Small (bigX s t) := big_small fun e he => by
  rcases List.mem_cons.1 he with rfl | he
  · exact bigE_small (by omega) 0
  rcases List.mem_append.1 he with he | he
  · obtain ⟨i, _, rfl⟩ := List.mem_map.1 he
    exact bigE_small (by omega) (i + 1)
  · rw [List.mem_singleton.1 he]
    exact ⟨by decide, by decide, by decide⟩
theorem lay_small {s : ByteArray} (hs : s.size = 1048576) : (layOf (bigE s 0)).p.size < 1152921504606846976 ∧ (layOf (bigE s 0)).e.p.size < 1152921504606846976 ∧ (layOf (bigE s 0)).e.d.size < 1152921504606846976 ∧ (layOf (bigE s 0)).e.l.size < 1152921504606846976 := by
  have := bigE_small (s := s) (by omega) 0
  obtain ⟨a, b, c⟩ := this
  exact ⟨by show (bigE s 0).p.size < _; omega, by show (bigE s 0).p.size < _; omega, by show (bigE s 0).d.size < _; omega, by show (bigE s 0).l.size < _; omega⟩
set_option maxRecDepth 100000 in
set_option maxHeartbeats 8000000 in
theorem crowded_any (w : World) (hg : Handle w) : Calls Tryz.prog 38 #[] w fun r w' => r = .returned (.bool true) ∧ Below w.heap.size w w' := by
  obtain ⟨i0, hi, hz0, hz1, hz2⟩ := info_parts Tryz.infoEntry
  have Hi := Lib.hid hi
  have Hz0 := Lib.hid hz0
  have Hz1 := Lib.hid hz1
  have Hz2 := Lib.hid hz2
  clear hi hz0 hz1 hz2
  obtain ⟨m, hm⟩ : ∃ m : Nat, m = 1048576 := ⟨_, rfl⟩
  obtain ⟨s, zs, hs, hmk, hcv⟩ := zero_text m (by omega)
  rw [show (m : Int) = 1048576 by omega] at hmk
  rw [hm] at hs
  have HMK := Lib.hid hmk
  have HCV := Lib.hid hcv
  have HS := Lib.hid hs
  have HM := Lib.hid hm
  clear hmk hcv hs hm
  obtain ⟨LA, hLA, hYes⟩ := crowd_yes
  have hC1 : ∀ W, Calls Tryz.prog 60 #[.int .u8 102, .int .i64 4096] W fun r w' => ∃ v, r = .returned v ∧ RowE w' W.heap.size v (crowdE 102 4096) ∧ Below W.heap.size W w' := fun W => crowd_any 102 4096 (Nat.le_refl _) W
  have hC2 : ∀ W, Calls Tryz.prog 60 #[.int .u8 97, .int .i64 4096] W fun r w' => ∃ v, r = .returned v ∧ RowE w' W.heap.size v (crowdE 97 4096) ∧ Below W.heap.size W w' := fun W => crowd_any 97 4096 (Nat.le_refl _) W
  have hNo := crowd_no
  have hDl := crowds_len
  have hAll := crowds_yes
  have sF := crowd_small 102 4096
  have sM := crowd_small 97 4096
  have cF : (checkL (crowdE 102 4096)).1 = 0 := by rw [good_f.check]
  have cM : (checkL (crowdE 97 4096)).1 = 0 := by rw [good_a.check]
  have lF := crowdE_len 102 4096
  have lM := crowdE_len 97 4096
  have sD := chg_small sF sM
  obtain ⟨D, hD⟩ : ∃ D, D = chgL (crowdE 102 4096) (crowdE 97 4096) := ⟨_, rfl⟩
  rw [← hD] at hDl hAll sD
  obtain ⟨F, hF⟩ : ∃ F, F = crowdE 102 4096 := ⟨_, rfl⟩
  obtain ⟨M, hM⟩ : ∃ M, M = crowdE 97 4096 := ⟨_, rfl⟩
  rw [← hF, ← hM] at hD
  rw [← hF] at hC1 hYes hNo hAll sF cF lF
  rw [← hM] at hC2 hAll sM cM lM
  obtain ⟨k4, hk4⟩ : ∃ k : Nat, k = 4096 := ⟨_, rfl⟩
  rw [← hk4] at lF lM hLA
  have FD := Lib.hid (fun W => fileD ⟨#[97]⟩ ⟨#[]⟩ W)
  have LD := Lib.hid (fun W => laidD eA W)
  have GD := Lib.hid (fun W => goneD p7 W)
  have A1 := Lib.hid (fun (v : Value) (u : Value) W (h1 : EntsAt W v F) (h2 : ChgsAt W u [layOf eA, ⟨p7, true, entZ⟩]) (h3 : Handle W) => apply_ok h1 h2 sF (smallC_of (by decide)) (by omega) (by decide) h3 hYes)
  have A2 := Lib.hid (fun (v : Value) (u : Value) W (h1 : EntsAt W v F) (h2 : ChgsAt W u [layOf eA]) (h3 : Handle W) => apply_no h1 h2 sF (smallC_of (by decide)) (by omega) (by decide) h3 hNo)
  have A3 := Lib.hid (fun (v : Value) (u : Value) W (h1 : EntsAt W v F) (h2 : EntsAt W u M) (h3 : Handle W) => diff_ok h1 h2 sF sM h3 cF cM hD.symm)
  have A4 := Lib.hid (fun (v : Value) (u : Value) W (h1 : EntsAt W v F) (h2 : ChgsAt W u D) (h3 : Handle W) => apply_ok h1 h2 sF sD (by omega) (by omega) h3 hAll)
  have A5 := Lib.hid (fun (W : World) (h3 : Handle W) => at_fault 5 ((1 : Nat) : Int) ((1 : Nat) : Int) W (by decide) (by decide) h3)
  have A6 := Lib.hid (fun (v : Value) (u : Value) W (h1 : EntsAt W v M) (h2 : EntsAt W u M) => (same_ents v u M M W h1 h2 (by omega) (by omega)).mono (R' := fun e w' => e = .returned (.bool true) ∧ Below W.heap.size W w') (fun e w' ⟨h1, q, h2, h3⟩ => ⟨by rw [h2, h3.2 rfl], h1⟩))
  unfold fltV at A2 A5
  have HG := Lib.hid (fun W (hb : Below w.heap.size w W) => hg.below hb (Nat.le_refl _))
  have C1 := Lib.hid hC1
  have C2 := Lib.hid hC2
  have HLA := Lib.hid (show (LA.length : Int) = 4096 by omega)
  have HDl := Lib.hid (show (D.length : Int) = 8192 by omega)
  clear hC1 hC2 hYes hNo hAll sF sM sD cF cM lF lM hD hF hM hk4 hLA hDl hg
  go_enter Tryz.func38, Tryz.ntmps38
  go_wp2_with fail
  refine (C1.out _).mono ?_
  rintro r w1 ⟨v1, rfl, hr, hb⟩
  have E1 := Lib.hid hr.ents
  have B1 := Lib.hid hb
  clear hb hr C1
  go_wp2_with fail
  refine (FD.out _).mono ?_
  rintro r w2 ⟨rfl, hb⟩
  have E2 := Lib.hid (E1.out.below hb (Nat.le_refl _))
  have B2 := Lib.hid (B1.out.trans (hb.mono B1.out.size))
  clear hb E1 B1
  go_wp2_with fail
  refine (LD.out _).mono ?_
  rintro r w3 ⟨rfl, hb⟩
  have E3 := Lib.hid (E2.out.below hb (Nat.le_refl _))
  have B3 := Lib.hid (B2.out.trans (hb.mono B2.out.size))
  clear hb E2 B2
  go_wp2_with fail
  refine (GD.out _).mono ?_
  rintro r w4 ⟨rfl, hb⟩
  have E4 := Lib.hid (E3.out.below hb (Nat.le_refl _))
  have B4 := Lib.hid (B3.out.trans (hb.mono B3.out.size))
  clear hb E3 B3
  go_wp2_with fail
  refine (A1.out _ _ _ (E4.out.new _) (chgs_block 2 (World.alloc_heap_new w4 _) rfl rfl (by decide)) (HG.out _ (B4.out.alloc B4.out.size _))).mono ?_
  rintro r w5 ⟨v2, rfl, hr, hb⟩
  have E5 := Lib.hid ((E4.out.new _).below hb (Nat.le_refl _))
  have B5 := Lib.hid ((B4.out.alloc B4.out.size _).trans (hb.mono (by have := B4.out.size; simp; omega)))
  obtain ⟨o2, c2, rfl, _, _, _⟩ := hr.ents
  clear hb E4 B4 hr A1
  go_wp2_with fail
  refine (FD.out _).mono ?_
  rintro r w6 ⟨rfl, hb⟩
  have E6 := Lib.hid (E5.out.below hb (Nat.le_refl _))
  have B6 := Lib.hid (B5.out.trans (hb.mono B5.out.size))
  clear hb E5 B5
  go_wp2_with fail
  refine (LD.out _).mono ?_
  rintro r w7 ⟨rfl, hb⟩
  have E7 := Lib.hid (E6.out.below hb (Nat.le_refl _))
  have B7 := Lib.hid (B6.out.trans (hb.mono B6.out.size))
  clear hb E6 B6
  go_wp2_with fail
  refine (A2.out _ _ _ (E7.out.new _) (chgs_block 1 (World.alloc_heap_new w7 _) rfl rfl (by decide)) (HG.out _ (B7.out.alloc B7.out.size _))).mono ?_
  rintro r w8 ⟨rfl, hb⟩
  have E8 := Lib.hid ((E7.out.new _).below hb (Nat.le_refl _))
  have B8 := Lib.hid ((B7.out.alloc B7.out.size _).trans (hb.mono (by have := B7.out.size; simp; omega)))
  clear hb E7 B7 A2
  go_wp2_with fail
  refine (C2.out _).mono ?_
  rintro r w9 ⟨v6, rfl, hr, hb⟩
  have M9 := Lib.hid hr.ents
  have E9 := Lib.hid (E8.out.below hb (Nat.le_refl _))
  have B9 := Lib.hid (B8.out.trans (hb.mono B8.out.size))
  clear hb hr C2 E8 B8
  go_wp2_with fail
  refine (A3.out _ _ _ E9.out M9.out (HG.out _ B9.out)).mono ?_
  rintro r w10 ⟨v7, rfl, hr, hb⟩
  have E10 := Lib.hid (E9.out.below hb (Nat.le_refl _))
  have M10 := Lib.hid (M9.out.below hb (Nat.le_refl _))
  have B10 := Lib.hid (B9.out.trans (hb.mono B9.out.size))
  have D10 := Lib.hid (RowE.chgs hr)
  obtain ⟨o7, c7, rfl, _, _, _⟩ := RowE.chgs hr
  clear hb hr A3 E9 B9 M9
  go_wp2_with fail
  refine (A4.out _ _ _ E10.out D10.out (HG.out _ B10.out)).mono ?_
  rintro r w11 ⟨v9, rfl, hr, hb⟩
  have M11 := Lib.hid (M10.out.below hb (Nat.le_refl _))
  have N11 := Lib.hid hr.ents
  have B11 := Lib.hid (B10.out.trans (hb.mono B10.out.size))
  clear hb hr A4 E10 B10 M10 D10
  have hn1 := HLA.out
  have hn2 := HDl.out
  go_wp2_with fail
  refine (A5.out w11 (HG.out _ B11.out)).mono ?_
  rintro r w12 ⟨rfl, hb⟩
  have M12 := Lib.hid (M11.out.below hb (Nat.le_refl _))
  have N12 := Lib.hid (N11.out.below hb (Nat.le_refl _))
  have B12 := Lib.hid (B11.out.trans (hb.mono B11.out.size))
  clear hb M11 N11 B11
  go_wp2_with fail
  refine (A6.out _ _ w12 N12.out M12.out).mono ?_
  rintro r w13 ⟨rfl, hb⟩
  have B13 := Lib.hid (B12.out.trans (hb.mono B12.out.size))
  clear hb M12 N12 B12 A6 hn1 hn2 HLA HDl
  have hmk := HMK.out
  have hcv := HCV.out
  go_wp2_with fail
  go_loopw [13, 14, 15] (fun xv y0 iv wr => ∃ (i : Nat) (yv : Value), iv = .int .i64 (i : Int) ∧ yv = y0 ∧ i ≤ 16 ∧ wr.ownsRow w.heap.size 52 5 xv i ((bigL s i).flatMap entC) ∧ wr.ownsRow w.heap.size 52 5 yv i ((bigL s i).flatMap entC) ∧ Apart2 xv yv ∧ Below w.heap.size w wr) (fun _ _ iv _ => 16 - (intOf iv).toNat)
  case atStart => exact ⟨0, _, rfl, rfl, by decide, World.ownsRow_nil _ _ _ _, World.ownsRow_nil _ _ _ _, .inl rfl, B13.out.alloc B13.out.size _⟩
  case round =>
    obtain ⟨i, yv, rfl, rfl, hin, hx, hy, hap, hbr⟩ := hrel
    have HX := Lib.hid hx
    have HY := Lib.hid hy
    have HAp := Lib.hid hap
    have Hbr := Lib.hid hbr
    have hbs := hbr.size
    clear hx hy hap hbr hmk hcv
    by_cases hlt : i < 16
    · obtain ⟨q, hq⟩ : ∃ q, q = (numE 102 i).p := ⟨_, rfl⟩
      have N0 := Lib.hid (fun W => (show Calls Tryz.prog 61 #[.int .u8 102, .int .i64 (i : Int)] W fun r w' => r = .returned (.string (numE 102 i).p) ∧ Below W.heap.size W w' from numbered_any 102 i (i / 1000) (i / 100 % 10) (i / 10 % 10) (i % 10) W (by omega) (by omega) (by omega) (by omega) (by omega)))
      rw [← hq] at N0
      have F0 := Lib.hid (fun W => fileD q s W)
      have Hq := Lib.hid (show bigE s i = ⟨q, 2, 420, s, ⟨#[]⟩⟩ by rw [hq]; rfl)
      clear hq
      go_wp2_with fail
      refine (N0.out wr).mono ?_
      rintro r w2 ⟨rfl, hb⟩
      have HX2 := Lib.hid (row_belowE HX.out hb)
      have HY2 := Lib.hid (row_belowE HY.out hb)
      have HB2 := Lib.hid (Hbr.out.trans (hb.mono Hbr.out.size))
      clear hb HX HY Hbr
      go_wp2_with fail
      refine (F0.out w2).mono ?_
      rintro r w3 ⟨rfl, hb⟩
      have HX3 := Lib.hid (row_belowE HX2.out hb)
      have HY3 := Lib.hid (row_belowE HY2.out hb)
      have HB3 := Lib.hid (HB2.out.trans (hb.mono HB2.out.size))
      have h3 : w.heap.size ≤ w3.heap.size := HB3.out.size
      have HNx := Lib.hid (item_cells (cs := entC ⟨q, 2, 420, s, ⟨#[]⟩⟩) (World.alloc_heap_new w3 (.cells #[.string q, .int .i64 2, .int .i64 420, .string s, .string ⟨#[]⟩] 52)))
      clear hb HX2 HY2 HB2
      go_wp2_with (at_builtin; refine wpList_append_own_at _ rfl _ _ 22 rfl w.heap.size 52 i0 _ 5 64 Tryz.underlying22 Hi.out Hz0.out Hz1.out Hz2.out rfl (by decide) _ _ _ rfl (HX3.out.alloc _) ⟨w3.heap.size, 0, none⟩ 1 1 [.string q, .int .i64 2, .int .i64 420, .string s, .string ⟨#[]⟩] rfl rfl HNx.out (by simp [Value.oneCell']) (by unfold maxLen; omega) (by omega) (by simp; omega) ?_; intro x4 w4 hown hgrow _ hat)
      have HX4 := Lib.hid (show w4.ownsRow w.heap.size 52 5 x4 (i + 1) ((bigL s (i + 1)).flatMap entC) by rw [bigL_succ, List.flatMap_append, Hq.out]; exact hown)
      have HY4 := Lib.hid ((HY3.out.alloc _).kept hgrow HAp.out.kept)
      have HAp4 := Lib.hid (HAp.out.step (fun k hk => ((HY3.out.alloc _).lt k hk).2) hat)
      have HB4 := Lib.hid ((HB3.out.alloc (by omega) _).grown hgrow (by simp; omega) (fun i e => (World.ownsRow.lt HX3.out i e).1))
      clear hown hgrow hat HX3 HY3 HB3 HAp HNx
      refine (N0.out w4).mono ?_
      rintro r w5 ⟨rfl, hb⟩
      have HX5 := Lib.hid (row_belowE HX4.out hb)
      have HY5 := Lib.hid (row_belowE HY4.out hb)
      have HB5 := Lib.hid (HB4.out.trans (hb.mono HB4.out.size))
      clear hb HX4 HY4 HB4
      go_wp2_with fail
      refine (F0.out w5).mono ?_
      rintro r w6 ⟨rfl, hb⟩
      have HX6 := Lib.hid (row_belowE HX5.out hb)
      have HY6 := Lib.hid (row_belowE HY5.out hb)
      have HB6 := Lib.hid (HB5.out.trans (hb.mono HB5.out.size))
      have h6 : w.heap.size ≤ w6.heap.size := HB6.out.size
      have HNy := Lib.hid (item_cells (cs := entC ⟨q, 2, 420, s, ⟨#[]⟩⟩) (World.alloc_heap_new w6 (.cells #[.string q, .int .i64 2, .int .i64 420, .string s, .string ⟨#[]⟩] 52)))
      clear hb HX5 HY5 HB5
      go_wp2_with (at_builtin; refine wpList_append_own_at _ rfl _ _ 22 rfl w.heap.size 52 i0 _ 5 64 Tryz.underlying22 Hi.out Hz0.out Hz1.out Hz2.out rfl (by decide) _ _ _ rfl (HY6.out.alloc _) ⟨w6.heap.size, 0, none⟩ 1 1 [.string q, .int .i64 2, .int .i64 420, .string s, .string ⟨#[]⟩] rfl rfl HNy.out (by simp [Value.oneCell']) (by unfold maxLen; omega) (by omega) (by simp; omega) ?_; intro y7 w7 hown hgrow _ hat)
      go_roundw
      case rel => exact ⟨i + 1, _, by go_num, rfl, by omega, (HX6.out.alloc _).kept hgrow HAp4.out.symm.kept, by rw [bigL_succ, List.flatMap_append, Hq.out]; exact hown, (HAp4.out.symm.step (fun k hk => ((HX6.out.alloc _).lt k hk).2) hat).symm, (HB6.out.alloc (by omega) _).grown hgrow (by simp; omega) (fun i e => (World.ownsRow.lt HY6.out i e).1)⟩
      case measure => simp [intOf]; omega
    · obtain rfl : i = 16 := by omega
      obtain ⟨g, cap, cur, rfl, hgb, hgc⟩ := row_formK HX.out (by decide)
      have hcell : wr.cell? ⟨g, 3, none⟩ = some (.string s) := by
        have := HX.out.cells rfl 3 _ (show ((bigL s 16).flatMap entC)[3]? = some (.string s) from rfl)
        rw [gadd_new, Nat.zero_add] at this
        exact this
      have hfro := block_frozen hgc 3
      have hs1 : 1 ≤ s.size := by have := HS.out; omega
      go_upto_region 18 with fail
      obtain ⟨t, ht⟩ : ∃ t, t = s.extract 1 s.size := ⟨_, rfl⟩
      have htz : t.size = 1048575 := by rw [ht, ByteArray.size_extract, HS.out]; omega
      obtain ⟨w8, hw8⟩ : ∃ y, y = wr.setCell ⟨g, 3, none⟩ (.string t) := ⟨_, rfl⟩
      rw [← ht, ← hw8]
      have HX8 := Lib.hid (show w8.ownsRow w.heap.size 52 5 (.slice (some ⟨g, 0, none⟩) 16 cap) 16 ((bigE t 0 :: restE s).flatMap entC) by rw [hw8, ← big_set s t]; exact row_setC HX.out (by rw [HX.out.1]; decide))
      have HY8 := Lib.hid (show w8.ownsRow w.heap.size 52 5 yv 16 ((bigL s 16).flatMap entC) by rw [hw8]; exact HY.out.kept (grown_setC ⟨g, 3, none⟩ _) HAp.out.kept)
      have HB8 := Lib.hid (show Below w.heap.size w w8 by rw [hw8]; exact Hbr.out.grown (grown_setC ⟨g, 3, none⟩ _) hbs (fun k e => by injection e with e; subst e; exact hgb))
      clear hw8 ht HX HY Hbr hbs hcell hfro hgc hgb hs1
      have FG := Lib.hid (fun W => fileD ⟨#[103]⟩ ⟨#[49]⟩ W)
      go_wp2_with fail
      refine (FG.out _).mono ?_
      rintro r w9 ⟨rfl, hb⟩
      have HX9 := Lib.hid (row_belowE HX8.out hb)
      have HY9 := Lib.hid (row_belowE HY8.out hb)
      have HB9 := Lib.hid (HB8.out.trans (hb.mono HB8.out.size))
      have h9 : w.heap.size ≤ w9.heap.size := HB9.out.size
      have HNx := Lib.hid (item_cells (cs := entC eG) (World.alloc_heap_new w9 (.cells #[.string ⟨#[103]⟩, .int .i64 2, .int .i64 420, .string ⟨#[49]⟩, .string ⟨#[]⟩] 52)))
      have Htz := Lib.hid htz
      clear hb HX8 HY8 HB8 FG htz
      go_wp2_with (at_builtin; refine wpList_append_own _ rfl _ _ 22 rfl w.heap.size 52 i0 _ 5 64 Tryz.underlying22 Hi.out Hz0.out Hz1.out Hz2.out rfl (by decide) _ _ _ rfl (HX9.out.alloc _) ⟨w9.heap.size, 0, none⟩ 1 1 [.string ⟨#[103]⟩, .int .i64 2, .int .i64 420, .string ⟨#[49]⟩, .string ⟨#[]⟩] rfl rfl HNx.out (by simp [Value.oneCell']) (by unfold maxLen; omega) (by omega) (by simp; omega) ?_; intro x10 w10 hown hgrow _)
      have HX10 := Lib.hid (show w10.ownsRow w.heap.size 52 5 x10 (bigX s t).length ((bigX s t).flatMap entC) by rw [← big_app]; exact hown)
      have HY10 := Lib.hid (show w10.ownsRow w.heap.size 52 5 yv (bigL s 16).length ((bigL s 16).flatMap entC) by rw [bigL_len]; exact (HY9.out.alloc _).kept hgrow HAp.out.kept)
      have HB10 := Lib.hid ((HB9.out.alloc (by omega) _).grown hgrow (by simp; omega) (fun i e => (World.ownsRow.lt HX9.out i e).1))
      clear hown hgrow HX9 HY9 HB9 HAp HNx
      have EX := Lib.hid (ents_of_row HX10.out)
      have EY := Lib.hid (ents_of_row HY10.out)
      clear HX10 HY10
      have j1 := big_chg HS.out Htz.out
      have j2 := big_yes HS.out Htz.out
      have j3 := big_no HS.out Htz.out
      have cX : (checkL (bigX s t)).1 = 0 := by rw [(big_x HS.out Htz.out).check]
      have cY : (checkL (bigL s 16)).1 = 0 := by rw [(big_y HS.out).check]
      have sX : Small (bigX s t) := bigX_small HS.out Htz.out
      have sY : Small (bigL s 16) := bigL_small HS.out
      have s0 : SmallC [layOf (bigE s 0)] := fun c hc => by rw [List.mem_singleton.1 hc]; exact lay_small HS.out
      have s1 : SmallC [layOf (bigE s 0), goneOf eG] := fun c hc => by
        rcases List.mem_cons.1 hc with rfl | hc
        · exact lay_small HS.out
        · rw [List.mem_singleton.1 hc]; exact smallC_of (C := [goneOf eG]) (by decide) _ (List.mem_cons_self ..)
      have lX : (bigX s t).length ≤ 1048576 := by rw [bigX_len]; decide
      have lY : (bigL s 16).length ≤ 1048576 := by rw [bigL_len]; decide
      generalize bigE s 0 = y0 at j1 j2 j3 s0 s1
      generalize bigX s t = X at *
      generalize bigL s 16 = Y at *
      have G1 := Lib.hid (fun W (h1 : EntsAt W x10 X) (h2 : EntsAt W yv Y) (h3 : Handle W) => diff_ok h1 h2 sX sY h3 cX cY j1)
      have G2 := Lib.hid (fun (u : Value) W (h1 : EntsAt W x10 X) (h2 : ChgsAt W u [layOf y0, goneOf eG]) (h3 : Handle W) => apply_ok h1 h2 sX s1 lX (by simp) h3 j2)
      have G3 := Lib.hid (fun (u : Value) W (h1 : EntsAt W x10 X) (h2 : ChgsAt W u [layOf y0]) (h3 : Handle W) => apply_no h1 h2 sX s0 lX (by simp) h3 j3)
      have G4 := Lib.hid (fun (v : Value) W (h1 : EntsAt W v Y) (h2 : EntsAt W yv Y) => (same_ents v yv Y Y W h1 h2 (by omega) (by omega)).mono (R' := fun e w' => e = .returned (.bool true) ∧ Below W.heap.size W w') (fun e w' ⟨h1, q, h2, h3⟩ => ⟨by rw [h2, h3.2 rfl], h1⟩))
      unfold fltV at G3
      clear j1 j2 j3 sX sY s0 s1 cX cY lX lY HS Htz
      go_wp2_with fail
      refine (G1.out _ EX.out EY.out (HG.out _ HB10.out)).mono ?_
      rintro r w11 ⟨v16, rfl, hr, hb⟩
      have hr : w11.ownsRow w10.heap.size 54 7 v16 2 ([layOf y0, goneOf eG].flatMap chgC) := hr
      obtain ⟨g2, c2, cur2, rfl, _, _⟩ := row_formK hr (by decide)
      have EX11 := Lib.hid (EX.out.below hb (Nat.le_refl _))
      have EY11 := Lib.hid (EY.out.below hb (Nat.le_refl _))
      have HB11 := Lib.hid (HB10.out.trans (hb.mono HB10.out.size))
      have D11 := Lib.hid (RowE.chgs (C := [layOf y0, goneOf eG]) hr)
      have K11 := Lib.hid (hr.cells rfl)
      clear hb hr EX EY HB10 G1
      go_wp2_with fail
      refine (G2.out _ _ EX11.out D11.out (HG.out _ HB11.out)).mono ?_
      rintro r w12 ⟨vz, rfl, hr, hb⟩
      have EX12 := Lib.hid (EX11.out.below hb (Nat.le_refl _))
      have EY12 := Lib.hid (EY11.out.below hb (Nat.le_refl _))
      have EZ12 := Lib.hid hr.ents
      have HB12 := Lib.hid (HB11.out.trans (hb.mono HB11.out.size))
      have hk : ∀ (j : Nat) u, (chgC (layOf y0))[j]? = some u → w12.cell? ⟨g2, j, none⟩ = some u := fun j u hu => by
        have hj : j < 7 := (List.getElem?_eq_some_iff.1 hu).1
        have h1 := K11.out j u (by
          rw [show [layOf y0, goneOf eG].flatMap chgC = chgC (layOf y0) ++ chgC (goneOf eG) by simp, List.getElem?_append_left hj]
          exact hu)
        rw [gadd_new, Nat.zero_add] at h1
        exact (hb.cell (World.block_lt_of_cell? _ _ h1)).trans h1
      have k0 := hk 0 _ rfl
      have k1 := hk 1 _ rfl
      have k2 := hk 2 _ rfl
      have k3 := hk 3 _ rfl
      have k4 := hk 4 _ rfl
      have k5 := hk 5 _ rfl
      have k6 := hk 6 _ rfl
      clear hb hr EX11 EY11 HB11 G2 K11 D11 hk
      go_wp2_with fail
      refine (G3.out _ _ (EX12.out.new _) (chgs_block 1 (World.alloc_heap_new w12 _) rfl rfl (by simp)) (HG.out _ (HB12.out.alloc HB12.out.size _))).mono ?_
      rintro r w13 ⟨rfl, hb⟩
      have EY13 := Lib.hid ((EY12.out.new _).below hb (Nat.le_refl _))
      have EZ13 := Lib.hid ((EZ12.out.new _).below hb (Nat.le_refl _))
      have HB13 := Lib.hid ((HB12.out.alloc HB12.out.size _).trans (hb.mono (by have := HB12.out.size; simp; omega)))
      clear hb EX12 EY12 EZ12 HB12 G3 k0 k1 k2 k3 k4 k5 k6
      go_wp2_with fail
      refine (G4.out _ w13 EZ13.out EY13.out).mono ?_
      rintro r w14 ⟨rfl, hb⟩
      have HB14 := Lib.hid (HB13.out.trans (hb.mono HB13.out.size))
      clear hb EY13 EZ13 HB13 G4
      go_wp2_with fail
      refine (A5.out w14 (HG.out _ HB14.out)).mono ?_
      rintro r w15 ⟨rfl, hb⟩
      have HB15 := Lib.hid (HB14.out.trans (hb.mono HB14.out.size))
      clear hb HB14
      go_wp2_with fail
      go_ret
      exact ⟨rfl, HB15.out⟩
end Go.Proofs.YtipfccfjniglbaaGreatDoor
