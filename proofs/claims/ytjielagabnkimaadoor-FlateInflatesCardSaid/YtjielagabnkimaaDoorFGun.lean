/- flate.Gunzip of what stands in the frame that Gzip writes. -/
import Derived.Test.YtjielagabnkimaaDoorFGzip
import Derived.Deep.DeepFit
set_option linter.unusedSimpArgs false
set_option linter.unusedVariables false
namespace Go.Proofs.YtjielagabnkimaaDoor
open Go.RowKit
/-- what Gunzip makes of what stands behind the head -/
def gunP (l : List UInt8) (most : Int) : Except Nat (List UInt8) := match inflP l most with
  | .error e => .error e
  | .ok (t, n) =>
    if l.length < n + 8 then .error 2
    else if (l.drop n).take 8 ≠ tailL t then .error 7
    else if n + 8 < l.length then .error 3
    else .ok t
def GunOut (w : World) (res : Except Nat (List UInt8)) (e : Ending) (w' : World) : Prop := Below w.heap.size w w' ∧ match res with
  | .ok t => e = .returned (.tuple #[.string (bs t), .nilIface])
  | .error no => e = .returned (.tuple #[.string ⟨#[]⟩, .iface 55 (.int .i64 (no : Int))])

theorem Tabs.same {w w' : World} (h : Tabs w) (hs : Same w w') : Tabs w' := by
  obtain ⟨q, rfl⟩ := hs
  exact h
theorem OrdAt.same {w w' : World} (h : OrdAt w) (hs : Same w w') : OrdAt w' := by
  obtain ⟨q, rfl⟩ := hs
  exact h

set_option maxRecDepth 100000 in
set_option maxHeartbeats 4000000 in
theorem gunzip_any (l : List UInt8) (most : Int) (w : World) (hl : l.length < 2 ^ 32) (hm : most < 2 ^ 32) (hT : Tabs w) (hO : OrdAt w) (hr : ∀ t n, inflP l most = .ok (t, n) → t.length < 2 ^ 32 ∧ n ≤ l.length) :
    Calls Tryd.prog 19 #[.string (bs (frameL ++ l)), .int .i64 most] w fun e w' => GunOut w (gunP l most) e w' := by
  obtain ⟨s, hs⟩ : ∃ s, s = bs (frameL ++ l) := ⟨_, rfl⟩
  have hsz : s.size = l.length + 10 := by rw [hs]; show (frameL ++ l).length = _; rw [List.length_append]; show 10 + _ = _; omega
  have hh := head_ok s w (by rw [hs]; exact headOk_of) (by omega)
  have hdl : s.data.toList = frameL ++ l := by rw [hs]; rfl
  have hx : s.extract 10 s.size = bs l := by rw [extract_bs, hdl, List.drop_left' (by rfl), List.take_of_length_le (by omega)]
  obtain ⟨c, hc⟩ : ∃ c, c = bs l := ⟨_, rfl⟩
  have hcs : c.size = l.length := by rw [hc]; rfl
  rw [← hc] at hx
  have hinf := fun W (h1 : Tabs W) (h2 : OrdAt W) => inflate_any c most W (by omega) (by omega) h1 h2
  rw [show c.data.toList = l from by rw [hc]; rfl] at hinf
  have h10 : 10 ≤ s.size := by omega
  have hs40 : s.size < 2 ^ 40 := by omega
  rw [← hs]
  obtain ⟨g, hg⟩ : ∃ g, g = gunP l most := ⟨_, rfl⟩
  rw [← hg]
  unfold gunP at hg
  rw [← hx] at hinf
  have HB : Hid (Below w.heap.size w w) := Lib.hid (Below.refl _ _)
  have Hh := Lib.hid hh
  have Hx := Lib.hid hx
  have HT := Lib.hid hT
  have HO := Lib.hid hO
  have Hdl := Lib.hid hdl
  have Hsz := Lib.hid hsz
  clear hh hx hc hs hcs hT hO hdl hsz
  cases hi : inflP l most with
  | error no =>
    rw [hi] at hg hinf
    have Hinf := Lib.hid hinf
    have Hg := Lib.hid hg
    clear hg hinf hi hr
    go_enter Tryd.func19, Tryd.ntmps19
    go_wp2_with (first
      | (go_at_call 41; refine (Hh.out).mono ?_; rintro e w1 ⟨rfl, hsm⟩; clear Hh
         have hT1 := HT.out.same hsm
         have hO1 := HO.out.same hsm
         have hb1 := hsm.below w.heap.size
         have HT1 := Lib.hid hT1
         have HO1 := Lib.hid hO1
         have HB1 := Lib.hid hb1
         clear hT1 hO1 hb1 hsm)
      | (go_at_call 16; refine (Hinf.out _ HT1.out HO1.out).mono ?_; rintro e w2 ⟨hb2, rfl⟩
         have hq := HB1.out.trans (hb2.mono (by have := HB1.out.size; omega))
         have Hq := Lib.hid hq
         clear hb2 hq))
    go_ret2
    refine ⟨Hq.out, ?_⟩
    rw [Hg.out]
    rfl
  | ok v =>
    obtain ⟨t, n⟩ := v
    obtain ⟨ht, hn⟩ := hr t n hi
    rw [hi] at hg hinf
    simp only [] at hg
    obtain ⟨u, hu⟩ : ∃ u, u = bs t := ⟨_, rfl⟩
    have hut : u.size = t.length := by rw [hu]; rfl
    have hus : u.size < 4294967296 := by omega
    have hcr := fun W => crc_any u W (by omega)
    have hinf2 : ∀ W, Tabs W → OrdAt W → Calls Tryd.prog 16 #[.string (s.extract 10 s.size), .int .i64 most] W fun e w' => e = .returned (.tuple #[.string u, .int .i64 (n : Int), .nilIface]) ∧ Below W.heap.size W w' := by
      intro W h1 h2
      rw [hu]
      exact (hinf W h1 h2).mono fun e w' ⟨a, b⟩ => ⟨b, a⟩
    have hud : u.data.toList = t := by rw [hu]; rfl
    rw [hud] at hcr
    have hcl := crcP_lt t
    obtain ⟨k, hk⟩ : ∃ k, k = crcP t := ⟨_, rfl⟩
    rw [← hk] at hcr hcl
    have hn1 : n + 10 ≤ s.size := by rw [Hsz.out]; omega
    have Hinf := Lib.hid hinf2
    have Hcr := Lib.hid hcr
    have Hk := Lib.hid hk
    have Hut := Lib.hid hut
    have Hud := Lib.hid hud
    have Hu := Lib.hid hu
    have hrx : s.extract (10 + n) s.size = bs (l.drop n) := by
      rw [extract_bs, Hdl.out, List.take_of_length_le (by rw [List.length_drop, List.length_append, Hsz.out]; show 10 + _ - _ ≤ _; omega)]
      congr 1
      rw [← List.drop_drop, List.drop_left' (by rfl)]
    have Hrx := Lib.hid hrx
    clear hinf hinf2 hcr hk hi hr hut hud hu hrx
    by_cases hsh : s.size - (10 + n) < 8
    · rw [if_pos (by have := Hsz.out; omega)] at hg
      have Hg := Lib.hid hg
      clear hg
      go_enter Tryd.func19, Tryd.ntmps19
      go_wp2_with (first
        | (go_at_call 41; refine (Hh.out).mono ?_; rintro e w1 ⟨rfl, hsm⟩; clear Hh
           have hT1 := HT.out.same hsm
           have hO1 := HO.out.same hsm
           have hb1 := hsm.below w.heap.size
           have HT1 := Lib.hid hT1
           have HO1 := Lib.hid hO1
           have HB1 := Lib.hid hb1
           clear hT1 hO1 hb1 hsm)
        | (go_at_call 16; refine (Hinf.out _ HT1.out HO1.out).mono ?_; rintro e w2 ⟨rfl, hb2⟩
           have hq := HB1.out.trans (hb2.mono (by have := HB1.out.size; omega))
           have Hq := Lib.hid hq
           clear hb2 hq))
      go_ret2
      refine ⟨Hq.out, ?_⟩
      rw [Hg.out]
      rfl
    · rw [if_neg (by have := Hsz.out; omega)] at hg
      have hx8 : ¬ ((s.size - (10 + n) : Nat) : Int) < 8 := by omega
      have hx9 : 8 ≤ s.size - (10 + n) := by omega
      have hcmp : (((s.extract (10 + n) s.size).extract 0 8).toList == (bs (fourP k) ++ bs (fourP u.size)).toList) = decide ((l.drop n).take 8 = tailL t) := by
        rw [ByteArray.toList_eq, ByteArray.toList_eq, Hrx.out, append_bs, extract_bs]
        show (((l.drop n).drop 0).take (8 - 0) == fourP k ++ fourP u.size) = _
        rw [List.drop_zero, Nat.sub_zero, Hk.out, Hut.out]
        unfold tailL
        rw [Nat.mod_eq_of_lt ht, Bool.eq_iff_iff, beq_iff_eq, decide_eq_true_iff]
      have h41 : (fourP k).length = 4 := rfl
      have h42 : (fourP u.size).length = 4 := rfl
      by_cases heq : (l.drop n).take 8 = tailL t
      · rw [decide_eq_true heq] at hcmp
        have hcm : (!((s.extract (10 + n) s.size).extract 0 8).toList == (bs (fourP k) ++ bs (fourP u.size)).toList) = false := by rw [hcmp]; rfl
        rw [if_neg (fun h => h heq)] at hg
        clear hcmp heq
        by_cases hlong : 8 < s.size - (10 + n)
        · rw [if_pos (by have := Hsz.out; omega)] at hg
          have Hg := Lib.hid hg
          clear hg
          have hl8 : (8 : Int) < ((s.size - (10 + n) : Nat) : Int) := by omega
          go_enter Tryd.func19, Tryd.ntmps19
          go_wp2_with (first
            | (go_at_call 41; refine (Hh.out).mono ?_; rintro e w1 ⟨rfl, hsm⟩; clear Hh
               have hT1 := HT.out.same hsm
               have hO1 := HO.out.same hsm
               have hb1 := hsm.below w.heap.size
               have HT1 := Lib.hid hT1
               have HO1 := Lib.hid hO1
               have HB1 := Lib.hid hb1
               clear hT1 hO1 hb1 hsm)
            | (go_at_call 16; refine (Hinf.out _ HT1.out HO1.out).mono ?_; rintro e w2 ⟨rfl, hb2⟩
               have hq := HB1.out.trans (hb2.mono (by have := HB1.out.size; omega))
               have Hq := Lib.hid hq
               clear hb2 hq))
          clear HB HB1 HT HT1 HO HO1 Hinf Hx
          have huw : IntKind.u32.wrap (u.size : Int) = (u.size : Int) := IntWalk.u32_in _ (by omega)
          have hcd := below_drew Hq.out
          have HC := Lib.hid hcd
          clear hcd
          go_region_with (first
            | (go_at_call 11; refine (Hcr.out _).mono ?_; rintro e w3 ⟨rfl, hb3⟩
               have hq3 := HC.out.trans (hb3.mono HC.out.size)
               clear HC hb3
               have HC := Lib.hid hq3
               clear hq3)
            | (go_at_call 23; refine (four_any _ _ (by first | exact hcl | exact hus)).mono ?_; rintro e w4 ⟨rfl, hb4⟩
               have hq4 := HC.out.trans (hb4.mono HC.out.size)
               clear HC hb4
               have HC := Lib.hid hq4
               clear hq4))
          all_goals
            go_wp2_with fail
            go_ret2
            refine ⟨HC.out, ?_⟩
            rw [Hg.out]
            rfl
        · rw [if_neg (by have := Hsz.out; omega)] at hg
          have Hg := Lib.hid hg
          clear hg
          have hl8 : ¬ (8 : Int) < ((s.size - (10 + n) : Nat) : Int) := by omega
          go_enter Tryd.func19, Tryd.ntmps19
          go_wp2_with (first
            | (go_at_call 41; refine (Hh.out).mono ?_; rintro e w1 ⟨rfl, hsm⟩; clear Hh
               have hT1 := HT.out.same hsm
               have hO1 := HO.out.same hsm
               have hb1 := hsm.below w.heap.size
               have HT1 := Lib.hid hT1
               have HO1 := Lib.hid hO1
               have HB1 := Lib.hid hb1
               clear hT1 hO1 hb1 hsm)
            | (go_at_call 16; refine (Hinf.out _ HT1.out HO1.out).mono ?_; rintro e w2 ⟨rfl, hb2⟩
               have hq := HB1.out.trans (hb2.mono (by have := HB1.out.size; omega))
               have Hq := Lib.hid hq
               clear hb2 hq))
          clear HB HB1 HT HT1 HO HO1 Hinf Hx
          have huw : IntKind.u32.wrap (u.size : Int) = (u.size : Int) := IntWalk.u32_in _ (by omega)
          have hcd := below_drew Hq.out
          have HC := Lib.hid hcd
          clear hcd
          go_region_with (first
            | (go_at_call 11; refine (Hcr.out _).mono ?_; rintro e w3 ⟨rfl, hb3⟩
               have hq3 := HC.out.trans (hb3.mono HC.out.size)
               clear HC hb3
               have HC := Lib.hid hq3
               clear hq3)
            | (go_at_call 23; refine (four_any _ _ (by first | exact hcl | exact hus)).mono ?_; rintro e w4 ⟨rfl, hb4⟩
               have hq4 := HC.out.trans (hb4.mono HC.out.size)
               clear HC hb4
               have HC := Lib.hid hq4
               clear hq4))
          all_goals
            go_wp2_with fail
            go_ret2
            refine ⟨HC.out, ?_⟩
            rw [Hg.out]
            show _ = Ending.returned (.tuple #[.string (bs t), .nilIface])
            rw [← Hu.out]
            rfl
      · rw [decide_eq_false heq] at hcmp
        have hcm : (!((s.extract (10 + n) s.size).extract 0 8).toList == (bs (fourP k) ++ bs (fourP u.size)).toList) = true := by rw [hcmp]; rfl
        rw [if_pos heq] at hg
        have Hg := Lib.hid hg
        clear hcmp heq hg
        go_enter Tryd.func19, Tryd.ntmps19
        go_wp2_with (first
          | (go_at_call 41; refine (Hh.out).mono ?_; rintro e w1 ⟨rfl, hsm⟩; clear Hh
             have hT1 := HT.out.same hsm
             have hO1 := HO.out.same hsm
             have hb1 := hsm.below w.heap.size
             have HT1 := Lib.hid hT1
             have HO1 := Lib.hid hO1
             have HB1 := Lib.hid hb1
             clear hT1 hO1 hb1 hsm)
          | (go_at_call 16; refine (Hinf.out _ HT1.out HO1.out).mono ?_; rintro e w2 ⟨rfl, hb2⟩
             have hq := HB1.out.trans (hb2.mono (by have := HB1.out.size; omega))
             have Hq := Lib.hid hq
             clear hb2 hq))
        clear HB HB1 HT HT1 HO HO1 Hinf Hx
        have huw : IntKind.u32.wrap (u.size : Int) = (u.size : Int) := IntWalk.u32_in _ (by omega)
        have hcd := below_drew Hq.out
        have HC := Lib.hid hcd
        clear hcd
        go_region_with (first
          | (go_at_call 11; refine (Hcr.out _).mono ?_; rintro e w3 ⟨rfl, hb3⟩
             have hq3 := HC.out.trans (hb3.mono HC.out.size)
             clear HC hb3
             have HC := Lib.hid hq3
             clear hq3)
          | (go_at_call 23; refine (four_any _ _ (by first | exact hcl | exact hus)).mono ?_; rintro e w4 ⟨rfl, hb4⟩
             have hq4 := HC.out.trans (hb4.mono HC.out.size)
             clear HC hb4
             have HC := Lib.hid hq4
             clear hq4))
        all_goals
          go_wp2_with fail
          go_ret2
          refine ⟨HC.out, ?_⟩
          rw [Hg.out]
          rfl
end Go.Proofs.YtjielagabnkimaaDoor
