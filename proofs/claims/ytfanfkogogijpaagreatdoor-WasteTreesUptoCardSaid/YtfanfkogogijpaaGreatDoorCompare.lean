/- The contract of path.Compare. -/
import Derived.Test.YtfanfkogogijpaaGreatDoorIter
import Derived.Test.YtfanfkogogijpaaGreatDoorWeight
import Derived.Test.YtfanfkogogijpaaGreatDoorOrd
set_option linter.unusedSimpArgs false
set_option linter.unusedVariables false
namespace Go.Proofs.YtfanfkogogijpaaGreatDoor
open Go.RowKit
open Go.Lib hiding intOf

theorem isNaN_any (a : ByteArray) (w : World) : Calls Tryz.prog 58 #[.string a] w fun e w' => e = .returned (.bool false) ∧ w = w' := by
  go_enter Tryz.func58, Tryz.ntmps58
  go_wp2
  go_ret
  exact ⟨ret_bool (by simp), rfl⟩
theorem cmp_any (a b : ByteArray) (w : World) : Calls Tryz.prog 35 #[.string a, .string b] w fun e w' => e = .returned (.int .i64 (cmpB a.data.toList b.data.toList)) ∧ w = w' := by
  have Hn := Lib.hid (fun (x : ByteArray) W => isNaN_any x W)
  have e1 := toList_data a
  have e2 := toList_data b
  have E1 := Lib.hid e1
  have E2 := Lib.hid e2
  clear e1 e2
  by_cases h1 : Op.bytesLess a.toList b.toList = true
  · have g : cmpB a.data.toList b.data.toList = -1 := by unfold cmpB; rw [← E1.out, ← E2.out, if_pos h1]
    have G := Lib.hid g
    clear g
    go_enter Tryz.func35, Tryz.ntmps35
    go_wp2_with (go_at_call 58; refine (Hn.out _ _).mono ?_; rintro e w' ⟨rfl, rfl⟩)
    go_ret
    exact ⟨by rw [G.out]; rfl, rfl⟩
  have h1 : Op.bytesLess a.toList b.toList = false := by simpa using h1
  by_cases h2 : (a.toList == b.toList) = true
  · have g : cmpB a.data.toList b.data.toList = 0 := by unfold cmpB; rw [← E1.out, ← E2.out, if_neg (by rw [h1]; simp), if_pos h2]
    have G := Lib.hid g
    clear g
    go_enter Tryz.func35, Tryz.ntmps35
    go_wp2_with (go_at_call 58; refine (Hn.out _ _).mono ?_; rintro e w' ⟨rfl, rfl⟩)
    go_ret
    exact ⟨by rw [G.out]; rfl, rfl⟩
  · have h2 : (a.toList == b.toList) = false := by simpa using h2
    have g : cmpB a.data.toList b.data.toList = 1 := by unfold cmpB; rw [← E1.out, ← E2.out, if_neg (by rw [h1]; simp), if_neg (by rw [h2]; simp)]
    have G := Lib.hid g
    clear g
    go_enter Tryz.func35, Tryz.ntmps35
    go_wp2_with (go_at_call 58; refine (Hn.out _ _).mono ?_; rintro e w' ⟨rfl, rfl⟩)
    go_ret
    exact ⟨by rw [G.out]; rfl, rfl⟩

theorem compareP_cut (a b : List UInt8) : compareP a b =
    if cmpB (cutP a).1 (cutP b).1 = 0 then (if (cutP a).2.2 then (if (cutP b).2.2 then compareP (cutP a).2.1 (cutP b).2.1 else 1) else if (cutP b).2.2 then -1 else 0) else cmpB (cutP a).1 (cutP b).1 := by
  rw [show compareP a b = cmpPs (pcs a) (pcs b) from rfl, pcs_cut a, pcs_cut b, cmpPs_cons]
  by_cases h : cmpB (cutP a).1 (cutP b).1 = 0
  · rw [if_pos h, if_pos h]
    cases (cutP a).2.2 <;> cases (cutP b).2.2
    · rfl
    · simp only [if_true]
      rw [pcs_cut (cutP b).2.1]
      rfl
    · simp only [if_true]
      rw [pcs_cut (cutP a).2.1]
      rfl
    · rfl
  · rw [if_neg h, if_neg h]
theorem below_same {w w1 w2 : World} (h : Same w w1) (k : Same w1 w2) : Same w w2 := by
  obtain ⟨n, rfl⟩ := h
  obtain ⟨m, rfl⟩ := k
  exact ⟨n + m, by rw [World.drewN_drewN]⟩

def sizeV : Value → Nat
  | .string s => s.size
  | _ => 0
set_option maxRecDepth 100000 in
set_option maxHeartbeats 2000000 in
theorem compare_any (a b : ByteArray) (w : World) (ha : a.size < 4611686018427387904) (hb : b.size < 4611686018427387904) :
    Calls Tryz.prog 16 #[.string a, .string b] w fun e w' => e = .returned (.int .i64 (compareP a.data.toList b.data.toList)) ∧ Same w w' := by
  have Hcmp := Lib.hid (fun (x y : ByteArray) W => cmp_any x y W)
  go_enter Tryz.func16, Tryz.ntmps16
  go_wp2
  go_loopw [0, 1, 5, 6, 7, 8, 9, 10, 11] (fun x y _ _ _ _ _ _ _ wr => ∃ p q : ByteArray, x = .string p ∧ y = .string q ∧ p.size ≤ a.size ∧ q.size ≤ b.size ∧ Same w wr ∧ compareP a.data.toList b.data.toList = compareP p.data.toList q.data.toList) (fun x _ _ _ _ _ _ _ _ _ => sizeV x)
  case atStart => exact ⟨a, b, rfl, rfl, Nat.le_refl _, Nat.le_refl _, Same.refl _, rfl⟩
  case round =>
    obtain ⟨p, q, rfl, rfl, hp, hq, hsm, hcmp⟩ := hrel
    have hc1 := fun W => cut_any p W (by omega)
    have hc2 := fun W => cut_any q W (by omega)
    rw [compareP_cut p.data.toList] at hcmp
    have hl1 := cutP_le p.data.toList
    have hl2 := cutP_le q.data.toList
    have hs1 := cutP_shorter p.data.toList
    rw [← size_eq] at hl1 hl2 hs1
    generalize cutP p.data.toList = c1 at *
    generalize cutP q.data.toList = c2 at *
    obtain ⟨p1, p2, m1⟩ := c1
    obtain ⟨q1, q2, m2⟩ := c2
    have Hc1 : Hid (∀ W, Calls Tryz.prog 34 #[.string p, .string ⟨#[47]⟩] W fun e w' => e = .returned (.tuple #[.string (bs p1), .string (bs p2), .bool m1]) ∧ Same W w') := hc1
    have Hc2 : Hid (∀ W, Calls Tryz.prog 34 #[.string q, .string ⟨#[47]⟩] W fun e w' => e = .returned (.tuple #[.string (bs q1), .string (bs q2), .bool m2]) ∧ Same W w') := hc2
    have hcc := Hcmp.out (bs p1) (bs q1)
    rw [bs_toList, bs_toList] at hcc
    simp only at hcmp hl1 hl2 hs1
    have Hl1 := Lib.hid hl1
    have Hl2 := Lib.hid hl2
    have Hs1 := Lib.hid hs1
    have Hsm := Lib.hid hsm
    have Hcm := Lib.hid hcmp
    clear hc1 hc2 hcmp hl1 hl2 hs1 hsm
    generalize cmpB p1 q1 = c at *
    have Hcc := Lib.hid hcc
    clear hcc
    by_cases h0 : c = 0
    · subst h0
      cases m1 <;> cases m2
      · go_wp2_with fail
        refine (Hc1.out _).mono ?_
        rintro e w1 ⟨rfl, hs1⟩
        have Hsa := Lib.hid hs1
        clear hs1
        go_wp2_with fail
        refine (Hc2.out _).mono ?_
        rintro e w2 ⟨rfl, hs2⟩
        have Hsb := Lib.hid hs2
        clear hs2
        go_wp2_with fail
        refine (Hcc.out _).mono ?_
        rintro e w3 ⟨rfl, rfl⟩
        go_wp2
        go_ret
        exact ⟨ret_int (by rw [Hcm.out]; rfl), below_same Hsm.out (below_same Hsa.out Hsb.out)⟩
      · go_wp2_with fail
        refine (Hc1.out _).mono ?_
        rintro e w1 ⟨rfl, hs1⟩
        have Hsa := Lib.hid hs1
        clear hs1
        go_wp2_with fail
        refine (Hc2.out _).mono ?_
        rintro e w2 ⟨rfl, hs2⟩
        have Hsb := Lib.hid hs2
        clear hs2
        go_wp2_with fail
        refine (Hcc.out _).mono ?_
        rintro e w3 ⟨rfl, rfl⟩
        go_wp2
        go_ret
        exact ⟨ret_int (by rw [Hcm.out]; rfl), below_same Hsm.out (below_same Hsa.out Hsb.out)⟩
      · go_wp2_with fail
        refine (Hc1.out _).mono ?_
        rintro e w1 ⟨rfl, hs1⟩
        have Hsa := Lib.hid hs1
        clear hs1
        go_wp2_with fail
        refine (Hc2.out _).mono ?_
        rintro e w2 ⟨rfl, hs2⟩
        have Hsb := Lib.hid hs2
        clear hs2
        go_wp2_with fail
        refine (Hcc.out _).mono ?_
        rintro e w3 ⟨rfl, rfl⟩
        go_wp2
        go_ret
        exact ⟨ret_int (by rw [Hcm.out]; rfl), below_same Hsm.out (below_same Hsa.out Hsb.out)⟩
      · go_wp2_with fail
        refine (Hc1.out _).mono ?_
        rintro e w1 ⟨rfl, hs1⟩
        have Hsa := Lib.hid hs1
        clear hs1
        go_wp2_with fail
        refine (Hc2.out _).mono ?_
        rintro e w2 ⟨rfl, hs2⟩
        have Hsb := Lib.hid hs2
        clear hs2
        go_wp2_with fail
        refine (Hcc.out _).mono ?_
        rintro e w3 ⟨rfl, rfl⟩
        go_wp2
        go_roundw
        case rel => exact ⟨bs p2, bs q2, rfl, rfl, by have := Hl1.out.2; simp; omega, by have := Hl2.out.2; simp; omega, below_same Hsm.out (below_same Hsa.out Hsb.out), Hcm.out⟩
        case measure =>
          have := Hs1.out trivial
          simp [sizeV]
          omega
    · have hne : (c != 0) = true := by simpa using h0
      have Hf := Lib.hid (show compareP a.data.toList b.data.toList = c by rw [Hcm.out, if_neg h0])
      clear h0
      go_wp2_with fail
      refine (Hc1.out _).mono ?_
      rintro e w1 ⟨rfl, hs1⟩
      have Hsa := Lib.hid hs1
      clear hs1
      go_wp2_with fail
      refine (Hc2.out _).mono ?_
      rintro e w2 ⟨rfl, hs2⟩
      have Hsb := Lib.hid hs2
      clear hs2
      go_wp2_with fail
      refine (Hcc.out _).mono ?_
      rintro e w3 ⟨rfl, rfl⟩
      go_wp2
      go_ret
      exact ⟨ret_int (by rw [Hf.out]), below_same Hsm.out (below_same Hsa.out Hsb.out)⟩
end Go.Proofs.YtfanfkogogijpaaGreatDoor
