/- The walk of ResolveFind. -/
import Derived.Test.YtdkodedocklmdaaGreatDoorRInside
import Derived.Test.YtdkodedocklmdaaGreatDoorSWay
import Derived.Test.YtdkodedocklmdaaGreatDoorTListed
set_option linter.unusedSimpArgs false
set_option linter.unusedVariables false
namespace Go.Proofs.YtdkodedocklmdaaGreatDoor
open Go.RowKit Go.Shelf Go.Maps
open Go.Lib hiding intOf size_eq
theorem find_both {T rt rm : Nat} {nd : List Nd} (s : ByteArray) (last : Bool) (w : World) (ht : TreeAt w T rt rm 0 nd) (hs : s.size ≤ 4294967296) :
    Calls Tryz.prog 35 #[.pointer (some ⟨T, 0, none⟩), .string s, .bool last] w fun r w' => Below w.heap.size w w' ∧ r = .returned (.tuple #[.string (findB (wayF (ents nd) (!last) s.data.toList)), errV (findN (wayF (ents nd) (!last) s.data.toList))]) := by
  cases h : wayF (ents nd) (!last) s.data.toList with
  | error n => exact find_err s last w ht hs h
  | ok x =>
    obtain ⟨p, tr⟩ := x
    exact find_as s last w ht hs h
theorem findN_small {L : List Ent} {keep : Bool} {way : List UInt8} : findN (wayF L keep way) ≤ 32 := by
  cases h : wayF L keep way with
  | error n => rcases wayF_errs h with rfl | rfl | rfl <;> decide
  | ok x => exact Nat.zero_le _
theorem plain_same (n : Nat) (w : World) (hn : n ≤ 32) (hg : Handle w) : Calls Tryz.prog 36 #[errV n, .int .i64 n] w fun e w' => e = .returned (.bool true) ∧ Below w.heap.size w w' :=
  (plain_any n n w hn hg).mono fun e w' h => ⟨by rw [h.1]; simp, h.2⟩
set_option maxRecDepth 100000 in
set_option maxHeartbeats 4000000 in
theorem resolveFind_any (v : Value) (L : List Ent) (s : ByteArray) (w : World) (h : EntsAt w v L) (hb : Small L) (hl : L.length ≤ 1099511627776) (hs : s.size ≤ 4294967296) (hg : Handle w) :
    Calls Tryz.prog 6 #[v, .string s] w fun r w' => r = .returned (.bool true) ∧ Below w.heap.size w w' := by
  have hof := of_any v L w h hb hl
  have hE := h
  obtain ⟨o, cap, rfl, _, _, _⟩ := h
  have Hof := Lib.hid hof
  have Hg := Lib.hid hg
  have HE := Lib.hid hE
  have Hb := Lib.hid hb
  obtain ⟨n, hn⟩ : ∃ n, n = L.length := ⟨_, rfl⟩
  rw [← hn] at Hof ⊢
  have Hn := Lib.hid hn
  have Hl := Lib.hid hl
  clear hof hg hb hE hn hl
  by_cases hc0 : (checkL L).1 = 0
  · go_enter Tryz.func6, Tryz.ntmps6
    go_upto_region 4 with (first
      | (go_at_call 32; refine Hof.out.mono ?_; rintro r w1 ⟨h1, _, hb⟩; obtain ⟨T, rt, rm, nd, rfl, ht, he⟩ := h1 hc0
         have HG1 := Lib.hid (Hg.out.below hb (Nat.le_refl _))
         have HT1 := Lib.hid (ht.lower (Nat.zero_le _))
         have He := Lib.hid he
         have HB1 := Lib.hid hb
         clear h1 hb ht he))
    have hgood := check_good HT1.out He.out
    have F1 := Lib.hid (fun W (hW : Below w.heap.size w W) => rfind_any L hgood true (.slice o n cap) s W (by rw [Hn.out]; exact HE.out.below hW (Nat.le_refl _)) Hl.out (fun e he => by have := (Hb.out e he).1; omega) hs)
    have F2 := Lib.hid (fun W (hW : Below w.heap.size w W) => rfind_any L hgood false (.slice o n cap) s W (by rw [Hn.out]; exact HE.out.below hW (Nat.le_refl _)) Hl.out (fun e he => by have := (Hb.out e he).1; omega) hs)
    have F3 := Lib.hid (fun W hW => find_both (T := T) (rt := rt) (rm := rm) (nd := nd) s true W hW hs)
    have F4 := Lib.hid (fun W hW => find_both (T := T) (rt := rt) (rm := rm) (nd := nd) s false W hW hs)
    have P1 := Lib.hid (fun W (hW : Handle W) => plain_same (findN (wayF L false s.data.toList)) W findN_small hW)
    have P2 := Lib.hid (fun W (hW : Handle W) => plain_same (findN (wayF L true s.data.toList)) W findN_small hW)
    have HS := Lib.hid (fun va W (hW : Below w.heap.size w W) (ha : EntsAt W va L) => same_any va (.slice o n cap) L W ha (by rw [Hn.out]; exact HE.out.below hW (Nat.le_refl _)) Hl.out)
    have HL := Lib.hid (fun W (hW : TreeAt W T rt rm 0 nd) => (list_any W hW).mono (fun e w' h => show ∃ va, e = .returned va ∧ EntsAt w' va L ∧ Below W.heap.size W w' from by
      obtain ⟨va, h1, h2, h3⟩ := h
      exact ⟨va, h1, by rw [← He.out]; exact ents_of_row h2, h3⟩))
    rw [He.out] at F3 F4
    rw [show (!true) = false from rfl] at F1 F3
    rw [show (!false) = true from rfl] at F2 F4
    generalize findB (wayF L false s.data.toList) = b1 at *
    generalize findB (wayF L true s.data.toList) = b2 at *
    generalize findN (wayF L false s.data.toList) = n1 at *
    generalize findN (wayF L true s.data.toList) = n2 at *
    generalize he1 : errV n1 = e1 at *
    generalize he2 : errV n2 = e2 at *
    clear hgood hc0 he1 he2
    have b1t : (b1.toList == b1.toList) = true := by simp
    have b2t : (b2.toList == b2.toList) = true := by simp
    go_wp2_with (first
      | (go_at_call 34; refine (F1.out _ HB1.out).mono ?_; rintro r w2 ⟨hb, rfl⟩
         have HT2 := Lib.hid (HT1.out.below hb (Nat.le_refl _))
         have HB2 := Lib.hid (HB1.out.trans (hb.mono HB1.out.size))
         have HG2 := Lib.hid (HG1.out.below hb (Nat.le_refl _))
         clear hb HT1 HB1 HG1 F1)
      | (go_at_call 34; refine (F2.out _ HB2.out).mono ?_; rintro r w3 ⟨hb, rfl⟩
         have HT3 := Lib.hid (HT2.out.below hb (Nat.le_refl _))
         have HB3 := Lib.hid (HB2.out.trans (hb.mono HB2.out.size))
         have HG3 := Lib.hid (HG2.out.below hb (Nat.le_refl _))
         clear hb HT2 HB2 HG2 F2)
      | (go_at_call 35; refine (F3.out _ HT3.out).mono ?_; rintro r w4 ⟨hb, rfl⟩
         have HT4 := Lib.hid (HT3.out.below hb (Nat.le_refl _))
         have HB4 := Lib.hid (HB3.out.trans (hb.mono HB3.out.size))
         have HG4 := Lib.hid (HG3.out.below hb (Nat.le_refl _))
         clear hb HT3 HB3 HG3 F3)
      | (go_at_call 35; refine (F4.out _ HT4.out).mono ?_; rintro r w5 ⟨hb, rfl⟩
         have HT5 := Lib.hid (HT4.out.below hb (Nat.le_refl _))
         have HB5 := Lib.hid (HB4.out.trans (hb.mono HB4.out.size))
         have HG5 := Lib.hid (HG4.out.below hb (Nat.le_refl _))
         clear hb HT4 HB4 HG4 F4)
      | (go_at_call 36; refine (P1.out _ HG5.out).mono ?_; rintro r w6 ⟨rfl, hb⟩
         have HT6 := Lib.hid (HT5.out.below hb (Nat.le_refl _))
         have HB6 := Lib.hid (HB5.out.trans (hb.mono HB5.out.size))
         have HG6 := Lib.hid (HG5.out.below hb (Nat.le_refl _))
         clear hb HT5 HB5 HG5 P1)
      | (go_at_call 36; refine (P2.out _ HG6.out).mono ?_; rintro r w7 ⟨rfl, hb⟩
         have HT7 := Lib.hid (HT6.out.below hb (Nat.le_refl _))
         have HB7 := Lib.hid (HB6.out.trans (hb.mono HB6.out.size))
         have HG7 := Lib.hid (HG6.out.below hb (Nat.le_refl _))
         clear hb HT6 HB6 HG6 P2)
      | (go_at_call 20; refine (HL.out _ HT7.out).mono ?_; rintro r w8 ⟨va, rfl, hva, hb⟩
         have HT8 := Lib.hid (HT7.out.below hb (Nat.le_refl _))
         have HB8 := Lib.hid (HB7.out.trans (hb.mono HB7.out.size))
         have HG8 := Lib.hid (HG7.out.below hb (Nat.le_refl _))
         obtain ⟨vo, vcap, rfl, _, _, _⟩ := id hva
         have HVA := Lib.hid hva
         clear hva
         clear hb HT7 HB7 HG7 HL)
      | (go_at_call 23; refine (HS.out _ _ HB8.out HVA.out).mono ?_; rintro r w9 ⟨hb, rfl⟩
         have HT9 := Lib.hid (HT8.out.below hb (Nat.le_refl _))
         have HB9 := Lib.hid (HB8.out.trans (hb.mono HB8.out.size))
         have HG9 := Lib.hid (HG8.out.below hb (Nat.le_refl _))
         clear hb HT8 HB8 HG8 HS)
      | (go_at_call 33; refine (works_any _ HG9.out).mono ?_; rintro r w10 ⟨rfl, hb⟩
         have HB10 := Lib.hid (HB9.out.trans (hb.mono HB9.out.size))
         clear hb HB9 HG9))
    go_ret
    exact ⟨rfl, HB10.out⟩
  · go_enter Tryz.func6, Tryz.ntmps6
    go_wp2_with (first
      | (go_at_call 32; refine Hof.out.mono ?_; rintro r w1 ⟨_, h2, hb⟩; obtain rfl := h2 hc0
         have HG1 := Lib.hid (Hg.out.below hb (Nat.le_refl _))
         have HB1 := Lib.hid hb
         clear h2 hb)
      | (go_at_call 33; refine (works_any _ HG1.out).mono ?_; rintro r w2 ⟨rfl, hb⟩
         have HB2 := Lib.hid (HB1.out.trans (hb.mono HB1.out.size))
         clear hb HB1 HG1))
    go_ret
    exact ⟨rfl, HB2.out⟩
end Go.Proofs.YtdkodedocklmdaaGreatDoor
