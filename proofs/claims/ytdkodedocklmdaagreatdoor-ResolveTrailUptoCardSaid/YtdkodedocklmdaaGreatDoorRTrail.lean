/- The walk of ResolveTrail. -/
import Derived.Test.YtdkodedocklmdaaGreatDoorSLaw
import Derived.Test.YtdkodedocklmdaaGreatDoorAWay
set_option linter.unusedSimpArgs false
set_option linter.unusedVariables false
namespace Go.Proofs.YtdkodedocklmdaaGreatDoor
open Go.RowKit Go.Shelf Go.Maps
open Go.Lib hiding intOf size_eq
def trL (L : List Ent) (way : List UInt8) : List (List UInt8) := match wayF L false way with
  | .error _ => []
  | .ok (_, t) => t
/-- a list of texts of a call's own -/
def Held (w : World) (base : Nat) (v : Value) (l : List (List UInt8)) : Prop := Texts w base v l ∧ (l.length = 0 → v = .slice none 0 0)
theorem Held.below {w w' : World} {B base : Nat} {v : Value} {l : List (List UInt8)} (h : Held w base v l) (hb : Below B w w') (hB : w.heap.size ≤ B) : Held w' base v l := ⟨texts_below_any h.1 hb hB, h.2⟩
theorem Held.row {w : World} {base b2 : Nat} {v : Value} {l : List (List UInt8)} (h : Held w base v l) (hb : b2 ≤ base) : RowX w b2 v l.length (l.map encS) := ⟨texts_mono h.1 hb, h.2⟩
theorem Held.block {w : World} {base b : Nat} {v : Value} {l : List (List UInt8)} (h : Held w base v l) (hb : v.ownBlock = some b) : base ≤ b ∧ b < w.heap.size := by
  obtain ⟨h1, cur, h2⟩ := row_type h.1 hb
  exact ⟨h1, heap_lt h2⟩
theorem Held.val {w : World} {base : Nat} {v : Value} {l : List (List UInt8)} (h : Held w base v l) : ∃ o cap, v = .slice o l.length cap := by
  obtain ⟨o, cap, hv, _⟩ := (h.row (Nat.le_refl base)).val
  exact ⟨o, cap, hv⟩
theorem trL_len {L : List Ent} (hL : Good L) (s : ByteArray) (hs : s.size ≤ 1048576) : (trL L s.data.toList).length ≤ 1052576 := by
  unfold trL
  cases h : wayF L false s.data.toList with
  | error n => simp
  | ok x =>
    obtain ⟨p, t⟩ := x
    have h1 := (wayF_ends hL h).2.1
    have h2 := pieces_count s
    simp only []
    omega
theorem trail_all {T rt rm : Nat} {nd : List Nd} (s : ByteArray) (w : World) (ht : TreeAt w T rt rm 0 nd) (hs : s.size ≤ 4294967296) :
    Calls Tryz.prog 38 #[.pointer (some ⟨T, 0, none⟩), .string s] w fun r w' => Below w.heap.size w w' ∧ ∃ v, r = .returned (.tuple #[v, errV (findN (wayF (ents nd) false s.data.toList))]) ∧ Held w' w.heap.size v (trL (ents nd) s.data.toList) :=
  (trail_way s w ht hs).mono fun r w' ⟨hb, h⟩ => by
    refine ⟨hb, ?_⟩
    unfold trL
    cases hx : wayF (ents nd) false s.data.toList with
    | error n =>
      rw [hx] at h
      exact ⟨_, h, World.ownsRow_nil _ _ _ _, fun _ => rfl⟩
    | ok x =>
      obtain ⟨p, t⟩ := x
      rw [hx] at h
      obtain ⟨v, h1, h2⟩ := h
      refine ⟨v, h1, h2, fun h0 => ?_⟩
      have := (wayF_ends ht.good hx).1
      simp only [] at h0
      omega
theorem rtrail_all (L : List Ent) (hgood : Good L) (v : Value) (s : ByteArray) (w : World) (hE : EntsAt w v L) (hlL : L.length ≤ 1099511627776) (hb : ∀ e ∈ L, e.p.size < 4611686018427387904) (hs : s.size ≤ 4294967296) :
    Calls Tryz.prog 37 #[v, .string s] w fun r w' => Below w.heap.size w w' ∧ ∃ tv, r = .returned (.tuple #[tv, .int .i64 (findN (wayF L false s.data.toList))]) ∧ Held w' w.heap.size tv (trL L s.data.toList) :=
  (rtrail_any L hgood v s w hE hlL hb hs).mono fun r w' ⟨hb, tv, h1, h2, h3⟩ => by
    refine ⟨hb, tv, h1, ?_⟩
    unfold trL
    cases hx : wayF L false s.data.toList with
    | error n =>
      rw [h3 ⟨n, hx⟩]
      exact ⟨World.ownsRow_nil _ _ _ _, fun _ => rfl⟩
    | ok x =>
      obtain ⟨p, t⟩ := x
      refine ⟨h2 p t hx, fun h0 => ?_⟩
      have := (wayF_ends hgood hx).1
      simp only [] at h0
      omega
theorem four_get {α : Type} {a b c d x : α} {j : Nat} (h : [a, b, c, d][j]? = some x) : (j = 0 ∧ x = a) ∨ (j = 1 ∧ x = b) ∨ (j = 2 ∧ x = c) ∨ (j = 3 ∧ x = d) := by
  match j, h with
  | 0, h => exact .inl ⟨rfl, by injection h with h; exact h.symm⟩
  | 1, h => exact .inr (.inl ⟨rfl, by injection h with h; exact h.symm⟩)
  | 2, h => exact .inr (.inr (.inl ⟨rfl, by injection h with h; exact h.symm⟩))
  | 3, h => exact .inr (.inr (.inr ⟨rfl, by injection h with h; exact h.symm⟩))
  | j + 4, h => simp at h
/-- four lists of their own lie apart -/
theorem apart_four {w : World} {base b1 b2 b3 b4 : Nat} {va vb vc vd : Value} {la lb lc ld : List (List UInt8)} (ha : Held w b1 va la) (hb : Held w b2 vb lb) (hc : Held w b3 vc lc) (hd : Held w b4 vd ld) (h0 : base ≤ b1)
    (h1 : ∀ b, va.ownBlock = some b → b < b2) (h2 : b1 ≤ b2) (h3 : ∀ b, vb.ownBlock = some b → b < b3) (h4 : b2 ≤ b3) (h5 : ∀ b, vc.ownBlock = some b → b < b4) (h6 : b3 ≤ b4) :
    ApD [(va, la.length), (vb, lb.length), (vc, lc.length), (vd, ld.length)] ∧ ∀ (j : Nat) (v : Value) (n : Nat), [(va, la.length), (vb, lb.length), (vc, lc.length), (vd, ld.length)][j]? = some (v, n) → ∃ xs, RowX w base v n xs := by
  have lo : ∀ {v : Value} {l : List (List UInt8)} {bb : Nat}, Held w bb v l → ∀ b, v.ownBlock = some b → bb ≤ b := fun h b hb => (h.block hb).1
  refine ⟨fun j k v n v' n' hjk hj hk b hv hv' => ?_, fun j v n hj => ?_⟩
  · rcases four_get hj with ⟨e, e2⟩ | ⟨e, e2⟩ | ⟨e, e2⟩ | ⟨e, e2⟩ <;> rcases four_get hk with ⟨f, f2⟩ | ⟨f, f2⟩ | ⟨f, f2⟩ | ⟨f, f2⟩ <;> injection e2 with e2 _ <;> injection f2 with f2 _ <;> subst e2 <;> subst f2 <;> subst e <;> subst f
    all_goals first
      | exact absurd rfl hjk
      | skip
    · have := h1 b hv; have := lo hb b hv'; omega
    · have := h1 b hv; have := lo hc b hv'; omega
    · have := h1 b hv; have := lo hd b hv'; omega
    · have := h1 b hv'; have := lo hb b hv; omega
    · have := h3 b hv; have := lo hc b hv'; omega
    · have := h3 b hv; have := lo hd b hv'; omega
    · have := h1 b hv'; have := lo hc b hv; omega
    · have := h3 b hv'; have := lo hc b hv; omega
    · have := h5 b hv; have := lo hd b hv'; omega
    · have := h1 b hv'; have := lo hd b hv; omega
    · have := h3 b hv'; have := lo hd b hv; omega
    · have := h5 b hv'; have := lo hd b hv; omega
  · rcases four_get hj with ⟨e, e2⟩ | ⟨e, e2⟩ | ⟨e, e2⟩ | ⟨e, e2⟩ <;> injection e2 with e2 e3 <;> subst e2 <;> subst e3
    · exact ⟨_, ha.row h0⟩
    · exact ⟨_, hb.row (by omega)⟩
    · exact ⟨_, hc.row (by omega)⟩
    · exact ⟨_, hd.row (by omega)⟩
set_option maxRecDepth 100000 in
set_option maxHeartbeats 8000000 in
theorem resolveTrail_any (v : Value) (L : List Ent) (s t : ByteArray) (w : World) (h : EntsAt w v L) (hb : Small L) (hl : L.length ≤ 1099511627776) (hs : s.size ≤ 1048576) (ht : t.size ≤ 1048576) (hg : Handle w) :
    Calls Tryz.prog 7 #[v, .string s, .string t] w fun r w' => r = .returned (.bool true) ∧ Below w.heap.size w w' := by
  have hof := of_any v L w h hb hl
  have hE := h
  obtain ⟨o, cap, rfl, _, _, _⟩ := h
  have Hof := Lib.hid hof
  have Hg := Lib.hid hg
  have HE := Lib.hid hE
  have Hb := Lib.hid hb
  obtain ⟨n, hn⟩ : ∃ n, n = L.length := ⟨_, rfl⟩
  rw [← hn] at Hof ⊢
  have Hn := Lib.hid hn
  have Hl := Lib.hid hl
  clear hof hg hb hE hn hl
  by_cases hc0 : (checkL L).1 = 0
  · go_enter Tryz.func7, Tryz.ntmps7
    go_upto_region 4 with (first
      | (go_at_call 32; refine Hof.out.mono ?_; rintro r w1 ⟨h1, _, hb⟩; obtain ⟨T, rt, rm, nd, rfl, ht, he⟩ := h1 hc0
         have HG1 := Lib.hid (Hg.out.below hb (Nat.le_refl _))
         have HT1 := Lib.hid (ht.lower (Nat.zero_le _))
         have HE1 := Lib.hid (HE.out.below hb (Nat.le_refl _))
         have He := Lib.hid he
         have HB1 := Lib.hid hb
         clear h1 hb ht he))
    have hgood := check_good HT1.out He.out
    have hls := trL_len hgood s hs
    have hlt := trL_len hgood t ht
    have L1 : trL L s.data.toList = trL L s.data.toList := rfl
    have R1 := Lib.hid (fun W (hW : Below w1.heap.size w1 W) => rtrail_all L hgood (.slice o n cap) s W (by rw [Hn.out]; exact HE1.out.below hW (Nat.le_refl _)) Hl.out (fun e he => by have := (Hb.out e he).1; omega) (by omega))
    have R2 := Lib.hid (fun W (hW : Below w1.heap.size w1 W) => rtrail_all L hgood (.slice o n cap) t W (by rw [Hn.out]; exact HE1.out.below hW (Nat.le_refl _)) Hl.out (fun e he => by have := (Hb.out e he).1; omega) (by omega))
    have F1 := Lib.hid (fun W (hW : Below w1.heap.size w1 W) => trail_all s W (HT1.out.below hW (Nat.le_refl _)) (by omega))
    have F2 := Lib.hid (fun W (hW : Below w1.heap.size w1 W) => trail_all t W (HT1.out.below hW (Nat.le_refl _)) (by omega))
    have P1 := Lib.hid (fun W (hW : Below w1.heap.size w1 W) => plain_same (findN (wayF L false s.data.toList)) W findN_small (HG1.out.below hW (Nat.le_refl _)))
    have P2 := Lib.hid (fun W (hW : Below w1.heap.size w1 W) => plain_same (findN (wayF L false t.data.toList)) W findN_small (HG1.out.below hW (Nat.le_refl _)))
    have HS := Lib.hid (fun va W (hW : Below w1.heap.size w1 W) (ha : EntsAt W va L) => same_any va (.slice o n cap) L W ha (by rw [Hn.out]; exact HE1.out.below hW (Nat.le_refl _)) Hl.out)
    have HL := Lib.hid (fun W (hW : Below w1.heap.size w1 W) => (list_any W (HT1.out.below hW (Nat.le_refl _))).mono (fun e w' h => show ∃ va, e = .returned va ∧ EntsAt w' va L ∧ Below W.heap.size W w' from by
      obtain ⟨va, h1, h2, h3⟩ := h
      exact ⟨va, h1, by rw [← He.out]; exact ents_of_row h2, h3⟩))
    have HW := Lib.hid (fun W (hW : Below w1.heap.size w1 W) => works_any W (HG1.out.below hW (Nat.le_refl _)))
    rw [He.out] at F1 F2
    clear L1
    generalize trL L s.data.toList = l1 at *
    generalize trL L t.data.toList = l2 at *
    generalize findN (wayF L false s.data.toList) = n1 at *
    generalize findN (wayF L false t.data.toList) = n2 at *
    generalize he1 : errV n1 = e1 at *
    generalize he2 : errV n2 = e2 at *
    clear hgood hc0 he1 he2
    have P1a := Lib.hid P1.out
    have P1b := Lib.hid P1.out
    have P2c := Lib.hid P2.out
    have P1d := Lib.hid P1.out
    have F1a := Lib.hid F1.out
    have F1b := Lib.hid F1.out
    have F1d := Lib.hid F1.out
    have TT := fun (l : List (List UInt8)) (hl : l.length ≤ 1052576) => fun (W : World) (va vb : Value) (ba bb : Nat) (h1 : Texts W ba va l) (h2 : Texts W bb vb l) => sameT_any va vb l W ba bb h1 h2 (by omega)
    have TA := Lib.hid (TT l1 hls)
    have TB := Lib.hid (TT l1 hls)
    have TC := Lib.hid (TT l2 hlt)
    have TD := Lib.hid (TT l1 hls)
    have HL1 := Lib.hid HL.out
    have HL2 := Lib.hid HL.out
    have HS1 := Lib.hid HS.out
    have HS2 := Lib.hid HS.out
    clear TT P1 P2 F1 HL HS
    go_upto_region 14 with (first
      | (go_at_call 37; refine (R1.out w1 (Below.refl _ _)).mono ?_; rintro r w2 ⟨hb, vX, rfl, hh⟩
         have Hk2 := Lib.hid (hb)
         obtain ⟨oX, cX, rfl⟩ := hh.val
         have X2 := Lib.hid hh
         have ZX := Lib.hid (show ∀ b, Value.ownBlock (.slice oX _ cX) = some b → b < w2.heap.size from fun b hb2 => (hh.block hb2).2)
         have SX : w1.heap.size ≤ w2.heap.size := hb.size
         clear hb hh R1)
      | (go_at_call 37; refine (R2.out w2 Hk2.out).mono ?_; rintro r w3 ⟨hb, vY, rfl, hh⟩
         have Hk3 := Lib.hid (Hk2.out.trans (hb.mono Hk2.out.size))
         have X3 := Lib.hid (X2.out.below hb (Nat.le_refl _))
         obtain ⟨oY, cY, rfl⟩ := hh.val
         have Y3 := Lib.hid hh
         have ZY := Lib.hid (show ∀ b, Value.ownBlock (.slice oY _ cY) = some b → b < w3.heap.size from fun b hb2 => (hh.block hb2).2)
         have SY : w2.heap.size ≤ w3.heap.size := hb.size
         clear hb hh R2 X2)
      | (go_at_call 38; refine (F1a.out w3 Hk3.out).mono ?_; rintro r w4 ⟨hb, vA, rfl, hh⟩
         have Hk4 := Lib.hid (Hk3.out.trans (hb.mono Hk3.out.size))
         have X4 := Lib.hid (X3.out.below hb (Nat.le_refl _))
         have Y4 := Lib.hid (Y3.out.below hb (Nat.le_refl _))
         obtain ⟨oA, cA, rfl⟩ := hh.val
         have A4 := Lib.hid hh
         have ZA := Lib.hid (show ∀ b, Value.ownBlock (.slice oA _ cA) = some b → b < w4.heap.size from fun b hb2 => (hh.block hb2).2)
         have SA : w3.heap.size ≤ w4.heap.size := hb.size
         clear hb hh F1a X3 Y3)
      | (go_at_call 38; refine (F1b.out w4 Hk4.out).mono ?_; rintro r w5 ⟨hb, vB, rfl, hh⟩
         have Hk5 := Lib.hid (Hk4.out.trans (hb.mono Hk4.out.size))
         have X5 := Lib.hid (X4.out.below hb (Nat.le_refl _))
         have Y5 := Lib.hid (Y4.out.below hb (Nat.le_refl _))
         have A5 := Lib.hid (A4.out.below hb (Nat.le_refl _))
         obtain ⟨oB, cB, rfl⟩ := hh.val
         have B5 := Lib.hid hh
         have ZB := Lib.hid (show ∀ b, Value.ownBlock (.slice oB _ cB) = some b → b < w5.heap.size from fun b hb2 => (hh.block hb2).2)
         have SB : w4.heap.size ≤ w5.heap.size := hb.size
         clear hb hh F1b X4 Y4 A4)
      | (go_at_call 38; refine (F2.out w5 Hk5.out).mono ?_; rintro r w6 ⟨hb, vC, rfl, hh⟩
         have Hk6 := Lib.hid (Hk5.out.trans (hb.mono Hk5.out.size))
         have X6 := Lib.hid (X5.out.below hb (Nat.le_refl _))
         have Y6 := Lib.hid (Y5.out.below hb (Nat.le_refl _))
         have A6 := Lib.hid (A5.out.below hb (Nat.le_refl _))
         have B6 := Lib.hid (B5.out.below hb (Nat.le_refl _))
         obtain ⟨oC, cC, rfl⟩ := hh.val
         have C6 := Lib.hid hh
         have ZC := Lib.hid (show ∀ b, Value.ownBlock (.slice oC _ cC) = some b → b < w6.heap.size from fun b hb2 => (hh.block hb2).2)
         have SC : w5.heap.size ≤ w6.heap.size := hb.size
         clear hb hh F2 X5 Y5 A5 B5)
      | (go_at_call 38; refine (F1d.out w6 Hk6.out).mono ?_; rintro r w7 ⟨hb, vD, rfl, hh⟩
         have Hk7 := Lib.hid (Hk6.out.trans (hb.mono Hk6.out.size))
         have X7 := Lib.hid (X6.out.below hb (Nat.le_refl _))
         have Y7 := Lib.hid (Y6.out.below hb (Nat.le_refl _))
         have A7 := Lib.hid (A6.out.below hb (Nat.le_refl _))
         have B7 := Lib.hid (B6.out.below hb (Nat.le_refl _))
         have C7 := Lib.hid (C6.out.below hb (Nat.le_refl _))
         obtain ⟨oD, cD, rfl⟩ := hh.val
         have D7 := Lib.hid hh
         have ZD := Lib.hid (show ∀ b, Value.ownBlock (.slice oD _ cD) = some b → b < w7.heap.size from fun b hb2 => (hh.block hb2).2)
         have SD : w6.heap.size ≤ w7.heap.size := hb.size
         clear hb hh F1d X6 Y6 A6 B6 C6)
      | (go_at_call 36; refine (P1a.out w7 Hk7.out).mono ?_; rintro r w8 ⟨rfl, hb⟩
         have Hk8 := Lib.hid (Hk7.out.trans (hb.mono Hk7.out.size))
         have X8 := Lib.hid (X7.out.below hb (Nat.le_refl _))
         have Y8 := Lib.hid (Y7.out.below hb (Nat.le_refl _))
         have A8 := Lib.hid (A7.out.below hb (Nat.le_refl _))
         have B8 := Lib.hid (B7.out.below hb (Nat.le_refl _))
         have C8 := Lib.hid (C7.out.below hb (Nat.le_refl _))
         have D8 := Lib.hid (D7.out.below hb (Nat.le_refl _))
         clear hb P1a X7 Y7 A7 B7 C7 D7)
      | (go_at_call 36; refine (P1b.out w8 Hk8.out).mono ?_; rintro r w9 ⟨rfl, hb⟩
         have Hk9 := Lib.hid (Hk8.out.trans (hb.mono Hk8.out.size))
         have X9 := Lib.hid (X8.out.below hb (Nat.le_refl _))
         have Y9 := Lib.hid (Y8.out.below hb (Nat.le_refl _))
         have A9 := Lib.hid (A8.out.below hb (Nat.le_refl _))
         have B9 := Lib.hid (B8.out.below hb (Nat.le_refl _))
         have C9 := Lib.hid (C8.out.below hb (Nat.le_refl _))
         have D9 := Lib.hid (D8.out.below hb (Nat.le_refl _))
         clear hb P1b X8 Y8 A8 B8 C8 D8)
      | (go_at_call 36; refine (P2c.out w9 Hk9.out).mono ?_; rintro r w10 ⟨rfl, hb⟩
         have Hk10 := Lib.hid (Hk9.out.trans (hb.mono Hk9.out.size))
         have X10 := Lib.hid (X9.out.below hb (Nat.le_refl _))
         have Y10 := Lib.hid (Y9.out.below hb (Nat.le_refl _))
         have A10 := Lib.hid (A9.out.below hb (Nat.le_refl _))
         have B10 := Lib.hid (B9.out.below hb (Nat.le_refl _))
         have C10 := Lib.hid (C9.out.below hb (Nat.le_refl _))
         have D10 := Lib.hid (D9.out.below hb (Nat.le_refl _))
         clear hb P2c X9 Y9 A9 B9 C9 D9)
      | (go_at_call 36; refine (P1d.out w10 Hk10.out).mono ?_; rintro r w11 ⟨rfl, hb⟩
         have Hk11 := Lib.hid (Hk10.out.trans (hb.mono Hk10.out.size))
         have X11 := Lib.hid (X10.out.below hb (Nat.le_refl _))
         have Y11 := Lib.hid (Y10.out.below hb (Nat.le_refl _))
         have A11 := Lib.hid (A10.out.below hb (Nat.le_refl _))
         have B11 := Lib.hid (B10.out.below hb (Nat.le_refl _))
         have C11 := Lib.hid (C10.out.below hb (Nat.le_refl _))
         have D11 := Lib.hid (D10.out.below hb (Nat.le_refl _))
         clear hb P1d X10 Y10 A10 B10 C10 D10)
      | (go_at_call 39; refine (TA.out w11 _ _ _ _ A11.out.1 X11.out.1).mono ?_; rintro r w12 ⟨hb, rfl⟩
         have Hk12 := Lib.hid (Hk11.out.trans (hb.mono Hk11.out.size))
         have X12 := Lib.hid (X11.out.below hb (Nat.le_refl _))
         have Y12 := Lib.hid (Y11.out.below hb (Nat.le_refl _))
         have A12 := Lib.hid (A11.out.below hb (Nat.le_refl _))
         have B12 := Lib.hid (B11.out.below hb (Nat.le_refl _))
         have C12 := Lib.hid (C11.out.below hb (Nat.le_refl _))
         have D12 := Lib.hid (D11.out.below hb (Nat.le_refl _))
         clear hb TA X11 Y11 A11 B11 C11 D11)
      | (go_at_call 39; refine (TB.out w12 _ _ _ _ B12.out.1 X12.out.1).mono ?_; rintro r w13 ⟨hb, rfl⟩
         have Hk13 := Lib.hid (Hk12.out.trans (hb.mono Hk12.out.size))
         have X13 := Lib.hid (X12.out.below hb (Nat.le_refl _))
         have Y13 := Lib.hid (Y12.out.below hb (Nat.le_refl _))
         have A13 := Lib.hid (A12.out.below hb (Nat.le_refl _))
         have B13 := Lib.hid (B12.out.below hb (Nat.le_refl _))
         have C13 := Lib.hid (C12.out.below hb (Nat.le_refl _))
         have D13 := Lib.hid (D12.out.below hb (Nat.le_refl _))
         clear hb TB X12 Y12 A12 B12 C12 D12)
      | (go_at_call 39; refine (TC.out w13 _ _ _ _ C13.out.1 Y13.out.1).mono ?_; rintro r w14 ⟨hb, rfl⟩
         have Hk14 := Lib.hid (Hk13.out.trans (hb.mono Hk13.out.size))
         have X14 := Lib.hid (X13.out.below hb (Nat.le_refl _))
         have Y14 := Lib.hid (Y13.out.below hb (Nat.le_refl _))
         have A14 := Lib.hid (A13.out.below hb (Nat.le_refl _))
         have B14 := Lib.hid (B13.out.below hb (Nat.le_refl _))
         have C14 := Lib.hid (C13.out.below hb (Nat.le_refl _))
         have D14 := Lib.hid (D13.out.below hb (Nat.le_refl _))
         clear hb TC X13 Y13 A13 B13 C13 D13)
      | (go_at_call 39; refine (TD.out w14 _ _ _ _ D14.out.1 X14.out.1).mono ?_; rintro r w15 ⟨hb, rfl⟩
         have Hk15 := Lib.hid (Hk14.out.trans (hb.mono Hk14.out.size))
         have X15 := Lib.hid (X14.out.below hb (Nat.le_refl _))
         have Y15 := Lib.hid (Y14.out.below hb (Nat.le_refl _))
         have A15 := Lib.hid (A14.out.below hb (Nat.le_refl _))
         have B15 := Lib.hid (B14.out.below hb (Nat.le_refl _))
         have C15 := Lib.hid (C14.out.below hb (Nat.le_refl _))
         have D15 := Lib.hid (D14.out.below hb (Nat.le_refl _))
         clear hb TD X14 Y14 A14 B14 C14 D14)
      | (go_at_call 20; refine (HL1.out w15 Hk15.out).mono ?_; rintro r w16 ⟨va, rfl, hva, hb⟩
         have Hk16 := Lib.hid (Hk15.out.trans (hb.mono Hk15.out.size))
         have X16 := Lib.hid (X15.out.below hb (Nat.le_refl _))
         have Y16 := Lib.hid (Y15.out.below hb (Nat.le_refl _))
         have A16 := Lib.hid (A15.out.below hb (Nat.le_refl _))
         have B16 := Lib.hid (B15.out.below hb (Nat.le_refl _))
         have C16 := Lib.hid (C15.out.below hb (Nat.le_refl _))
         have D16 := Lib.hid (D15.out.below hb (Nat.le_refl _))
         obtain ⟨vo, vcap, rfl, _, _, _⟩ := id hva
         have HVA := Lib.hid hva
         clear hb hva HL1 X15 Y15 A15 B15 C15 D15)
      | (go_at_call 23; refine (HS1.out _ w16 Hk16.out HVA.out).mono ?_; rintro r w17 ⟨hb, rfl⟩
         have Hk17 := Lib.hid (Hk16.out.trans (hb.mono Hk16.out.size))
         have X17 := Lib.hid (X16.out.below hb (Nat.le_refl _))
         have Y17 := Lib.hid (Y16.out.below hb (Nat.le_refl _))
         have A17 := Lib.hid (A16.out.below hb (Nat.le_refl _))
         have B17 := Lib.hid (B16.out.below hb (Nat.le_refl _))
         have C17 := Lib.hid (C16.out.below hb (Nat.le_refl _))
         have D17 := Lib.hid (D16.out.below hb (Nat.le_refl _))
         clear hb HVA HS1 X16 Y16 A16 B16 C16 D16))
    have hfour := apart_four (base := w1.heap.size) (A17.out.below ((Below.refl w17.heap.size w17).alloc (Nat.le_refl _) (.cells #[.slice oA l1.length cA, .slice oB l1.length cB, .slice oC l2.length cC, .slice oD l1.length cD] 70)) (Nat.le_refl _)) (B17.out.below ((Below.refl w17.heap.size w17).alloc (Nat.le_refl _) (.cells #[.slice oA l1.length cA, .slice oB l1.length cB, .slice oC l2.length cC, .slice oD l1.length cD] 70)) (Nat.le_refl _)) (C17.out.below ((Below.refl w17.heap.size w17).alloc (Nat.le_refl _) (.cells #[.slice oA l1.length cA, .slice oB l1.length cB, .slice oC l2.length cC, .slice oD l1.length cD] 70)) (Nat.le_refl _)) (D17.out.below ((Below.refl w17.heap.size w17).alloc (Nat.le_refl _) (.cells #[.slice oA l1.length cA, .slice oB l1.length cB, .slice oC l2.length cC, .slice oD l1.length cD] 70)) (Nat.le_refl _)) (by omega) ZA.out SA ZB.out SB ZC.out SC
    have hsz := Hk17.out.size
    have hap := apartTexts_any [(.slice oA l1.length cA, l1.length), (.slice oB l1.length cB, l1.length), (.slice oC l2.length cC, l2.length), (.slice oD l1.length cD, l1.length)] w17.heap.size w1.heap.size 4 (w17.alloc (.cells #[.slice oA l1.length cA, .slice oB l1.length cB, .slice oC l2.length cC, .slice oD l1.length cD] 70)) (by simp) (by simp) (by decide) (by rw [World.size_alloc]; omega) (World.alloc_heap_new _ _) hfour.2 hfour.1 (fun j v n hj => by
      rcases four_get hj with ⟨_, e⟩ | ⟨_, e⟩ | ⟨_, e⟩ | ⟨_, e⟩ <;> injection e with _ e <;> omega)
    have Hap := Lib.hid hap
    have Hkk := Lib.hid (Hk17.out.alloc Hk17.out.size (.cells #[.slice oA l1.length cA, .slice oB l1.length cB, .slice oC l2.length cC, .slice oD l1.length cD] 70))
    clear hfour hap ZA ZB ZC ZD ZX ZY
    go_wp2_with (first
      | (go_at_call 40; refine Hap.out.mono ?_; rintro r wa ⟨rfl, hb⟩
         have Hka := Lib.hid (Hkk.out.trans hb)
         clear hb Hap)
      | (go_at_call 20; refine (HL2.out wa Hka.out).mono ?_; rintro r wb ⟨va, rfl, hva, hb⟩
         have Hkb := Lib.hid (Hka.out.trans (hb.mono Hka.out.size))
         obtain ⟨vo2, vcap2, rfl, _, _, _⟩ := id hva
         have HVB := Lib.hid hva
         clear hb hva HL2)
      | (go_at_call 23; refine (HS2.out _ wb Hkb.out HVB.out).mono ?_; rintro r wc ⟨hb, rfl⟩
         have Hkc := Lib.hid (Hkb.out.trans (hb.mono Hkb.out.size))
         clear hb HVB HS2)
      | (go_at_call 33; refine (HW.out wc Hkc.out).mono ?_; rintro r wd ⟨rfl, hb⟩
         have Hkd := Lib.hid (Hkc.out.trans (hb.mono Hkc.out.size))
         clear hb HW))
    go_ret
    exact ⟨rfl, HB1.out.trans (Hkd.out.mono HB1.out.size)⟩
  · go_enter Tryz.func7, Tryz.ntmps7
    go_wp2_with (first
      | (go_at_call 32; refine Hof.out.mono ?_; rintro r w1 ⟨_, h2, hb⟩; obtain rfl := h2 hc0
         have HG1 := Lib.hid (Hg.out.below hb (Nat.le_refl _))
         have HB1 := Lib.hid hb
         clear h2 hb)
      | (go_at_call 33; refine (works_any _ HG1.out).mono ?_; rintro r w2 ⟨rfl, hb⟩
         have HB2 := Lib.hid (HB1.out.trans (hb.mono HB1.out.size))
         clear hb HB1 HG1))
    go_ret
    exact ⟨rfl, HB2.out⟩
end Go.Proofs.YtdkodedocklmdaaGreatDoor
