/- StrataWays: walks() is true; the walk. -/
import Derived.Test.YtdkodedocklmdaaGreatZTop
import Derived.Test.YtdkodedocklmdaaGreatZAdd
import Derived.Test.YtdkodedocklmdaaGreatQKit
import Derived.Deep.DeepCutAuto
set_option linter.unusedSimpArgs false
set_option linter.unusedVariables false
namespace Go.Proofs.YtdkodedocklmdaaGreat
open Go.RowKit Go.Shelf Go.Maps Go.Sort
open Go.Lib hiding intOf size_eq
/-- tree.Check -/
def fltV (n line at_ : Int) : Value := .iface 63 (.agg #[.int .i64 n, .int .i64 line, .int .i64 at_])
def errT (L : List Ent) : Value := if (checkL L).1 = 0 then .nilIface else fltV ((checkL L).1 : Int) 0 ((checkL L).2 : Int)
set_option maxRecDepth 100000 in
theorem tcheck_any (v : Value) (L : List Ent) (w : World) (h : EntsAt w v L) (hb : Small L) : Calls Tryz.prog 6 #[v] w fun r w' => r = .returned (errT L) ∧ Below w.heap.size w w' := by
  have H := Lib.hid (build_any v L w h hb)
  obtain ⟨o, cap, rfl, _, _, _⟩ := h
  unfold errT
  by_cases hc : (checkL L).1 = 0
  · rw [if_pos hc]
    go_enter Tryz.func6, Tryz.ntmps6
    go_wp2_with (go_at_call 17; refine H.out.mono ?_; rintro r w1 ⟨h1, h2, h3⟩; obtain ⟨T, rt, rm, nd, rfl, ht, he⟩ := h1 hc
                 have H3 := Lib.hid h3
                 clear h1 h2 h3 ht he)
    go_ret
    exact ⟨rfl, H3.out⟩
  · rw [if_neg hc]
    unfold fltV
    go_enter Tryz.func6, Tryz.ntmps6
    go_wp2_with (go_at_call 17; refine H.out.mono ?_; rintro r w1 ⟨h1, h2, h3⟩; obtain rfl := h2 hc
                 have H3 := Lib.hid h3
                 clear h1 h2 h3)
    go_ret
    exact ⟨rfl, H3.out⟩
/-- one tree beside a list -/
structure OneZ (w W : World) (T rt rm : Nat) (nd : List Nd) (v : Value) (L : List Ent) : Prop where
  t : TreeAt W T rt rm w.heap.size nd
  e0 : EntsAt w v L
  bel : Below w.heap.size w W
section
variable {w W W' : World} {T rt rm : Nat} {nd nd' : List Nd} {v : Value} {L : List Ent}
theorem OneZ.e (h : OneZ w W T rt rm nd v L) : EntsAt W v L := h.e0.below h.bel (Nat.le_refl _)
theorem OneZ.below (h : OneZ w W T rt rm nd v L) (hb : Below W.heap.size W W') : OneZ w W' T rt rm nd v L :=
  ⟨h.t.below hb (Nat.le_refl _), h.e0, h.bel.trans (hb.mono h.bel.size)⟩
theorem OneZ.turn (h : OneZ w W T rt rm nd v L) (ht : TreeAt W' T rt rm w.heap.size nd') (hx : Turned T rt rm nd nd' W W') : OneZ w W' T rt rm nd' v L :=
  ⟨ht, h.e0, h.bel.trans (hx.below h.t)⟩
theorem OneZ.find_ok (h : OneZ w W T rt rm nd v L) (s : ByteArray) (last : Bool) (hs : s.size ≤ 4294967296) {p : ByteArray} {t : List (List UInt8)} (hw : wayF (ents nd) (!last) s.data.toList = .ok (p.data.toList, t)) :
    Calls Tryz.prog 7 #[.pointer (some ⟨T, 0, none⟩), .string s, .bool last] W fun r w' => r = .returned (.tuple #[.string p, .nilIface]) ∧ OneZ w w' T rt rm nd v L :=
  (find_as s last W (h.t.lower (Nat.zero_le _)) hs hw).mono fun r w' ⟨a, b⟩ => ⟨by rw [b, bs_of], h.below a⟩
theorem OneZ.find_no (h : OneZ w W T rt rm nd v L) (s : ByteArray) (last : Bool) (hs : s.size ≤ 4294967296) {x : Nat} (hw : wayF (ents nd) (!last) s.data.toList = .error (x + 1)) :
    Calls Tryz.prog 7 #[.pointer (some ⟨T, 0, none⟩), .string s, .bool last] W fun r w' => r = .returned (.tuple #[.string ⟨#[]⟩, .iface 57 (.int .i64 ((x + 1 : Nat) : Int))]) ∧ OneZ w w' T rt rm nd v L :=
  (find_err s last W (h.t.lower (Nat.zero_le _)) hs hw).mono fun r w' ⟨a, b⟩ => ⟨b, h.below a⟩
theorem OneZ.make_ok (h : OneZ w W T rt rm nd v L) (s : ByteArray) (hs : s.size ≤ 4294967296) {p : ByteArray} {L' : List Ent} (hw : makeWay true (ents nd) s.data.toList = (L', .ok p.data.toList)) :
    Calls Tryz.prog 14 #[.pointer (some ⟨T, 0, none⟩), .string s] W fun r w' => r = .returned (.tuple #[.string p, .nilIface]) ∧ ∃ nd', ents nd' = L' ∧ OneZ w w' T rt rm nd' v L :=
  (Proofs.YtdkodedocklmdaaGreat.make_ok s W h.t hs hw).mono fun r w' ⟨a, nd', b, c, d⟩ => ⟨by rw [a, bs_of], nd', b, h.turn c d⟩
theorem OneZ.make_no (h : OneZ w W T rt rm nd v L) (s : ByteArray) (hs : s.size ≤ 4294967296) {x : Nat} {L' : List Ent} (hw : makeWay true (ents nd) s.data.toList = (L', .error (x + 1))) :
    Calls Tryz.prog 14 #[.pointer (some ⟨T, 0, none⟩), .string s] W fun r w' => r = .returned (.tuple #[.string ⟨#[]⟩, .iface 57 (.int .i64 ((x + 1 : Nat) : Int))]) ∧ ∃ nd', ents nd' = ents nd ∧ OneZ w w' T rt rm nd' v L :=
  (Proofs.YtdkodedocklmdaaGreat.make_no s W h.t hs hw).mono fun r w' ⟨a, nd', b, c, d⟩ => ⟨a, nd', b, h.turn c d⟩
theorem OneZ.place_ok (h : OneZ w W T rt rm nd v L) (s : ByteArray) (hs : s.size ≤ 4294967296) {p : ByteArray} {L' : List Ent} (hw : makeWay false (ents nd) s.data.toList = (L', .ok p.data.toList)) :
    Calls Tryz.prog 12 #[.pointer (some ⟨T, 0, none⟩), .string s] W fun r w' => r = .returned (.tuple #[.string p, .nilIface]) ∧ ∃ nd', ents nd' = L' ∧ OneZ w w' T rt rm nd' v L :=
  (Proofs.YtdkodedocklmdaaGreat.place_ok s W h.t hs hw).mono fun r w' ⟨a, nd', b, c, d⟩ => ⟨by rw [a, bs_of], nd', b, h.turn c d⟩
theorem OneZ.place_no (h : OneZ w W T rt rm nd v L) (s : ByteArray) (hs : s.size ≤ 4294967296) {x : Nat} {L' : List Ent} (hw : makeWay false (ents nd) s.data.toList = (L', .error (x + 1))) :
    Calls Tryz.prog 12 #[.pointer (some ⟨T, 0, none⟩), .string s] W fun r w' => r = .returned (.tuple #[.string ⟨#[]⟩, .iface 57 (.int .i64 ((x + 1 : Nat) : Int))]) ∧ ∃ nd', ents nd' = ents nd ∧ OneZ w w' T rt rm nd' v L :=
  (Proofs.YtdkodedocklmdaaGreat.place_no s W h.t hs hw).mono fun r w' ⟨a, nd', b, c, d⟩ => ⟨a, nd', b, h.turn c d⟩
theorem OneZ.list (h : OneZ w W T rt rm nd v L) :
    Calls Tryz.prog 11 #[.pointer (some ⟨T, 0, none⟩)] W fun r w' => ∃ o cap, r = .returned (.slice o (ents nd).length cap) ∧ EntsAt w' (.slice o (ents nd).length cap) (ents nd) ∧ OneZ w w' T rt rm nd v L :=
  (list_now h.t).mono fun r w' ⟨o, cap, a, b, c⟩ => ⟨o, cap, a, b.ents, h.below c⟩
end
/-! ## what the answers are -/
theorem here_size {L : List Ent} (hL : Good L) {p : List UInt8} {e : Ent} (h : lookE L p = some e) : p.length ≤ 255 := by
  have := checkNo_small (itselfNo_check (hL.it e (lookE_some h).1))
  rw [(lookE_some h).2] at this
  exact this
theorem find_cases {L : List Ent} (hL : Good L) (s : ByteArray) (keep : Bool) :
    (∃ p : ByteArray, p.size ≤ 255 ∧ straightP L p.data.toList ∧ kindT L p.data.toList ≠ 0 ∧ (keep = false → kindT L p.data.toList ≠ 3) ∧ ∃ t, wayF L keep s.data.toList = .ok (p.data.toList, t)) ∨ ∃ n, n ≠ 0 ∧ wayF L keep s.data.toList = .error n := by
  cases h : wayF L keep s.data.toList with
  | error n => exact .inr ⟨n, by rcases wayF_errs h with h | h | h <;> omega, rfl⟩
  | ok x =>
    obtain ⟨p, t⟩ := x
    obtain ⟨h1, h2, h3⟩ := find_strata hL h
    have hsz : p.length ≤ 255 := by
      rcases runF_inside hL _ _ _ _ _ _ _ (.inl rfl) h with hp | ⟨e, he, _⟩
      · rw [hp]; decide
      · exact here_size hL he
    have hb : (bs p).data.toList = p := by simp [bs]
    refine .inl ⟨bs p, by show (bs p).data.size ≤ 255; rw [← Array.length_toList, hb]; exact hsz, ?_⟩
    rw [hb]
    exact ⟨h1, h2, h3, t, rfl⟩
theorem place_cases {L : List Ent} (hL : Good L) (s : ByteArray) :
    (∃ (N : List Ent) (p : ByteArray), p.size ≤ 255 ∧ straightP N p.data.toList ∧ kindT N p.data.toList ≠ 3 ∧ Good N ∧ L.Sublist N ∧ makeWay false L s.data.toList = (N, .ok p.data.toList)) ∨ ∃ n, n ≠ 0 ∧ ∃ N, makeWay false L s.data.toList = (N, .error n) := by
  cases h : makeWay false L s.data.toList with
  | mk N x =>
    cases x with
    | error n => exact .inr ⟨n, (makeWay_err h).2, N, rfl⟩
    | ok p =>
      obtain ⟨h1, h2, h3, h4⟩ := place_strata hL h
      have hsz : p.length ≤ 255 := by
        unfold makeWay at h
        cases hR : makeF false (needF (pieces s.data.toList).length 0) L [] (pieces s.data.toList) 0 [] with
        | mk L1 R =>
          obtain ⟨md, x⟩ := R
          rw [hR] at h
          cases x with
          | error n => injection h with _ h; cases h
          | ok q =>
            injection h with e1 h; injection h with e2
            subst e1 e2
            have hok := makeF_ok _ _ _ _ _ _ hR
            by_cases h0 : q = []
            · rw [h0]; decide
            · cases hl : lookE L1 q with
              | some e => exact here_size h1 hl
              | none => exact checkNo_small (hok.new hL (.inl rfl) h0 hl)
      have hb : (bs p).data.toList = p := by simp [bs]
      refine .inl ⟨N, bs p, by show (bs p).data.size ≤ 255; rw [← Array.length_toList, hb]; exact hsz, ?_⟩
      rw [hb]
      exact ⟨h2, h3, h1, h4, rfl⟩
theorem made_cases {L : List Ent} (hL : Good L) (s : ByteArray) :
    (∃ (N : List Ent) (p : ByteArray), p.size ≤ 255 ∧ straightP N p.data.toList ∧ kindT N p.data.toList = 1 ∧ Good N ∧ L.Sublist N ∧ (∃ t, wayF N false s.data.toList = .ok (p.data.toList, t)) ∧ (∀ (q : ByteArray) t, wayF L false s.data.toList = .ok (q.data.toList, t) → q = p) ∧ makeWay true L s.data.toList = (N, .ok p.data.toList)) ∨ ∃ n, n ≠ 0 ∧ ∃ N, makeWay true L s.data.toList = (N, .error n) := by
  cases h : makeWay true L s.data.toList with
  | mk N x =>
    cases x with
    | error n => exact .inr ⟨n, (makeWay_err h).2, N, rfl⟩
    | ok p =>
      obtain ⟨h1, h2, h3, h4, ⟨t, h5⟩, h6⟩ := make_strata hL h
      have hsz : p.length ≤ 255 := by
        rcases runF_inside h1 _ _ _ _ _ _ _ (.inl rfl) h5 with hp | ⟨e, he, _⟩
        · rw [hp]; decide
        · exact here_size h1 he
      have hb : (bs p).data.toList = p := by simp [bs]
      refine .inl ⟨N, bs p, by show (bs p).data.size ≤ 255; rw [← Array.length_toList, hb]; exact hsz, ?_⟩
      rw [hb]
      exact ⟨h2, h3, h1, h4, ⟨t, h5⟩, fun q t2 hq => by rw [← bs_of q, h6 _ _ hq], rfl⟩
/-! ## walks() -/
def lW : List Ent := [⟨⟨#[100]⟩, 1, 493, ⟨#[]⟩, ⟨#[]⟩⟩, ⟨⟨#[100, 47, 98, 97, 99, 107]⟩, 3, 511, ⟨#[]⟩, ⟨#[46, 46, 47, 46, 46, 47, 46, 46, 47, 100]⟩⟩, ⟨⟨#[100, 47, 102]⟩, 2, 420, ⟨#[]⟩, ⟨#[]⟩⟩, ⟨⟨#[115, 101, 108, 102]⟩, 3, 511, ⟨#[]⟩, ⟨#[47, 115, 101, 108, 102]⟩⟩]
def eW : Ent := ⟨⟨#[100, 47, 110]⟩, 1, 493, ⟨#[]⟩, ⟨#[]⟩⟩
theorem lW_check : checkL lW = (0, 0) := by kernel_rfl
theorem lW_small : Small lW := fun e he => by
  have : lW.all (fun e => decide (e.p.size ≤ 16) && decide (e.d.size ≤ 16) && decide (e.l.size ≤ 16)) = true := by kernel_rfl
  have := List.all_eq_true.1 this e he
  simp only [Bool.and_eq_true, decide_eq_true_eq] at this
  exact ⟨Nat.lt_of_le_of_lt this.1.1 (by decide), Nat.lt_of_le_of_lt this.1.2 (by decide), Nat.lt_of_le_of_lt this.2 (by decide)⟩
theorem way_of {L : List Ent} {keep : Bool} {s p : List UInt8} (h : (match wayF L keep s with | .ok (q, _) => q == p | .error _ => false) = true) : ∃ t, wayF L keep s = .ok (p, t) := by
  cases hw : wayF L keep s with
  | error n => rw [hw] at h; cases h
  | ok x =>
    obtain ⟨q, t⟩ := x
    rw [hw] at h
    have : q = p := by simpa using h
    subst this
    exact ⟨t, rfl⟩
theorem lW_a : ∃ t, wayF lW false [100, 47, 98, 97, 99, 107, 47, 98, 97, 99, 107, 47, 102] = .ok ([100, 47, 102], t) := way_of (by kernel_rfl)
theorem lW_b : wayF lW false [115, 101, 108, 102] = .error (11 + 1) := by kernel_rfl
theorem lW_c : makeWay true lW [100, 47, 98, 97, 99, 107, 47, 110, 47, 46, 46] = (addL eW 3 lW, .ok [100]) := by kernel_rfl
theorem lW_d : makeWay false (addL eW 3 lW) [46, 46, 47, 100, 47, 110, 101, 119] = (addL eW 3 lW, .ok [100, 47, 110, 101, 119]) := by kernel_rfl
set_option maxRecDepth 100000 in
theorem tnum_any (w : World) : Calls Tryz.prog 15 #[.iface 57 (.int .i64 12)] w fun r w' => r = .returned (.int .i64 12) ∧ w' = w := by
  have hn := num_num 12 w (by decide) (by decide)
  have Hn := Lib.hid (show Calls Tryz.prog 26 #[.iface 57 (.int .i64 12)] w fun e w' => e = .returned (.int .i64 12) ∧ w = w' from hn)
  clear hn
  go_enter Tryz.func15, Tryz.ntmps15
  go_wp2_with (go_at_call 26; refine Hn.out.mono ?_; rintro r w2 ⟨rfl, rfl⟩)
  go_ret
  exact ⟨rfl, rfl⟩
set_option maxRecDepth 100000 in
set_option maxHeartbeats 4000000 in
theorem walks_any (w : World) : Calls Tryz.prog 4 #[] w fun r w' => r = .returned (.bool true) ∧ Below w.heap.size w w' := by
  obtain ⟨w1, hw1⟩ : ∃ x, x = w.alloc (.cells #[.string ⟨#[100]⟩, .int .i64 1, .int .i64 493, .string ⟨#[]⟩, .string ⟨#[]⟩, .string ⟨#[100, 47, 98, 97, 99, 107]⟩, .int .i64 3, .int .i64 511, .string ⟨#[]⟩, .string ⟨#[46, 46, 47, 46, 46, 47, 46, 46, 47, 100]⟩, .string ⟨#[100, 47, 102]⟩, .int .i64 2, .int .i64 420, .string ⟨#[]⟩, .string ⟨#[]⟩, .string ⟨#[115, 101, 108, 102]⟩, .int .i64 3, .int .i64 511, .string ⟨#[]⟩, .string ⟨#[47, 115, 101, 108, 102]⟩] 39) := ⟨_, rfl⟩
  have hE : EntsAt w1 (.slice (some ⟨w.heap.size, 0, none⟩) 4 4) lW := by
    rw [hw1]
    exact ents_of_row (base := 0) ⟨rfl, .inr ⟨w.heap.size, 4, _, rfl, Nat.zero_le _, World.alloc_heap_new w _, Nat.le_refl _, by unfold maxLen; omega, rfl, rfl⟩⟩
  have hb1 : Below w.heap.size w w1 := by rw [hw1]; exact (Below.refl _ _).alloc (Nat.le_refl _) _
  have HW1 := Lib.hid hw1
  have HE := Lib.hid hE
  have B1 := Lib.hid hb1
  clear hw1 hE hb1
  go_enter Tryz.func4, Tryz.ntmps4
  go_wp2_with fail
  rw [← HW1.out]
  refine (tof_any _ lW w1 HE.out lW_small).mono ?_
  rintro r w2 ⟨h1, _, h3⟩
  obtain ⟨T, rt, rm, nd, rfl, ht, he⟩ := h1 (by rw [lW_check])
  have Z2 := Lib.hid (show OneZ w1 w2 T rt rm nd (.slice (some ⟨w.heap.size, 0, none⟩) 4 4) lW from ⟨ht, HE.out, h3⟩)
  have He := Lib.hid he
  clear h1 h3 ht he
  go_wp2_with fail
  obtain ⟨ta, hta⟩ := lW_a
  refine (Z2.out.find_ok _ true (by decide) (p := ⟨#[100, 47, 102]⟩) (t := ta) (by rw [He.out]; exact hta)).mono ?_
  rintro r w3 ⟨rfl, hz⟩
  have Z3 := Lib.hid hz
  clear hz hta
  go_wp2_with fail
  refine (Z3.out.find_no _ true (by decide) (x := 11) (by rw [He.out]; exact lW_b)).mono ?_
  rintro r w4 ⟨rfl, hz⟩
  have Z4 := Lib.hid hz
  clear hz
  rw [show ((11 + 1 : Nat) : Int) = 12 from rfl]
  go_wp2_with fail
  refine (Z4.out.make_ok _ (by decide) (p := ⟨#[100]⟩) (by rw [He.out]; exact lW_c)).mono ?_
  rintro r w5 ⟨rfl, nd5, he5, hz⟩
  have Z5 := Lib.hid hz
  have He5 := Lib.hid he5
  clear hz he5
  go_wp2_with fail
  refine (Z5.out.place_ok _ (by decide) (p := ⟨#[100, 47, 110, 101, 119]⟩) (by rw [He5.out]; exact lW_d)).mono ?_
  rintro r w6 ⟨rfl, nd6, he6, hz⟩
  have Z6 := Lib.hid hz
  have He6 := Lib.hid he6
  clear hz he6
  go_wp2_with fail
  refine (tnum_any w6).mono ?_
  rintro r w7 ⟨rfl, rfl⟩
  go_wp2_with fail
  refine (Z6.out.list).mono ?_
  rintro r w8 ⟨o8, c8, rfl, h8, hz8⟩
  rw [He6.out] at h8 ⊢
  have E8 := Lib.hid h8
  have Z8 := Lib.hid hz8
  clear h8 hz8
  go_wp2_with fail
  refine (add_any _ lW eW 3 w8 Z8.out.e (by decide) (by decide)).mono ?_
  rintro r w9 ⟨o9, c9, rfl, h9, hb⟩
  have E9 := Lib.hid h9
  have E10 := Lib.hid (E8.out.below hb (Nat.le_refl _))
  have Z9 := Lib.hid (Z8.out.below hb)
  clear h9 hb
  go_wp2_with fail
  refine (same_any _ _ (addL eW 3 lW) w9 E10.out E9.out (by decide)).mono ?_
  rintro r w10 ⟨hb, rfl⟩
  have B10 := Lib.hid (B1.out.trans ((Z9.out.bel.trans (hb.mono Z9.out.bel.size)).mono B1.out.size))
  clear hb
  go_wp2_with fail
  go_ret
  exact ⟨rfl, B10.out⟩
set_option maxRecDepth 100000 in
set_option maxHeartbeats 8000000 in
theorem strataWays_any (v : Value) (L : List Ent) (s : ByteArray) (w : World) (hE : EntsAt w v L) (hS : Small L) (hl : L.length ≤ 1099511627776) (hs : s.size ≤ 4294967296) :
    Calls Tryz.prog 3 #[v, .string s] w fun r w' => r = .returned (.bool true) ∧ Below w.heap.size w w' := by
  obtain ⟨o, cap, hv, _, _, _⟩ := id hE
  obtain ⟨n, hn⟩ : ∃ n, n = L.length := ⟨_, rfl⟩
  rw [← hn] at hv
  have HS := Lib.hid hS
  have Hl := Lib.hid hl
  have Hs := Lib.hid hs
  subst hv
  have Hof := Lib.hid (fun (W : World) (hb : Below w.heap.size w W) => tof_any _ L W (hE.below hb (Nat.le_refl _)) hS)
  have HE := Lib.hid hE
  clear hn hE hS hl hs
  go_enter Tryz.func3, Tryz.ntmps3
  go_wp2_with fail
  refine (walks_any w).mono ?_
  rintro r w1 ⟨rfl, hb⟩
  have B1 := Lib.hid hb
  clear hb
  go_wp2_with fail
  refine (Hof.out w1 B1.out).mono ?_
  rintro r w2 ⟨h1, h2, h3⟩
  by_cases hc : (checkL L).1 ≠ 0
  · obtain rfl := h2 hc
    have hk := (tcheck_any _ L w2 ((HE.out.below B1.out (Nat.le_refl _)).below h3 (Nat.le_refl _)) HS.out)
    unfold errT at hk
    rw [if_neg hc] at hk
    unfold fltV at hk
    have Hk := Lib.hid hk
    have H3 := Lib.hid (B1.out.trans (h3.mono B1.out.size))
    clear h1 h2 h3 hk Hof
    go_wp2_with fail
    refine Hk.out.mono ?_
    rintro r w3 ⟨rfl, hb⟩
    have B3 := Lib.hid (H3.out.trans (hb.mono H3.out.size))
    clear hb
    go_wp2_with fail
    go_ret
    exact ⟨rfl, B3.out⟩
  have hc0 : (checkL L).1 = 0 := by omega
  obtain ⟨T, rt, rm, nd, rfl, ht, he⟩ := h1 hc0
  have hL : Good L := check_good (ht.lower (Nat.zero_le _)) he
  have HL := Lib.hid hL
  have Z2 := Lib.hid (show OneZ w w2 T rt rm nd (.slice o n cap) L from ⟨ht.lower B1.out.size, HE.out, B1.out.trans (h3.mono B1.out.size)⟩)
  have He := Lib.hid he
  have Hc0 := Lib.hid hc0
  have fA := find_cases hL s false
  have fB := find_cases hL s true
  have fP := place_cases hL s
  have fM := made_cases hL s
  have FB := Lib.hid fB
  have FP := Lib.hid fP
  have FM := Lib.hid fM
  clear h1 h2 h3 ht he hc hc0 hL fB fP fM
  rcases fA with ⟨pa, ha1, ha2, ha3, ha4, hwa⟩ | ⟨na, hna, hwa⟩
  · have ha4 := ha4 rfl
    have SA := Lib.hid (fun (W : World) (h : EntsAt W (.slice o n cap) L) => straight_any _ L pa W h Hl.out (by omega) ha2)
    have KA := Lib.hid (fun (W : World) (h : EntsAt W (.slice o n cap) L) => kindAt_any _ L pa W h Hl.out)
    have HA := Lib.hid hwa
    generalize hka : kindT L pa.data.toList = ka at KA ha3 ha4
    have ka0 : (ka == 0) = false := by simpa using ha3
    have ka3 : (ka == 3) = false := by simpa using ha4
    have HPA := Lib.hid ha1
    clear ha1 ha2 ha3 ha4 hwa hka
    go_wp2_with fail
    obtain ⟨ta, hta⟩ := HA.out
    refine (Z2.out.find_ok s true Hs.out (p := pa) (t := ta) (by rw [He.out]; exact hta)).mono ?_
    rintro r w3 ⟨rfl, hz⟩
    have Z3 := Lib.hid hz
    clear hz hta
    rcases FB.out with ⟨pb, hb1, hb2, hb3, hb4, hwb⟩ | ⟨nb, hnb, hwb⟩
    · have SB := Lib.hid (fun (W : World) (h : EntsAt W (.slice o n cap) L) => straight_any _ L pb W h Hl.out (by omega) hb2)
      have KB := Lib.hid (fun (W : World) (h : EntsAt W (.slice o n cap) L) => kindAt_any _ L pb W h Hl.out)
      have HB := Lib.hid hwb
      generalize hkb : kindT L pb.data.toList = kb at KB hb3 hb4
      have kb0 : (kb == 0) = false := by simpa using hb3
      clear hb1 hb2 hb3 hb4 hwb hkb FB
      go_wp2_with fail
      obtain ⟨tb, htb⟩ := HB.out
      refine (Z3.out.find_ok s false Hs.out (p := pb) (t := tb) (by rw [He.out]; exact htb)).mono ?_
      rintro r w4 ⟨rfl, hz⟩
      have Z4 := Lib.hid hz
      have E4 := Lib.hid hz.e
      clear hz htb
      go_wp2_with fail
      refine (SA.out w4 E4.out).mono ?_
      rintro r w5 ⟨rfl, rfl⟩
      go_wp2_with fail
      refine (KA.out w5 E4.out).mono ?_
      rintro r w6 ⟨rfl, rfl⟩
      go_wp2_with fail
      refine (KA.out w6 E4.out).mono ?_
      rintro r w4 ⟨rfl, rfl⟩
      go_wp2_with fail
      refine (SB.out w4 E4.out).mono ?_
      rintro r w5 ⟨rfl, rfl⟩
      go_wp2_with fail
      refine (KB.out w5 E4.out).mono ?_
      rintro r w4 ⟨rfl, rfl⟩
      go_wp2_with fail
      refine (Z4.out.list).mono ?_
      rintro r w5 ⟨o5, c5, rfl, h5, hz5⟩
      rw [He.out] at h5
      obtain ⟨n5, hn5⟩ : ∃ x, x = (ents nd).length := ⟨_, rfl⟩
      rw [← hn5]
      rw [show L.length = n5 from by rw [hn5, He.out]] at h5
      have E5 := Lib.hid h5
      have Z5 := Lib.hid hz5
      clear h5 hz5 hn5
      go_wp2_with fail
      refine (same_any _ _ L w5 E5.out Z5.out.e Hl.out).mono ?_
      rintro r w6 ⟨hb, rfl⟩
      have Z6 := Lib.hid (Z5.out.below hb)
      clear hb
      rcases FP.out with ⟨N, pp, hp1, hp2, hp3, hp4, hp5, hwp⟩ | ⟨np, hnp, hwp⟩
      · have SP := Lib.hid (fun (W : World) v (h : EntsAt W v N) => straight_any v N pp W h (Nat.le_trans hp4.len (by decide)) (by omega) hp2)
        have KP := Lib.hid (fun (W : World) v (h : EntsAt W v N) => kindAt_any v N pp W h (Nat.le_trans hp4.len (by decide)))
        have OP := Lib.hid (fun (W : World) v (h : EntsAt W v N) (h2 : EntsAt W (.slice o n cap) L) => holds_any v _ N L W h h2 hp4 hp5 (Nat.le_trans hp4.len (by decide)) Hl.out)
        have HP := Lib.hid hwp
        generalize hkp : kindT N pp.data.toList = kp at KP hp3
        have kp3 : (kp == 3) = false := by simpa using hp3
        clear hp1 hp2 hp3 hp4 hp5 hwp hkp FP
        go_wp2_with fail
        refine (Z6.out.place_ok s Hs.out (p := pp) (by rw [He.out]; exact HP.out)).mono ?_
        rintro r w7 ⟨rfl, nd7, he7, hz⟩
        have Z7 := Lib.hid hz
        have He7 := Lib.hid he7
        clear hz he7
        go_wp2_with fail
        refine (Z7.out.list).mono ?_
        rintro r w8 ⟨o8, c8, rfl, h8, hz8⟩
        obtain ⟨n8, hn8⟩ : ∃ x, x = (ents nd7).length := ⟨_, rfl⟩
        rw [← hn8]
        rw [← hn8, He7.out] at h8
        have E8 := Lib.hid h8
        have Z8 := Lib.hid hz8
        have E9 := Lib.hid hz8.e
        clear h8 hz8 hn8
        go_wp2_with fail
        refine (SP.out w8 _ E8.out).mono ?_
        rintro r w9 ⟨rfl, rfl⟩
        go_wp2_with fail
        refine (KP.out w9 _ E8.out).mono ?_
        rintro r w8 ⟨rfl, rfl⟩
        go_wp2_with fail
        refine (OP.out w8 _ E8.out E9.out).mono ?_
        rintro r w9 ⟨rfl, hb⟩
        have B9 := Lib.hid (Z8.out.bel.trans (hb.mono Z8.out.bel.size))
        clear hb
        go_wp2_with fail
        refine (Hof.out w9 B9.out).mono ?_
        rintro r w10 ⟨h1, _, h3⟩
        obtain ⟨U, ru, mu, nu, rfl, hu, heu⟩ := h1 Hc0.out
        have Y1 := Lib.hid (show OneZ w w10 U ru mu nu (.slice o n cap) L from ⟨hu.lower B9.out.size, HE.out, B9.out.trans (h3.mono B9.out.size)⟩)
        have Heu := Lib.hid heu
        clear h1 h3 hu heu
        rcases FM.out with ⟨N2, pm, hm1, hm2, hm3, hm4, hm5, hm6, hm7, hwm⟩ | ⟨nm, hnm, hwm⟩
        · have SM := Lib.hid (fun (W : World) v (h : EntsAt W v N2) => straight_any v N2 pm W h (Nat.le_trans hm4.len (by decide)) (by omega) hm2)
          have KM := Lib.hid (fun (W : World) v (h : EntsAt W v N2) => kindAt_any v N2 pm W h (Nat.le_trans hm4.len (by decide)))
          have OM := Lib.hid (fun (W : World) v (h : EntsAt W v N2) (h2 : EntsAt W (.slice o n cap) L) => holds_any v _ N2 L W h h2 hm4 hm5 (Nat.le_trans hm4.len (by decide)) Hl.out)
          have HM := Lib.hid hwm
          have HM6 := Lib.hid hm6
          have HM7 := Lib.hid hm7
          rw [hm3] at KM
          have hpm : (pm.toList == pm.toList) = true := by simp
          clear hm1 hm2 hm3 hm4 hm5 hm6 hm7 hwm FM
          go_wp2_with fail
          refine (Y1.out.make_ok s Hs.out (p := pm) (by rw [Heu.out]; exact HM.out)).mono ?_
          rintro r w11 ⟨rfl, nv, hev, hz⟩
          have Y2 := Lib.hid hz
          have Hev := Lib.hid hev
          clear hz hev
          go_wp2_with fail
          refine (Y2.out.list).mono ?_
          rintro r w12 ⟨o12, c12, rfl, h12, hz12⟩
          obtain ⟨n12, hn12⟩ : ∃ x, x = (ents nv).length := ⟨_, rfl⟩
          rw [← hn12]
          rw [← hn12, Hev.out] at h12
          have E12 := Lib.hid h12
          have Y3 := Lib.hid hz12
          have E13 := Lib.hid hz12.e
          clear h12 hz12 hn12
          go_wp2_with fail
          refine (SM.out w12 _ E12.out).mono ?_
          rintro r w13 ⟨rfl, rfl⟩
          go_wp2_with fail
          refine (KM.out w13 _ E12.out).mono ?_
          rintro r w12 ⟨rfl, rfl⟩
          go_wp2_with fail
          refine (OM.out w12 _ E12.out E13.out).mono ?_
          rintro r w13 ⟨rfl, hb⟩
          have Y4 := Lib.hid (Y3.out.below hb)
          clear hb
          go_wp2_with fail
          obtain ⟨tm, htm⟩ := HM6.out
          refine (Y4.out.find_ok s true Hs.out (p := pm) (t := tm) (by rw [Hev.out]; exact htm)).mono ?_
          rintro r w14 ⟨rfl, hz⟩
          have B14 := Lib.hid hz.bel
          clear hz htm
          obtain rfl : pa = pm := by
            obtain ⟨ta, hta⟩ := HA.out
            exact HM7.out pa ta hta
          go_wp2_with fail
          go_ret
          exact ⟨rfl, B14.out⟩
        · obtain ⟨xm, rfl⟩ : ∃ x, nm = x + 1 := ⟨nm - 1, by omega⟩
          obtain ⟨N2, hwm⟩ := hwm
          have HM := Lib.hid hwm
          clear hnm hwm FM
          go_wp2_with fail
          refine (Y1.out.make_no s Hs.out (x := xm) (L' := N2) (by rw [Heu.out]; exact HM.out)).mono ?_
          rintro r w11 ⟨rfl, nv, hev, hz⟩
          have Y2 := Lib.hid hz
          have Hev := Lib.hid (hev.trans Heu.out)
          clear hz hev
          generalize hxm : ((xm + 1 : Nat) : Int) = ym
          have Hxm := Lib.hid hxm
          clear hxm
          go_wp2_with fail
          refine (Y2.out.list).mono ?_
          rintro r w12 ⟨o12, c12, rfl, h12, hz12⟩
          obtain ⟨n12, hn12⟩ : ∃ x, x = (ents nv).length := ⟨_, rfl⟩
          rw [← hn12]
          rw [← hn12, Hev.out] at h12
          have E12 := Lib.hid h12
          have Y3 := Lib.hid hz12
          have hn13 := Lib.hid (show L.length = n12 from by rw [hn12, Hev.out])
          clear h12 hz12 hn12
          go_wp2_with fail
          refine (same_any _ _ L w12 E12.out Y3.out.e Hl.out).mono ?_
          rintro r w13 ⟨hb, rfl⟩
          have B13 := Lib.hid (Y3.out.bel.trans (hb.mono Y3.out.bel.size))
          clear hb
          go_wp2_with fail
          go_ret
          exact ⟨rfl, B13.out⟩
      · obtain ⟨xp, rfl⟩ : ∃ x, np = x + 1 := ⟨np - 1, by omega⟩
        obtain ⟨N, hwp⟩ := hwp
        have HP := Lib.hid hwp
        clear hnp hwp FP
        go_wp2_with fail
        refine (Z6.out.place_no s Hs.out (x := xp) (L' := N) (by rw [He.out]; exact HP.out)).mono ?_
        rintro r w7 ⟨rfl, nd7, he7, hz⟩
        have Z7 := Lib.hid hz
        have He7 := Lib.hid (he7.trans He.out)
        clear hz he7
        generalize hxp : ((xp + 1 : Nat) : Int) = yp
        have Hxp := Lib.hid hxp
        clear hxp
        go_wp2_with fail
        refine (Z7.out.list).mono ?_
        rintro r w8 ⟨o8, c8, rfl, h8, hz8⟩
        obtain ⟨n8, hn8⟩ : ∃ x, x = (ents nd7).length := ⟨_, rfl⟩
        rw [← hn8]
        rw [← hn8, He7.out] at h8
        have E8 := Lib.hid h8
        have Z8 := Lib.hid hz8
        clear h8 hz8
        have hn9 := Lib.hid (show L.length = n8 from by rw [hn8, He7.out])
        clear hn8
        go_wp2_with fail
        refine (same_any _ _ L w8 E8.out Z8.out.e Hl.out).mono ?_
        rintro r w9 ⟨hb, rfl⟩
        have B9 := Lib.hid (Z8.out.bel.trans (hb.mono Z8.out.bel.size))
        clear hb
        go_wp2_with fail
        refine (Hof.out w9 B9.out).mono ?_
        rintro r w10 ⟨h1, _, h3⟩
        obtain ⟨U, ru, mu, nu, rfl, hu, heu⟩ := h1 Hc0.out
        have Y1 := Lib.hid (show OneZ w w10 U ru mu nu (.slice o n cap) L from ⟨hu.lower B9.out.size, HE.out, B9.out.trans (h3.mono B9.out.size)⟩)
        have Heu := Lib.hid heu
        clear h1 h3 hu heu
        rcases FM.out with ⟨N2, pm, hm1, hm2, hm3, hm4, hm5, hm6, hm7, hwm⟩ | ⟨nm, hnm, hwm⟩
        · have SM := Lib.hid (fun (W : World) v (h : EntsAt W v N2) => straight_any v N2 pm W h (Nat.le_trans hm4.len (by decide)) (by omega) hm2)
          have KM := Lib.hid (fun (W : World) v (h : EntsAt W v N2) => kindAt_any v N2 pm W h (Nat.le_trans hm4.len (by decide)))
          have OM := Lib.hid (fun (W : World) v (h : EntsAt W v N2) (h2 : EntsAt W (.slice o n cap) L) => holds_any v _ N2 L W h h2 hm4 hm5 (Nat.le_trans hm4.len (by decide)) Hl.out)
          have HM := Lib.hid hwm
          have HM6 := Lib.hid hm6
          have HM7 := Lib.hid hm7
          rw [hm3] at KM
          have hpm : (pm.toList == pm.toList) = true := by simp
          clear hm1 hm2 hm3 hm4 hm5 hm6 hm7 hwm FM
          go_wp2_with fail
          refine (Y1.out.make_ok s Hs.out (p := pm) (by rw [Heu.out]; exact HM.out)).mono ?_
          rintro r w11 ⟨rfl, nv, hev, hz⟩
          have Y2 := Lib.hid hz
          have Hev := Lib.hid hev
          clear hz hev
          go_wp2_with fail
          refine (Y2.out.list).mono ?_
          rintro r w12 ⟨o12, c12, rfl, h12, hz12⟩
          obtain ⟨n12, hn12⟩ : ∃ x, x = (ents nv).length := ⟨_, rfl⟩
          rw [← hn12]
          rw [← hn12, Hev.out] at h12
          have E12 := Lib.hid h12
          have Y3 := Lib.hid hz12
          have E13 := Lib.hid hz12.e
          clear h12 hz12 hn12
          go_wp2_with fail
          refine (SM.out w12 _ E12.out).mono ?_
          rintro r w13 ⟨rfl, rfl⟩
          go_wp2_with fail
          refine (KM.out w13 _ E12.out).mono ?_
          rintro r w12 ⟨rfl, rfl⟩
          go_wp2_with fail
          refine (OM.out w12 _ E12.out E13.out).mono ?_
          rintro r w13 ⟨rfl, hb⟩
          have Y4 := Lib.hid (Y3.out.below hb)
          clear hb
          go_wp2_with fail
          obtain ⟨tm, htm⟩ := HM6.out
          refine (Y4.out.find_ok s true Hs.out (p := pm) (t := tm) (by rw [Hev.out]; exact htm)).mono ?_
          rintro r w14 ⟨rfl, hz⟩
          have B14 := Lib.hid hz.bel
          clear hz htm
          obtain rfl : pa = pm := by
            obtain ⟨ta, hta⟩ := HA.out
            exact HM7.out pa ta hta
          go_wp2_with fail
          go_ret
          exact ⟨rfl, B14.out⟩
        · obtain ⟨xm, rfl⟩ : ∃ x, nm = x + 1 := ⟨nm - 1, by omega⟩
          obtain ⟨N2, hwm⟩ := hwm
          have HM := Lib.hid hwm
          clear hnm hwm FM
          go_wp2_with fail
          refine (Y1.out.make_no s Hs.out (x := xm) (L' := N2) (by rw [Heu.out]; exact HM.out)).mono ?_
          rintro r w11 ⟨rfl, nv, hev, hz⟩
          have Y2 := Lib.hid hz
          have Hev := Lib.hid (hev.trans Heu.out)
          clear hz hev
          generalize hxm : ((xm + 1 : Nat) : Int) = ym
          have Hxm := Lib.hid hxm
          clear hxm
          go_wp2_with fail
          refine (Y2.out.list).mono ?_
          rintro r w12 ⟨o12, c12, rfl, h12, hz12⟩
          obtain ⟨n12, hn12⟩ : ∃ x, x = (ents nv).length := ⟨_, rfl⟩
          rw [← hn12]
          rw [← hn12, Hev.out] at h12
          have E12 := Lib.hid h12
          have Y3 := Lib.hid hz12
          have hn13 := Lib.hid (show L.length = n12 from by rw [hn12, Hev.out])
          clear h12 hz12 hn12
          go_wp2_with fail
          refine (same_any _ _ L w12 E12.out Y3.out.e Hl.out).mono ?_
          rintro r w13 ⟨hb, rfl⟩
          have B13 := Lib.hid (Y3.out.bel.trans (hb.mono Y3.out.bel.size))
          clear hb
          go_wp2_with fail
          go_ret
          exact ⟨rfl, B13.out⟩
    · obtain ⟨xb, rfl⟩ : ∃ x, nb = x + 1 := ⟨nb - 1, by omega⟩
      have HB := Lib.hid hwb
      clear hnb hwb FB
      go_wp2_with fail
      refine (Z3.out.find_no s false Hs.out (x := xb) (by rw [He.out]; exact HB.out)).mono ?_
      rintro r w4 ⟨rfl, hz⟩
      have Z4 := Lib.hid hz
      have E4 := Lib.hid hz.e
      clear hz
      generalize hxb : ((xb + 1 : Nat) : Int) = yb
      have Hxb := Lib.hid hxb
      clear hxb
      go_wp2_with fail
      refine (SA.out w4 E4.out).mono ?_
      rintro r w5 ⟨rfl, rfl⟩
      go_wp2_with fail
      refine (KA.out w5 E4.out).mono ?_
      rintro r w6 ⟨rfl, rfl⟩
      go_wp2_with fail
      refine (KA.out w6 E4.out).mono ?_
      rintro r w4 ⟨rfl, rfl⟩
      go_wp2_with fail
      refine (Z4.out.list).mono ?_
      rintro r w5 ⟨o5, c5, rfl, h5, hz5⟩
      rw [He.out] at h5
      obtain ⟨n5, hn5⟩ : ∃ x, x = (ents nd).length := ⟨_, rfl⟩
      rw [← hn5]
      rw [show L.length = n5 from by rw [hn5, He.out]] at h5
      have E5 := Lib.hid h5
      have Z5 := Lib.hid hz5
      clear h5 hz5 hn5
      go_wp2_with fail
      refine (same_any _ _ L w5 E5.out Z5.out.e Hl.out).mono ?_
      rintro r w6 ⟨hb, rfl⟩
      have Z6 := Lib.hid (Z5.out.below hb)
      clear hb
      rcases FP.out with ⟨N, pp, hp1, hp2, hp3, hp4, hp5, hwp⟩ | ⟨np, hnp, hwp⟩
      · have SP := Lib.hid (fun (W : World) v (h : EntsAt W v N) => straight_any v N pp W h (Nat.le_trans hp4.len (by decide)) (by omega) hp2)
        have KP := Lib.hid (fun (W : World) v (h : EntsAt W v N) => kindAt_any v N pp W h (Nat.le_trans hp4.len (by decide)))
        have OP := Lib.hid (fun (W : World) v (h : EntsAt W v N) (h2 : EntsAt W (.slice o n cap) L) => holds_any v _ N L W h h2 hp4 hp5 (Nat.le_trans hp4.len (by decide)) Hl.out)
        have HP := Lib.hid hwp
        generalize hkp : kindT N pp.data.toList = kp at KP hp3
        have kp3 : (kp == 3) = false := by simpa using hp3
        clear hp1 hp2 hp3 hp4 hp5 hwp hkp FP
        go_wp2_with fail
        refine (Z6.out.place_ok s Hs.out (p := pp) (by rw [He.out]; exact HP.out)).mono ?_
        rintro r w7 ⟨rfl, nd7, he7, hz⟩
        have Z7 := Lib.hid hz
        have He7 := Lib.hid he7
        clear hz he7
        go_wp2_with fail
        refine (Z7.out.list).mono ?_
        rintro r w8 ⟨o8, c8, rfl, h8, hz8⟩
        obtain ⟨n8, hn8⟩ : ∃ x, x = (ents nd7).length := ⟨_, rfl⟩
        rw [← hn8]
        rw [← hn8, He7.out] at h8
        have E8 := Lib.hid h8
        have Z8 := Lib.hid hz8
        have E9 := Lib.hid hz8.e
        clear h8 hz8 hn8
        go_wp2_with fail
        refine (SP.out w8 _ E8.out).mono ?_
        rintro r w9 ⟨rfl, rfl⟩
        go_wp2_with fail
        refine (KP.out w9 _ E8.out).mono ?_
        rintro r w8 ⟨rfl, rfl⟩
        go_wp2_with fail
        refine (OP.out w8 _ E8.out E9.out).mono ?_
        rintro r w9 ⟨rfl, hb⟩
        have B9 := Lib.hid (Z8.out.bel.trans (hb.mono Z8.out.bel.size))
        clear hb
        go_wp2_with fail
        refine (Hof.out w9 B9.out).mono ?_
        rintro r w10 ⟨h1, _, h3⟩
        obtain ⟨U, ru, mu, nu, rfl, hu, heu⟩ := h1 Hc0.out
        have Y1 := Lib.hid (show OneZ w w10 U ru mu nu (.slice o n cap) L from ⟨hu.lower B9.out.size, HE.out, B9.out.trans (h3.mono B9.out.size)⟩)
        have Heu := Lib.hid heu
        clear h1 h3 hu heu
        rcases FM.out with ⟨N2, pm, hm1, hm2, hm3, hm4, hm5, hm6, hm7, hwm⟩ | ⟨nm, hnm, hwm⟩
        · have SM := Lib.hid (fun (W : World) v (h : EntsAt W v N2) => straight_any v N2 pm W h (Nat.le_trans hm4.len (by decide)) (by omega) hm2)
          have KM := Lib.hid (fun (W : World) v (h : EntsAt W v N2) => kindAt_any v N2 pm W h (Nat.le_trans hm4.len (by decide)))
          have OM := Lib.hid (fun (W : World) v (h : EntsAt W v N2) (h2 : EntsAt W (.slice o n cap) L) => holds_any v _ N2 L W h h2 hm4 hm5 (Nat.le_trans hm4.len (by decide)) Hl.out)
          have HM := Lib.hid hwm
          have HM6 := Lib.hid hm6
          have HM7 := Lib.hid hm7
          rw [hm3] at KM
          have hpm : (pm.toList == pm.toList) = true := by simp
          clear hm1 hm2 hm3 hm4 hm5 hm6 hm7 hwm FM
          go_wp2_with fail
          refine (Y1.out.make_ok s Hs.out (p := pm) (by rw [Heu.out]; exact HM.out)).mono ?_
          rintro r w11 ⟨rfl, nv, hev, hz⟩
          have Y2 := Lib.hid hz
          have Hev := Lib.hid hev
          clear hz hev
          go_wp2_with fail
          refine (Y2.out.list).mono ?_
          rintro r w12 ⟨o12, c12, rfl, h12, hz12⟩
          obtain ⟨n12, hn12⟩ : ∃ x, x = (ents nv).length := ⟨_, rfl⟩
          rw [← hn12]
          rw [← hn12, Hev.out] at h12
          have E12 := Lib.hid h12
          have Y3 := Lib.hid hz12
          have E13 := Lib.hid hz12.e
          clear h12 hz12 hn12
          go_wp2_with fail
          refine (SM.out w12 _ E12.out).mono ?_
          rintro r w13 ⟨rfl, rfl⟩
          go_wp2_with fail
          refine (KM.out w13 _ E12.out).mono ?_
          rintro r w12 ⟨rfl, rfl⟩
          go_wp2_with fail
          refine (OM.out w12 _ E12.out E13.out).mono ?_
          rintro r w13 ⟨rfl, hb⟩
          have Y4 := Lib.hid (Y3.out.below hb)
          clear hb
          go_wp2_with fail
          obtain ⟨tm, htm⟩ := HM6.out
          refine (Y4.out.find_ok s true Hs.out (p := pm) (t := tm) (by rw [Hev.out]; exact htm)).mono ?_
          rintro r w14 ⟨rfl, hz⟩
          have B14 := Lib.hid hz.bel
          clear hz htm
          obtain rfl : pa = pm := by
            obtain ⟨ta, hta⟩ := HA.out
            exact HM7.out pa ta hta
          go_wp2_with fail
          go_ret
          exact ⟨rfl, B14.out⟩
        · obtain ⟨xm, rfl⟩ : ∃ x, nm = x + 1 := ⟨nm - 1, by omega⟩
          obtain ⟨N2, hwm⟩ := hwm
          have HM := Lib.hid hwm
          clear hnm hwm FM
          go_wp2_with fail
          refine (Y1.out.make_no s Hs.out (x := xm) (L' := N2) (by rw [Heu.out]; exact HM.out)).mono ?_
          rintro r w11 ⟨rfl, nv, hev, hz⟩
          have Y2 := Lib.hid hz
          have Hev := Lib.hid (hev.trans Heu.out)
          clear hz hev
          generalize hxm : ((xm + 1 : Nat) : Int) = ym
          have Hxm := Lib.hid hxm
          clear hxm
          go_wp2_with fail
          refine (Y2.out.list).mono ?_
          rintro r w12 ⟨o12, c12, rfl, h12, hz12⟩
          obtain ⟨n12, hn12⟩ : ∃ x, x = (ents nv).length := ⟨_, rfl⟩
          rw [← hn12]
          rw [← hn12, Hev.out] at h12
          have E12 := Lib.hid h12
          have Y3 := Lib.hid hz12
          have hn13 := Lib.hid (show L.length = n12 from by rw [hn12, Hev.out])
          clear h12 hz12 hn12
          go_wp2_with fail
          refine (same_any _ _ L w12 E12.out Y3.out.e Hl.out).mono ?_
          rintro r w13 ⟨hb, rfl⟩
          have B13 := Lib.hid (Y3.out.bel.trans (hb.mono Y3.out.bel.size))
          clear hb
          go_wp2_with fail
          go_ret
          exact ⟨rfl, B13.out⟩
      · obtain ⟨xp, rfl⟩ : ∃ x, np = x + 1 := ⟨np - 1, by omega⟩
        obtain ⟨N, hwp⟩ := hwp
        have HP := Lib.hid hwp
        clear hnp hwp FP
        go_wp2_with fail
        refine (Z6.out.place_no s Hs.out (x := xp) (L' := N) (by rw [He.out]; exact HP.out)).mono ?_
        rintro r w7 ⟨rfl, nd7, he7, hz⟩
        have Z7 := Lib.hid hz
        have He7 := Lib.hid (he7.trans He.out)
        clear hz he7
        generalize hxp : ((xp + 1 : Nat) : Int) = yp
        have Hxp := Lib.hid hxp
        clear hxp
        go_wp2_with fail
        refine (Z7.out.list).mono ?_
        rintro r w8 ⟨o8, c8, rfl, h8, hz8⟩
        obtain ⟨n8, hn8⟩ : ∃ x, x = (ents nd7).length := ⟨_, rfl⟩
        rw [← hn8]
        rw [← hn8, He7.out] at h8
        have E8 := Lib.hid h8
        have Z8 := Lib.hid hz8
        clear h8 hz8
        have hn9 := Lib.hid (show L.length = n8 from by rw [hn8, He7.out])
        clear hn8
        go_wp2_with fail
        refine (same_any _ _ L w8 E8.out Z8.out.e Hl.out).mono ?_
        rintro r w9 ⟨hb, rfl⟩
        have B9 := Lib.hid (Z8.out.bel.trans (hb.mono Z8.out.bel.size))
        clear hb
        go_wp2_with fail
        refine (Hof.out w9 B9.out).mono ?_
        rintro r w10 ⟨h1, _, h3⟩
        obtain ⟨U, ru, mu, nu, rfl, hu, heu⟩ := h1 Hc0.out
        have Y1 := Lib.hid (show OneZ w w10 U ru mu nu (.slice o n cap) L from ⟨hu.lower B9.out.size, HE.out, B9.out.trans (h3.mono B9.out.size)⟩)
        have Heu := Lib.hid heu
        clear h1 h3 hu heu
        rcases FM.out with ⟨N2, pm, hm1, hm2, hm3, hm4, hm5, hm6, hm7, hwm⟩ | ⟨nm, hnm, hwm⟩
        · have SM := Lib.hid (fun (W : World) v (h : EntsAt W v N2) => straight_any v N2 pm W h (Nat.le_trans hm4.len (by decide)) (by omega) hm2)
          have KM := Lib.hid (fun (W : World) v (h : EntsAt W v N2) => kindAt_any v N2 pm W h (Nat.le_trans hm4.len (by decide)))
          have OM := Lib.hid (fun (W : World) v (h : EntsAt W v N2) (h2 : EntsAt W (.slice o n cap) L) => holds_any v _ N2 L W h h2 hm4 hm5 (Nat.le_trans hm4.len (by decide)) Hl.out)
          have HM := Lib.hid hwm
          have HM6 := Lib.hid hm6
          have HM7 := Lib.hid hm7
          rw [hm3] at KM
          have hpm : (pm.toList == pm.toList) = true := by simp
          clear hm1 hm2 hm3 hm4 hm5 hm6 hm7 hwm FM
          go_wp2_with fail
          refine (Y1.out.make_ok s Hs.out (p := pm) (by rw [Heu.out]; exact HM.out)).mono ?_
          rintro r w11 ⟨rfl, nv, hev, hz⟩
          have Y2 := Lib.hid hz
          have Hev := Lib.hid hev
          clear hz hev
          go_wp2_with fail
          refine (Y2.out.list).mono ?_
          rintro r w12 ⟨o12, c12, rfl, h12, hz12⟩
          obtain ⟨n12, hn12⟩ : ∃ x, x = (ents nv).length := ⟨_, rfl⟩
          rw [← hn12]
          rw [← hn12, Hev.out] at h12
          have E12 := Lib.hid h12
          have Y3 := Lib.hid hz12
          have E13 := Lib.hid hz12.e
          clear h12 hz12 hn12
          go_wp2_with fail
          refine (SM.out w12 _ E12.out).mono ?_
          rintro r w13 ⟨rfl, rfl⟩
          go_wp2_with fail
          refine (KM.out w13 _ E12.out).mono ?_
          rintro r w12 ⟨rfl, rfl⟩
          go_wp2_with fail
          refine (OM.out w12 _ E12.out E13.out).mono ?_
          rintro r w13 ⟨rfl, hb⟩
          have Y4 := Lib.hid (Y3.out.below hb)
          clear hb
          go_wp2_with fail
          obtain ⟨tm, htm⟩ := HM6.out
          refine (Y4.out.find_ok s true Hs.out (p := pm) (t := tm) (by rw [Hev.out]; exact htm)).mono ?_
          rintro r w14 ⟨rfl, hz⟩
          have B14 := Lib.hid hz.bel
          clear hz htm
          obtain rfl : pa = pm := by
            obtain ⟨ta, hta⟩ := HA.out
            exact HM7.out pa ta hta
          go_wp2_with fail
          go_ret
          exact ⟨rfl, B14.out⟩
        · obtain ⟨xm, rfl⟩ : ∃ x, nm = x + 1 := ⟨nm - 1, by omega⟩
          obtain ⟨N2, hwm⟩ := hwm
          have HM := Lib.hid hwm
          clear hnm hwm FM
          go_wp2_with fail
          refine (Y1.out.make_no s Hs.out (x := xm) (L' := N2) (by rw [Heu.out]; exact HM.out)).mono ?_
          rintro r w11 ⟨rfl, nv, hev, hz⟩
          have Y2 := Lib.hid hz
          have Hev := Lib.hid (hev.trans Heu.out)
          clear hz hev
          generalize hxm : ((xm + 1 : Nat) : Int) = ym
          have Hxm := Lib.hid hxm
          clear hxm
          go_wp2_with fail
          refine (Y2.out.list).mono ?_
          rintro r w12 ⟨o12, c12, rfl, h12, hz12⟩
          obtain ⟨n12, hn12⟩ : ∃ x, x = (ents nv).length := ⟨_, rfl⟩
          rw [← hn12]
          rw [← hn12, Hev.out] at h12
          have E12 := Lib.hid h12
          have Y3 := Lib.hid hz12
          have hn13 := Lib.hid (show L.length = n12 from by rw [hn12, Hev.out])
          clear h12 hz12 hn12
          go_wp2_with fail
          refine (same_any _ _ L w12 E12.out Y3.out.e Hl.out).mono ?_
          rintro r w13 ⟨hb, rfl⟩
          have B13 := Lib.hid (Y3.out.bel.trans (hb.mono Y3.out.bel.size))
          clear hb
          go_wp2_with fail
          go_ret
          exact ⟨rfl, B13.out⟩
  · obtain ⟨xa, rfl⟩ : ∃ x, na = x + 1 := ⟨na - 1, by omega⟩
    have HA := Lib.hid hwa
    clear hna hwa
    go_wp2_with fail
    refine (Z2.out.find_no s true Hs.out (x := xa) (by rw [He.out]; exact HA.out)).mono ?_
    rintro r w3 ⟨rfl, hz⟩
    have Z3 := Lib.hid hz
    clear hz
    generalize hxa : ((xa + 1 : Nat) : Int) = ya
    have Hxa := Lib.hid hxa
    clear hxa
    rcases FB.out with ⟨pb, hb1, hb2, hb3, hb4, hwb⟩ | ⟨nb, hnb, hwb⟩
    · have SB := Lib.hid (fun (W : World) (h : EntsAt W (.slice o n cap) L) => straight_any _ L pb W h Hl.out (by omega) hb2)
      have KB := Lib.hid (fun (W : World) (h : EntsAt W (.slice o n cap) L) => kindAt_any _ L pb W h Hl.out)
      have HB := Lib.hid hwb
      generalize hkb : kindT L pb.data.toList = kb at KB hb3 hb4
      have kb0 : (kb == 0) = false := by simpa using hb3
      clear hb1 hb2 hb3 hb4 hwb hkb FB
      go_wp2_with fail
      obtain ⟨tb, htb⟩ := HB.out
      refine (Z3.out.find_ok s false Hs.out (p := pb) (t := tb) (by rw [He.out]; exact htb)).mono ?_
      rintro r w4 ⟨rfl, hz⟩
      have Z4 := Lib.hid hz
      have E4 := Lib.hid hz.e
      clear hz htb
      go_wp2_with fail
      refine (SB.out w4 E4.out).mono ?_
      rintro r w5 ⟨rfl, rfl⟩
      go_wp2_with fail
      refine (KB.out w5 E4.out).mono ?_
      rintro r w4 ⟨rfl, rfl⟩
      go_wp2_with fail
      refine (Z4.out.list).mono ?_
      rintro r w5 ⟨o5, c5, rfl, h5, hz5⟩
      rw [He.out] at h5
      obtain ⟨n5, hn5⟩ : ∃ x, x = (ents nd).length := ⟨_, rfl⟩
      rw [← hn5]
      rw [show L.length = n5 from by rw [hn5, He.out]] at h5
      have E5 := Lib.hid h5
      have Z5 := Lib.hid hz5
      clear h5 hz5 hn5
      go_wp2_with fail
      refine (same_any _ _ L w5 E5.out Z5.out.e Hl.out).mono ?_
      rintro r w6 ⟨hb, rfl⟩
      have Z6 := Lib.hid (Z5.out.below hb)
      clear hb
      rcases FP.out with ⟨N, pp, hp1, hp2, hp3, hp4, hp5, hwp⟩ | ⟨np, hnp, hwp⟩
      · have SP := Lib.hid (fun (W : World) v (h : EntsAt W v N) => straight_any v N pp W h (Nat.le_trans hp4.len (by decide)) (by omega) hp2)
        have KP := Lib.hid (fun (W : World) v (h : EntsAt W v N) => kindAt_any v N pp W h (Nat.le_trans hp4.len (by decide)))
        have OP := Lib.hid (fun (W : World) v (h : EntsAt W v N) (h2 : EntsAt W (.slice o n cap) L) => holds_any v _ N L W h h2 hp4 hp5 (Nat.le_trans hp4.len (by decide)) Hl.out)
        have HP := Lib.hid hwp
        generalize hkp : kindT N pp.data.toList = kp at KP hp3
        have kp3 : (kp == 3) = false := by simpa using hp3
        clear hp1 hp2 hp3 hp4 hp5 hwp hkp FP
        go_wp2_with fail
        refine (Z6.out.place_ok s Hs.out (p := pp) (by rw [He.out]; exact HP.out)).mono ?_
        rintro r w7 ⟨rfl, nd7, he7, hz⟩
        have Z7 := Lib.hid hz
        have He7 := Lib.hid he7
        clear hz he7
        go_wp2_with fail
        refine (Z7.out.list).mono ?_
        rintro r w8 ⟨o8, c8, rfl, h8, hz8⟩
        obtain ⟨n8, hn8⟩ : ∃ x, x = (ents nd7).length := ⟨_, rfl⟩
        rw [← hn8]
        rw [← hn8, He7.out] at h8
        have E8 := Lib.hid h8
        have Z8 := Lib.hid hz8
        have E9 := Lib.hid hz8.e
        clear h8 hz8 hn8
        go_wp2_with fail
        refine (SP.out w8 _ E8.out).mono ?_
        rintro r w9 ⟨rfl, rfl⟩
        go_wp2_with fail
        refine (KP.out w9 _ E8.out).mono ?_
        rintro r w8 ⟨rfl, rfl⟩
        go_wp2_with fail
        refine (OP.out w8 _ E8.out E9.out).mono ?_
        rintro r w9 ⟨rfl, hb⟩
        have B9 := Lib.hid (Z8.out.bel.trans (hb.mono Z8.out.bel.size))
        clear hb
        go_wp2_with fail
        refine (Hof.out w9 B9.out).mono ?_
        rintro r w10 ⟨h1, _, h3⟩
        obtain ⟨U, ru, mu, nu, rfl, hu, heu⟩ := h1 Hc0.out
        have Y1 := Lib.hid (show OneZ w w10 U ru mu nu (.slice o n cap) L from ⟨hu.lower B9.out.size, HE.out, B9.out.trans (h3.mono B9.out.size)⟩)
        have Heu := Lib.hid heu
        clear h1 h3 hu heu
        rcases FM.out with ⟨N2, pm, hm1, hm2, hm3, hm4, hm5, hm6, hm7, hwm⟩ | ⟨nm, hnm, hwm⟩
        · have SM := Lib.hid (fun (W : World) v (h : EntsAt W v N2) => straight_any v N2 pm W h (Nat.le_trans hm4.len (by decide)) (by omega) hm2)
          have KM := Lib.hid (fun (W : World) v (h : EntsAt W v N2) => kindAt_any v N2 pm W h (Nat.le_trans hm4.len (by decide)))
          have OM := Lib.hid (fun (W : World) v (h : EntsAt W v N2) (h2 : EntsAt W (.slice o n cap) L) => holds_any v _ N2 L W h h2 hm4 hm5 (Nat.le_trans hm4.len (by decide)) Hl.out)
          have HM := Lib.hid hwm
          have HM6 := Lib.hid hm6
          have HM7 := Lib.hid hm7
          rw [hm3] at KM
          have hpm : (pm.toList == pm.toList) = true := by simp
          clear hm1 hm2 hm3 hm4 hm5 hm6 hm7 hwm FM
          go_wp2_with fail
          refine (Y1.out.make_ok s Hs.out (p := pm) (by rw [Heu.out]; exact HM.out)).mono ?_
          rintro r w11 ⟨rfl, nv, hev, hz⟩
          have Y2 := Lib.hid hz
          have Hev := Lib.hid hev
          clear hz hev
          go_wp2_with fail
          refine (Y2.out.list).mono ?_
          rintro r w12 ⟨o12, c12, rfl, h12, hz12⟩
          obtain ⟨n12, hn12⟩ : ∃ x, x = (ents nv).length := ⟨_, rfl⟩
          rw [← hn12]
          rw [← hn12, Hev.out] at h12
          have E12 := Lib.hid h12
          have Y3 := Lib.hid hz12
          have E13 := Lib.hid hz12.e
          clear h12 hz12 hn12
          go_wp2_with fail
          refine (SM.out w12 _ E12.out).mono ?_
          rintro r w13 ⟨rfl, rfl⟩
          go_wp2_with fail
          refine (KM.out w13 _ E12.out).mono ?_
          rintro r w12 ⟨rfl, rfl⟩
          go_wp2_with fail
          refine (OM.out w12 _ E12.out E13.out).mono ?_
          rintro r w13 ⟨rfl, hb⟩
          have Y4 := Lib.hid (Y3.out.below hb)
          clear hb
          go_wp2_with fail
          obtain ⟨tm, htm⟩ := HM6.out
          refine (Y4.out.find_ok s true Hs.out (p := pm) (t := tm) (by rw [Hev.out]; exact htm)).mono ?_
          rintro r w14 ⟨rfl, hz⟩
          have B14 := Lib.hid hz.bel
          clear hz htm
          go_wp2_with fail
          go_ret
          exact ⟨rfl, B14.out⟩
        · obtain ⟨xm, rfl⟩ : ∃ x, nm = x + 1 := ⟨nm - 1, by omega⟩
          obtain ⟨N2, hwm⟩ := hwm
          have HM := Lib.hid hwm
          clear hnm hwm FM
          go_wp2_with fail
          refine (Y1.out.make_no s Hs.out (x := xm) (L' := N2) (by rw [Heu.out]; exact HM.out)).mono ?_
          rintro r w11 ⟨rfl, nv, hev, hz⟩
          have Y2 := Lib.hid hz
          have Hev := Lib.hid (hev.trans Heu.out)
          clear hz hev
          generalize hxm : ((xm + 1 : Nat) : Int) = ym
          have Hxm := Lib.hid hxm
          clear hxm
          go_wp2_with fail
          refine (Y2.out.list).mono ?_
          rintro r w12 ⟨o12, c12, rfl, h12, hz12⟩
          obtain ⟨n12, hn12⟩ : ∃ x, x = (ents nv).length := ⟨_, rfl⟩
          rw [← hn12]
          rw [← hn12, Hev.out] at h12
          have E12 := Lib.hid h12
          have Y3 := Lib.hid hz12
          have hn13 := Lib.hid (show L.length = n12 from by rw [hn12, Hev.out])
          clear h12 hz12 hn12
          go_wp2_with fail
          refine (same_any _ _ L w12 E12.out Y3.out.e Hl.out).mono ?_
          rintro r w13 ⟨hb, rfl⟩
          have B13 := Lib.hid (Y3.out.bel.trans (hb.mono Y3.out.bel.size))
          clear hb
          go_wp2_with fail
          go_ret
          exact ⟨rfl, B13.out⟩
      · obtain ⟨xp, rfl⟩ : ∃ x, np = x + 1 := ⟨np - 1, by omega⟩
        obtain ⟨N, hwp⟩ := hwp
        have HP := Lib.hid hwp
        clear hnp hwp FP
        go_wp2_with fail
        refine (Z6.out.place_no s Hs.out (x := xp) (L' := N) (by rw [He.out]; exact HP.out)).mono ?_
        rintro r w7 ⟨rfl, nd7, he7, hz⟩
        have Z7 := Lib.hid hz
        have He7 := Lib.hid (he7.trans He.out)
        clear hz he7
        generalize hxp : ((xp + 1 : Nat) : Int) = yp
        have Hxp := Lib.hid hxp
        clear hxp
        go_wp2_with fail
        refine (Z7.out.list).mono ?_
        rintro r w8 ⟨o8, c8, rfl, h8, hz8⟩
        obtain ⟨n8, hn8⟩ : ∃ x, x = (ents nd7).length := ⟨_, rfl⟩
        rw [← hn8]
        rw [← hn8, He7.out] at h8
        have E8 := Lib.hid h8
        have Z8 := Lib.hid hz8
        clear h8 hz8
        have hn9 := Lib.hid (show L.length = n8 from by rw [hn8, He7.out])
        clear hn8
        go_wp2_with fail
        refine (same_any _ _ L w8 E8.out Z8.out.e Hl.out).mono ?_
        rintro r w9 ⟨hb, rfl⟩
        have B9 := Lib.hid (Z8.out.bel.trans (hb.mono Z8.out.bel.size))
        clear hb
        go_wp2_with fail
        refine (Hof.out w9 B9.out).mono ?_
        rintro r w10 ⟨h1, _, h3⟩
        obtain ⟨U, ru, mu, nu, rfl, hu, heu⟩ := h1 Hc0.out
        have Y1 := Lib.hid (show OneZ w w10 U ru mu nu (.slice o n cap) L from ⟨hu.lower B9.out.size, HE.out, B9.out.trans (h3.mono B9.out.size)⟩)
        have Heu := Lib.hid heu
        clear h1 h3 hu heu
        rcases FM.out with ⟨N2, pm, hm1, hm2, hm3, hm4, hm5, hm6, hm7, hwm⟩ | ⟨nm, hnm, hwm⟩
        · have SM := Lib.hid (fun (W : World) v (h : EntsAt W v N2) => straight_any v N2 pm W h (Nat.le_trans hm4.len (by decide)) (by omega) hm2)
          have KM := Lib.hid (fun (W : World) v (h : EntsAt W v N2) => kindAt_any v N2 pm W h (Nat.le_trans hm4.len (by decide)))
          have OM := Lib.hid (fun (W : World) v (h : EntsAt W v N2) (h2 : EntsAt W (.slice o n cap) L) => holds_any v _ N2 L W h h2 hm4 hm5 (Nat.le_trans hm4.len (by decide)) Hl.out)
          have HM := Lib.hid hwm
          have HM6 := Lib.hid hm6
          have HM7 := Lib.hid hm7
          rw [hm3] at KM
          have hpm : (pm.toList == pm.toList) = true := by simp
          clear hm1 hm2 hm3 hm4 hm5 hm6 hm7 hwm FM
          go_wp2_with fail
          refine (Y1.out.make_ok s Hs.out (p := pm) (by rw [Heu.out]; exact HM.out)).mono ?_
          rintro r w11 ⟨rfl, nv, hev, hz⟩
          have Y2 := Lib.hid hz
          have Hev := Lib.hid hev
          clear hz hev
          go_wp2_with fail
          refine (Y2.out.list).mono ?_
          rintro r w12 ⟨o12, c12, rfl, h12, hz12⟩
          obtain ⟨n12, hn12⟩ : ∃ x, x = (ents nv).length := ⟨_, rfl⟩
          rw [← hn12]
          rw [← hn12, Hev.out] at h12
          have E12 := Lib.hid h12
          have Y3 := Lib.hid hz12
          have E13 := Lib.hid hz12.e
          clear h12 hz12 hn12
          go_wp2_with fail
          refine (SM.out w12 _ E12.out).mono ?_
          rintro r w13 ⟨rfl, rfl⟩
          go_wp2_with fail
          refine (KM.out w13 _ E12.out).mono ?_
          rintro r w12 ⟨rfl, rfl⟩
          go_wp2_with fail
          refine (OM.out w12 _ E12.out E13.out).mono ?_
          rintro r w13 ⟨rfl, hb⟩
          have Y4 := Lib.hid (Y3.out.below hb)
          clear hb
          go_wp2_with fail
          obtain ⟨tm, htm⟩ := HM6.out
          refine (Y4.out.find_ok s true Hs.out (p := pm) (t := tm) (by rw [Hev.out]; exact htm)).mono ?_
          rintro r w14 ⟨rfl, hz⟩
          have B14 := Lib.hid hz.bel
          clear hz htm
          go_wp2_with fail
          go_ret
          exact ⟨rfl, B14.out⟩
        · obtain ⟨xm, rfl⟩ : ∃ x, nm = x + 1 := ⟨nm - 1, by omega⟩
          obtain ⟨N2, hwm⟩ := hwm
          have HM := Lib.hid hwm
          clear hnm hwm FM
          go_wp2_with fail
          refine (Y1.out.make_no s Hs.out (x := xm) (L' := N2) (by rw [Heu.out]; exact HM.out)).mono ?_
          rintro r w11 ⟨rfl, nv, hev, hz⟩
          have Y2 := Lib.hid hz
          have Hev := Lib.hid (hev.trans Heu.out)
          clear hz hev
          generalize hxm : ((xm + 1 : Nat) : Int) = ym
          have Hxm := Lib.hid hxm
          clear hxm
          go_wp2_with fail
          refine (Y2.out.list).mono ?_
          rintro r w12 ⟨o12, c12, rfl, h12, hz12⟩
          obtain ⟨n12, hn12⟩ : ∃ x, x = (ents nv).length := ⟨_, rfl⟩
          rw [← hn12]
          rw [← hn12, Hev.out] at h12
          have E12 := Lib.hid h12
          have Y3 := Lib.hid hz12
          have hn13 := Lib.hid (show L.length = n12 from by rw [hn12, Hev.out])
          clear h12 hz12 hn12
          go_wp2_with fail
          refine (same_any _ _ L w12 E12.out Y3.out.e Hl.out).mono ?_
          rintro r w13 ⟨hb, rfl⟩
          have B13 := Lib.hid (Y3.out.bel.trans (hb.mono Y3.out.bel.size))
          clear hb
          go_wp2_with fail
          go_ret
          exact ⟨rfl, B13.out⟩
    · obtain ⟨xb, rfl⟩ : ∃ x, nb = x + 1 := ⟨nb - 1, by omega⟩
      have HB := Lib.hid hwb
      clear hnb hwb FB
      go_wp2_with fail
      refine (Z3.out.find_no s false Hs.out (x := xb) (by rw [He.out]; exact HB.out)).mono ?_
      rintro r w4 ⟨rfl, hz⟩
      have Z4 := Lib.hid hz
      have E4 := Lib.hid hz.e
      clear hz
      generalize hxb : ((xb + 1 : Nat) : Int) = yb
      have Hxb := Lib.hid hxb
      clear hxb
      go_wp2_with fail
      refine (Z4.out.list).mono ?_
      rintro r w5 ⟨o5, c5, rfl, h5, hz5⟩
      rw [He.out] at h5
      obtain ⟨n5, hn5⟩ : ∃ x, x = (ents nd).length := ⟨_, rfl⟩
      rw [← hn5]
      rw [show L.length = n5 from by rw [hn5, He.out]] at h5
      have E5 := Lib.hid h5
      have Z5 := Lib.hid hz5
      clear h5 hz5 hn5
      go_wp2_with fail
      refine (same_any _ _ L w5 E5.out Z5.out.e Hl.out).mono ?_
      rintro r w6 ⟨hb, rfl⟩
      have Z6 := Lib.hid (Z5.out.below hb)
      clear hb
      rcases FP.out with ⟨N, pp, hp1, hp2, hp3, hp4, hp5, hwp⟩ | ⟨np, hnp, hwp⟩
      · have SP := Lib.hid (fun (W : World) v (h : EntsAt W v N) => straight_any v N pp W h (Nat.le_trans hp4.len (by decide)) (by omega) hp2)
        have KP := Lib.hid (fun (W : World) v (h : EntsAt W v N) => kindAt_any v N pp W h (Nat.le_trans hp4.len (by decide)))
        have OP := Lib.hid (fun (W : World) v (h : EntsAt W v N) (h2 : EntsAt W (.slice o n cap) L) => holds_any v _ N L W h h2 hp4 hp5 (Nat.le_trans hp4.len (by decide)) Hl.out)
        have HP := Lib.hid hwp
        generalize hkp : kindT N pp.data.toList = kp at KP hp3
        have kp3 : (kp == 3) = false := by simpa using hp3
        clear hp1 hp2 hp3 hp4 hp5 hwp hkp FP
        go_wp2_with fail
        refine (Z6.out.place_ok s Hs.out (p := pp) (by rw [He.out]; exact HP.out)).mono ?_
        rintro r w7 ⟨rfl, nd7, he7, hz⟩
        have Z7 := Lib.hid hz
        have He7 := Lib.hid he7
        clear hz he7
        go_wp2_with fail
        refine (Z7.out.list).mono ?_
        rintro r w8 ⟨o8, c8, rfl, h8, hz8⟩
        obtain ⟨n8, hn8⟩ : ∃ x, x = (ents nd7).length := ⟨_, rfl⟩
        rw [← hn8]
        rw [← hn8, He7.out] at h8
        have E8 := Lib.hid h8
        have Z8 := Lib.hid hz8
        have E9 := Lib.hid hz8.e
        clear h8 hz8 hn8
        go_wp2_with fail
        refine (SP.out w8 _ E8.out).mono ?_
        rintro r w9 ⟨rfl, rfl⟩
        go_wp2_with fail
        refine (KP.out w9 _ E8.out).mono ?_
        rintro r w8 ⟨rfl, rfl⟩
        go_wp2_with fail
        refine (OP.out w8 _ E8.out E9.out).mono ?_
        rintro r w9 ⟨rfl, hb⟩
        have B9 := Lib.hid (Z8.out.bel.trans (hb.mono Z8.out.bel.size))
        clear hb
        go_wp2_with fail
        refine (Hof.out w9 B9.out).mono ?_
        rintro r w10 ⟨h1, _, h3⟩
        obtain ⟨U, ru, mu, nu, rfl, hu, heu⟩ := h1 Hc0.out
        have Y1 := Lib.hid (show OneZ w w10 U ru mu nu (.slice o n cap) L from ⟨hu.lower B9.out.size, HE.out, B9.out.trans (h3.mono B9.out.size)⟩)
        have Heu := Lib.hid heu
        clear h1 h3 hu heu
        rcases FM.out with ⟨N2, pm, hm1, hm2, hm3, hm4, hm5, hm6, hm7, hwm⟩ | ⟨nm, hnm, hwm⟩
        · have SM := Lib.hid (fun (W : World) v (h : EntsAt W v N2) => straight_any v N2 pm W h (Nat.le_trans hm4.len (by decide)) (by omega) hm2)
          have KM := Lib.hid (fun (W : World) v (h : EntsAt W v N2) => kindAt_any v N2 pm W h (Nat.le_trans hm4.len (by decide)))
          have OM := Lib.hid (fun (W : World) v (h : EntsAt W v N2) (h2 : EntsAt W (.slice o n cap) L) => holds_any v _ N2 L W h h2 hm4 hm5 (Nat.le_trans hm4.len (by decide)) Hl.out)
          have HM := Lib.hid hwm
          have HM6 := Lib.hid hm6
          have HM7 := Lib.hid hm7
          rw [hm3] at KM
          have hpm : (pm.toList == pm.toList) = true := by simp
          clear hm1 hm2 hm3 hm4 hm5 hm6 hm7 hwm FM
          go_wp2_with fail
          refine (Y1.out.make_ok s Hs.out (p := pm) (by rw [Heu.out]; exact HM.out)).mono ?_
          rintro r w11 ⟨rfl, nv, hev, hz⟩
          have Y2 := Lib.hid hz
          have Hev := Lib.hid hev
          clear hz hev
          go_wp2_with fail
          refine (Y2.out.list).mono ?_
          rintro r w12 ⟨o12, c12, rfl, h12, hz12⟩
          obtain ⟨n12, hn12⟩ : ∃ x, x = (ents nv).length := ⟨_, rfl⟩
          rw [← hn12]
          rw [← hn12, Hev.out] at h12
          have E12 := Lib.hid h12
          have Y3 := Lib.hid hz12
          have E13 := Lib.hid hz12.e
          clear h12 hz12 hn12
          go_wp2_with fail
          refine (SM.out w12 _ E12.out).mono ?_
          rintro r w13 ⟨rfl, rfl⟩
          go_wp2_with fail
          refine (KM.out w13 _ E12.out).mono ?_
          rintro r w12 ⟨rfl, rfl⟩
          go_wp2_with fail
          refine (OM.out w12 _ E12.out E13.out).mono ?_
          rintro r w13 ⟨rfl, hb⟩
          have Y4 := Lib.hid (Y3.out.below hb)
          clear hb
          go_wp2_with fail
          obtain ⟨tm, htm⟩ := HM6.out
          refine (Y4.out.find_ok s true Hs.out (p := pm) (t := tm) (by rw [Hev.out]; exact htm)).mono ?_
          rintro r w14 ⟨rfl, hz⟩
          have B14 := Lib.hid hz.bel
          clear hz htm
          go_wp2_with fail
          go_ret
          exact ⟨rfl, B14.out⟩
        · obtain ⟨xm, rfl⟩ : ∃ x, nm = x + 1 := ⟨nm - 1, by omega⟩
          obtain ⟨N2, hwm⟩ := hwm
          have HM := Lib.hid hwm
          clear hnm hwm FM
          go_wp2_with fail
          refine (Y1.out.make_no s Hs.out (x := xm) (L' := N2) (by rw [Heu.out]; exact HM.out)).mono ?_
          rintro r w11 ⟨rfl, nv, hev, hz⟩
          have Y2 := Lib.hid hz
          have Hev := Lib.hid (hev.trans Heu.out)
          clear hz hev
          generalize hxm : ((xm + 1 : Nat) : Int) = ym
          have Hxm := Lib.hid hxm
          clear hxm
          go_wp2_with fail
          refine (Y2.out.list).mono ?_
          rintro r w12 ⟨o12, c12, rfl, h12, hz12⟩
          obtain ⟨n12, hn12⟩ : ∃ x, x = (ents nv).length := ⟨_, rfl⟩
          rw [← hn12]
          rw [← hn12, Hev.out] at h12
          have E12 := Lib.hid h12
          have Y3 := Lib.hid hz12
          have hn13 := Lib.hid (show L.length = n12 from by rw [hn12, Hev.out])
          clear h12 hz12 hn12
          go_wp2_with fail
          refine (same_any _ _ L w12 E12.out Y3.out.e Hl.out).mono ?_
          rintro r w13 ⟨hb, rfl⟩
          have B13 := Lib.hid (Y3.out.bel.trans (hb.mono Y3.out.bel.size))
          clear hb
          go_wp2_with fail
          go_ret
          exact ⟨rfl, B13.out⟩
      · obtain ⟨xp, rfl⟩ : ∃ x, np = x + 1 := ⟨np - 1, by omega⟩
        obtain ⟨N, hwp⟩ := hwp
        have HP := Lib.hid hwp
        clear hnp hwp FP
        go_wp2_with fail
        refine (Z6.out.place_no s Hs.out (x := xp) (L' := N) (by rw [He.out]; exact HP.out)).mono ?_
        rintro r w7 ⟨rfl, nd7, he7, hz⟩
        have Z7 := Lib.hid hz
        have He7 := Lib.hid (he7.trans He.out)
        clear hz he7
        generalize hxp : ((xp + 1 : Nat) : Int) = yp
        have Hxp := Lib.hid hxp
        clear hxp
        go_wp2_with fail
        refine (Z7.out.list).mono ?_
        rintro r w8 ⟨o8, c8, rfl, h8, hz8⟩
        obtain ⟨n8, hn8⟩ : ∃ x, x = (ents nd7).length := ⟨_, rfl⟩
        rw [← hn8]
        rw [← hn8, He7.out] at h8
        have E8 := Lib.hid h8
        have Z8 := Lib.hid hz8
        clear h8 hz8
        have hn9 := Lib.hid (show L.length = n8 from by rw [hn8, He7.out])
        clear hn8
        go_wp2_with fail
        refine (same_any _ _ L w8 E8.out Z8.out.e Hl.out).mono ?_
        rintro r w9 ⟨hb, rfl⟩
        have B9 := Lib.hid (Z8.out.bel.trans (hb.mono Z8.out.bel.size))
        clear hb
        go_wp2_with fail
        refine (Hof.out w9 B9.out).mono ?_
        rintro r w10 ⟨h1, _, h3⟩
        obtain ⟨U, ru, mu, nu, rfl, hu, heu⟩ := h1 Hc0.out
        have Y1 := Lib.hid (show OneZ w w10 U ru mu nu (.slice o n cap) L from ⟨hu.lower B9.out.size, HE.out, B9.out.trans (h3.mono B9.out.size)⟩)
        have Heu := Lib.hid heu
        clear h1 h3 hu heu
        rcases FM.out with ⟨N2, pm, hm1, hm2, hm3, hm4, hm5, hm6, hm7, hwm⟩ | ⟨nm, hnm, hwm⟩
        · have SM := Lib.hid (fun (W : World) v (h : EntsAt W v N2) => straight_any v N2 pm W h (Nat.le_trans hm4.len (by decide)) (by omega) hm2)
          have KM := Lib.hid (fun (W : World) v (h : EntsAt W v N2) => kindAt_any v N2 pm W h (Nat.le_trans hm4.len (by decide)))
          have OM := Lib.hid (fun (W : World) v (h : EntsAt W v N2) (h2 : EntsAt W (.slice o n cap) L) => holds_any v _ N2 L W h h2 hm4 hm5 (Nat.le_trans hm4.len (by decide)) Hl.out)
          have HM := Lib.hid hwm
          have HM6 := Lib.hid hm6
          have HM7 := Lib.hid hm7
          rw [hm3] at KM
          have hpm : (pm.toList == pm.toList) = true := by simp
          clear hm1 hm2 hm3 hm4 hm5 hm6 hm7 hwm FM
          go_wp2_with fail
          refine (Y1.out.make_ok s Hs.out (p := pm) (by rw [Heu.out]; exact HM.out)).mono ?_
          rintro r w11 ⟨rfl, nv, hev, hz⟩
          have Y2 := Lib.hid hz
          have Hev := Lib.hid hev
          clear hz hev
          go_wp2_with fail
          refine (Y2.out.list).mono ?_
          rintro r w12 ⟨o12, c12, rfl, h12, hz12⟩
          obtain ⟨n12, hn12⟩ : ∃ x, x = (ents nv).length := ⟨_, rfl⟩
          rw [← hn12]
          rw [← hn12, Hev.out] at h12
          have E12 := Lib.hid h12
          have Y3 := Lib.hid hz12
          have E13 := Lib.hid hz12.e
          clear h12 hz12 hn12
          go_wp2_with fail
          refine (SM.out w12 _ E12.out).mono ?_
          rintro r w13 ⟨rfl, rfl⟩
          go_wp2_with fail
          refine (KM.out w13 _ E12.out).mono ?_
          rintro r w12 ⟨rfl, rfl⟩
          go_wp2_with fail
          refine (OM.out w12 _ E12.out E13.out).mono ?_
          rintro r w13 ⟨rfl, hb⟩
          have Y4 := Lib.hid (Y3.out.below hb)
          clear hb
          go_wp2_with fail
          obtain ⟨tm, htm⟩ := HM6.out
          refine (Y4.out.find_ok s true Hs.out (p := pm) (t := tm) (by rw [Hev.out]; exact htm)).mono ?_
          rintro r w14 ⟨rfl, hz⟩
          have B14 := Lib.hid hz.bel
          clear hz htm
          go_wp2_with fail
          go_ret
          exact ⟨rfl, B14.out⟩
        · obtain ⟨xm, rfl⟩ : ∃ x, nm = x + 1 := ⟨nm - 1, by omega⟩
          obtain ⟨N2, hwm⟩ := hwm
          have HM := Lib.hid hwm
          clear hnm hwm FM
          go_wp2_with fail
          refine (Y1.out.make_no s Hs.out (x := xm) (L' := N2) (by rw [Heu.out]; exact HM.out)).mono ?_
          rintro r w11 ⟨rfl, nv, hev, hz⟩
          have Y2 := Lib.hid hz
          have Hev := Lib.hid (hev.trans Heu.out)
          clear hz hev
          generalize hxm : ((xm + 1 : Nat) : Int) = ym
          have Hxm := Lib.hid hxm
          clear hxm
          go_wp2_with fail
          refine (Y2.out.list).mono ?_
          rintro r w12 ⟨o12, c12, rfl, h12, hz12⟩
          obtain ⟨n12, hn12⟩ : ∃ x, x = (ents nv).length := ⟨_, rfl⟩
          rw [← hn12]
          rw [← hn12, Hev.out] at h12
          have E12 := Lib.hid h12
          have Y3 := Lib.hid hz12
          have hn13 := Lib.hid (show L.length = n12 from by rw [hn12, Hev.out])
          clear h12 hz12 hn12
          go_wp2_with fail
          refine (same_any _ _ L w12 E12.out Y3.out.e Hl.out).mono ?_
          rintro r w13 ⟨hb, rfl⟩
          have B13 := Lib.hid (Y3.out.bel.trans (hb.mono Y3.out.bel.size))
          clear hb
          go_wp2_with fail
          go_ret
          exact ⟨rfl, B13.out⟩
end Go.Proofs.YtdkodedocklmdaaGreat
