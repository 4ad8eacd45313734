/- ResolveKnown, with ResolveFind's walk (SLaw, KAll). -/
import Derived.Test.YtdkodedocklmdaaGreatDoorRSome
import Derived.Test.YtdkodedocklmdaaGreatDoorSWay
import Derived.Test.YtdkodedocklmdaaGreatDoorTListed
import Derived.Test.YtdkodedocklmdaaGreatDoorPAsks
import Derived.Test.YtdkodedocklmdaaGreatDoorAWay
import Derived.Test.YtdkodedocklmdaaGreatDoorPlays
import Derived.Deep.DeepCutAuto
import Derived.Deep.RegionHeld3
import Derived.RangeFuncBox
set_option linter.unusedSimpArgs false
set_option linter.unusedVariables false
namespace Go.Proofs.YtdkodedocklmdaaGreatDoor
section
open Go.RowKit Go.Shelf Go.Maps
open Go.Lib hiding intOf size_eq
set_option maxRecDepth 100000 in
set_option maxHeartbeats 4000000 in
theorem resolveFind_any (v : Value) (L : List Ent) (s : ByteArray) (w : World) (h : EntsAt w v L) (hb : Small L) (hl : L.length ≤ 1099511627776) (hs : s.size ≤ 4294967296) (hg : Handle w) :
    Calls Tryz.prog 6 #[v, .string s] w fun r w' => r = .returned (.bool true) ∧ Below w.heap.size w w' := by
  have hof := of_any v L w h hb hl
  have hE := h
  obtain ⟨o, cap, rfl, _, _, _⟩ := h
  have Hof := Lib.hid hof
  have Hg := Lib.hid hg
  have HE := Lib.hid hE
  have Hb := Lib.hid hb
  obtain ⟨n, hn⟩ : ∃ n, n = L.length := ⟨_, rfl⟩
  rw [← hn] at Hof ⊢
  have Hn := Lib.hid hn
  have Hl := Lib.hid hl
  clear hof hg hb hE hn hl
  by_cases hc0 : (checkL L).1 = 0
  · go_enter Tryz.func6, Tryz.ntmps6
    go_upto_region 4 with (first
      | (go_at_call 32; refine Hof.out.mono ?_; rintro r w1 ⟨h1, _, hb⟩; obtain ⟨T, rt, rm, nd, rfl, ht, he⟩ := h1 hc0
         have HG1 := Lib.hid (Hg.out.below hb (Nat.le_refl _))
         have HT1 := Lib.hid (ht.lower (Nat.zero_le _))
         have He := Lib.hid he
         have HB1 := Lib.hid hb
         clear h1 hb ht he))
    have hgood := check_good HT1.out He.out
    have F1 := Lib.hid (fun W (hW : Below w.heap.size w W) => rfind_any L hgood true (.slice o n cap) s W (by rw [Hn.out]; exact HE.out.below hW (Nat.le_refl _)) Hl.out (fun e he => by have := (Hb.out e he).1; omega) hs)
    have F2 := Lib.hid (fun W (hW : Below w.heap.size w W) => rfind_any L hgood false (.slice o n cap) s W (by rw [Hn.out]; exact HE.out.below hW (Nat.le_refl _)) Hl.out (fun e he => by have := (Hb.out e he).1; omega) hs)
    have F3 := Lib.hid (fun W hW => find_both (T := T) (rt := rt) (rm := rm) (nd := nd) s true W hW hs)
    have F4 := Lib.hid (fun W hW => find_both (T := T) (rt := rt) (rm := rm) (nd := nd) s false W hW hs)
    have P1 := Lib.hid (fun W (hW : Handle W) => plain_same (findN (wayF L false s.data.toList)) W findN_small hW)
    have P2 := Lib.hid (fun W (hW : Handle W) => plain_same (findN (wayF L true s.data.toList)) W findN_small hW)
    have HS := Lib.hid (fun va W (hW : Below w.heap.size w W) (ha : EntsAt W va L) => same_any va (.slice o n cap) L W ha (by rw [Hn.out]; exact HE.out.below hW (Nat.le_refl _)) Hl.out)
    have HL := Lib.hid (fun W (hW : TreeAt W T rt rm 0 nd) => (list_any W hW).mono (fun e w' h => show ∃ va, e = .returned va ∧ EntsAt w' va L ∧ Below W.heap.size W w' from by
      obtain ⟨va, h1, h2, h3⟩ := h
      exact ⟨va, h1, by rw [← He.out]; exact ents_of_row h2, h3⟩))
    rw [He.out] at F3 F4
    rw [show (!true) = false from rfl] at F1 F3
    rw [show (!false) = true from rfl] at F2 F4
    generalize findB (wayF L false s.data.toList) = b1 at *
    generalize findB (wayF L true s.data.toList) = b2 at *
    generalize findN (wayF L false s.data.toList) = n1 at *
    generalize findN (wayF L true s.data.toList) = n2 at *
    generalize he1 : errV n1 = e1 at *
    generalize he2 : errV n2 = e2 at *
    clear hgood hc0 he1 he2
    have b1t : (b1.toList == b1.toList) = true := by simp
    have b2t : (b2.toList == b2.toList) = true := by simp
    go_wp2_with (first
      | (go_at_call 34; refine (F1.out _ HB1.out).mono ?_; rintro r w2 ⟨hb, rfl⟩
         have HT2 := Lib.hid (HT1.out.below hb (Nat.le_refl _))
         have HB2 := Lib.hid (HB1.out.trans (hb.mono HB1.out.size))
         have HG2 := Lib.hid (HG1.out.below hb (Nat.le_refl _))
         clear hb HT1 HB1 HG1 F1)
      | (go_at_call 34; refine (F2.out _ HB2.out).mono ?_; rintro r w3 ⟨hb, rfl⟩
         have HT3 := Lib.hid (HT2.out.below hb (Nat.le_refl _))
         have HB3 := Lib.hid (HB2.out.trans (hb.mono HB2.out.size))
         have HG3 := Lib.hid (HG2.out.below hb (Nat.le_refl _))
         clear hb HT2 HB2 HG2 F2)
      | (go_at_call 35; refine (F3.out _ HT3.out).mono ?_; rintro r w4 ⟨hb, rfl⟩
         have HT4 := Lib.hid (HT3.out.below hb (Nat.le_refl _))
         have HB4 := Lib.hid (HB3.out.trans (hb.mono HB3.out.size))
         have HG4 := Lib.hid (HG3.out.below hb (Nat.le_refl _))
         clear hb HT3 HB3 HG3 F3)
      | (go_at_call 35; refine (F4.out _ HT4.out).mono ?_; rintro r w5 ⟨hb, rfl⟩
         have HT5 := Lib.hid (HT4.out.below hb (Nat.le_refl _))
         have HB5 := Lib.hid (HB4.out.trans (hb.mono HB4.out.size))
         have HG5 := Lib.hid (HG4.out.below hb (Nat.le_refl _))
         clear hb HT4 HB4 HG4 F4)
      | (go_at_call 36; refine (P1.out _ HG5.out).mono ?_; rintro r w6 ⟨rfl, hb⟩
         have HT6 := Lib.hid (HT5.out.below hb (Nat.le_refl _))
         have HB6 := Lib.hid (HB5.out.trans (hb.mono HB5.out.size))
         have HG6 := Lib.hid (HG5.out.below hb (Nat.le_refl _))
         clear hb HT5 HB5 HG5 P1)
      | (go_at_call 36; refine (P2.out _ HG6.out).mono ?_; rintro r w7 ⟨rfl, hb⟩
         have HT7 := Lib.hid (HT6.out.below hb (Nat.le_refl _))
         have HB7 := Lib.hid (HB6.out.trans (hb.mono HB6.out.size))
         have HG7 := Lib.hid (HG6.out.below hb (Nat.le_refl _))
         clear hb HT6 HB6 HG6 P2)
      | (go_at_call 20; refine (HL.out _ HT7.out).mono ?_; rintro r w8 ⟨va, rfl, hva, hb⟩
         have HT8 := Lib.hid (HT7.out.below hb (Nat.le_refl _))
         have HB8 := Lib.hid (HB7.out.trans (hb.mono HB7.out.size))
         have HG8 := Lib.hid (HG7.out.below hb (Nat.le_refl _))
         obtain ⟨vo, vcap, rfl, _, _, _⟩ := id hva
         have HVA := Lib.hid hva
         clear hva
         clear hb HT7 HB7 HG7 HL)
      | (go_at_call 23; refine (HS.out _ _ HB8.out HVA.out).mono ?_; rintro r w9 ⟨hb, rfl⟩
         have HT9 := Lib.hid (HT8.out.below hb (Nat.le_refl _))
         have HB9 := Lib.hid (HB8.out.trans (hb.mono HB8.out.size))
         have HG9 := Lib.hid (HG8.out.below hb (Nat.le_refl _))
         clear hb HT8 HB8 HG8 HS)
      | (go_at_call 33; refine (works_any _ HG9.out).mono ?_; rintro r w10 ⟨rfl, hb⟩
         have HB10 := Lib.hid (HB9.out.trans (hb.mono HB9.out.size))
         clear hb HB9 HG9))
    go_ret
    exact ⟨rfl, HB10.out⟩
  · go_enter Tryz.func6, Tryz.ntmps6
    go_wp2_with (first
      | (go_at_call 32; refine Hof.out.mono ?_; rintro r w1 ⟨_, h2, hb⟩; obtain rfl := h2 hc0
         have HG1 := Lib.hid (Hg.out.below hb (Nat.le_refl _))
         have HB1 := Lib.hid hb
         clear h2 hb)
      | (go_at_call 33; refine (works_any _ HG1.out).mono ?_; rintro r w2 ⟨rfl, hb⟩
         have HB2 := Lib.hid (HB1.out.trans (hb.mono HB1.out.size))
         clear hb HB1 HG1))
    go_ret
    exact ⟨rfl, HB2.out⟩
end
section
section
open Go.RowKit Go.Shelf Go.Maps Go.Sort
open Go.Lib hiding intOf size_eq
def worldK : List Ent := [⟨⟨#[97]⟩, 1, 493, ⟨#[]⟩, ⟨#[]⟩⟩, ⟨⟨#[97, 47, 98]⟩, 1, 448, ⟨#[]⟩, ⟨#[]⟩⟩, ⟨⟨#[97, 47, 98, 47, 103]⟩, 3, 511, ⟨#[]⟩, ⟨#[46, 46, 47, 102]⟩⟩, ⟨⟨#[97, 47, 102]⟩, 2, 420, ⟨#[102]⟩, ⟨#[]⟩⟩, ⟨⟨#[97, 47, 117, 112]⟩, 3, 511, ⟨#[]⟩, ⟨#[46, 46, 47, 120]⟩⟩, ⟨⟨#[108]⟩, 3, 511, ⟨#[]⟩, ⟨#[97, 47, 98]⟩⟩, ⟨⟨#[110]⟩, 3, 511, ⟨#[]⟩, ⟨#[110, 111, 110, 101]⟩⟩, ⟨⟨#[111]⟩, 3, 511, ⟨#[]⟩, ⟨#[111]⟩⟩, ⟨⟨#[116, 111, 112]⟩, 3, 511, ⟨#[]⟩, ⟨#[47, 97]⟩⟩]
structure RowK where
  k : Int
  way : ByteArray
  want : ByteArray
  no : Nat
  n : Nat
def rowsK : List RowK := [⟨0, ⟨#[47, 97, 47, 47, 98, 47, 46]⟩, ⟨#[97, 47, 98]⟩, 0, 9⟩, ⟨0, ⟨#[46, 46, 47, 46, 46, 47, 97]⟩, ⟨#[97]⟩, 0, 9⟩, ⟨0, ⟨#[]⟩, ⟨#[]⟩, 0, 9⟩, ⟨0, ⟨#[108]⟩, ⟨#[97, 47, 98]⟩, 0, 9⟩, ⟨1, ⟨#[108]⟩, ⟨#[108]⟩, 0, 9⟩, ⟨1, ⟨#[108, 47]⟩, ⟨#[108]⟩, 0, 9⟩, ⟨1, ⟨#[108, 47, 46]⟩, ⟨#[97, 47, 98]⟩, 0, 9⟩, ⟨0, ⟨#[108, 47, 103]⟩, ⟨#[97, 47, 102]⟩, 0, 9⟩, ⟨1, ⟨#[108, 47, 103]⟩, ⟨#[97, 47, 98, 47, 103]⟩, 0, 9⟩, ⟨0, ⟨#[108, 47, 46, 46]⟩, ⟨#[97]⟩, 0, 9⟩, ⟨0, ⟨#[116, 111, 112, 47, 102]⟩, ⟨#[97, 47, 102]⟩, 0, 9⟩, ⟨1, ⟨#[116, 111, 112, 47, 117, 112]⟩, ⟨#[97, 47, 117, 112]⟩, 0, 9⟩, ⟨0, ⟨#[97, 47, 102, 47, 46]⟩, ⟨#[]⟩, 13, 9⟩, ⟨0, ⟨#[97, 47, 120]⟩, ⟨#[]⟩, 10, 9⟩, ⟨0, ⟨#[111]⟩, ⟨#[]⟩, 12, 9⟩, ⟨1, ⟨#[111]⟩, ⟨#[111]⟩, 0, 9⟩, ⟨0, ⟨#[110]⟩, ⟨#[]⟩, 10, 9⟩, ⟨1, ⟨#[110]⟩, ⟨#[110]⟩, 0, 9⟩, ⟨2, ⟨#[108, 47, 99, 47, 100]⟩, ⟨#[97, 47, 98, 47, 99, 47, 100]⟩, 0, 11⟩, ⟨2, ⟨#[116, 111, 112, 47, 117, 112, 47, 121]⟩, ⟨#[120, 47, 121]⟩, 0, 11⟩, ⟨2, ⟨#[97, 47, 102]⟩, ⟨#[]⟩, 13, 9⟩, ⟨2, ⟨#[97, 47, 46, 119, 104, 46, 120]⟩, ⟨#[]⟩, 8, 9⟩, ⟨2, ⟨#[99, 47, 46, 46, 47, 97, 47, 102, 47, 100]⟩, ⟨#[]⟩, 13, 9⟩, ⟨3, ⟨#[110]⟩, ⟨#[110, 111, 110, 101]⟩, 0, 9⟩, ⟨3, ⟨#[97, 47, 102]⟩, ⟨#[97, 47, 102]⟩, 0, 9⟩, ⟨3, ⟨#[108]⟩, ⟨#[97, 47, 98]⟩, 0, 9⟩, ⟨3, ⟨#[113, 47, 114]⟩, ⟨#[113, 47, 114]⟩, 0, 10⟩, ⟨3, ⟨#[113, 47, 46]⟩, ⟨#[113]⟩, 0, 10⟩]
def rowC (r : RowK) : List Value := [.int .i64 r.k, .string r.way, .string r.want, .int .i64 (r.no : Int), .int .i64 (r.n : Int)]
theorem worldK_check : checkL worldK = (0, 0) := by kernel_rfl
def okK (r : RowK) : Bool := (actF (r.k % 4).toNat worldK r.way.data.toList).2.1.data.toList == r.want.data.toList && (actF (r.k % 4).toNat worldK r.way.data.toList).2.2 == r.no && (actF (r.k % 4).toNat worldK r.way.data.toList).1.length == r.n && decide (r.way.size ≤ 100)
theorem rowsK_ok : rowsK.all okK = true := by kernel_rfl
theorem rowK_ok {r : RowK} (h : r ∈ rowsK) : (actF (r.k % 4).toNat worldK r.way.data.toList).2.1 = r.want ∧ (actF (r.k % 4).toNat worldK r.way.data.toList).2.2 = r.no ∧ (actF (r.k % 4).toNat worldK r.way.data.toList).1.length = r.n ∧ r.way.size ≤ 100 := by
  have := List.all_eq_true.1 rowsK_ok r h
  unfold okK at this
  simp only [Bool.and_eq_true, beq_iff_eq, decide_eq_true_eq] at this
  obtain ⟨⟨⟨h1, h2⟩, h3⟩, h4⟩ := this
  refine ⟨?_, h2, h3, h4⟩
  have ext : ∀ {a b : ByteArray}, a.data.toList = b.data.toList → a = b := fun {a b} h => by
    obtain ⟨⟨a⟩⟩ := a
    obtain ⟨⟨b⟩⟩ := b
    simp at h
    rw [h]
  exact ext h1
theorem trailK : wayF worldK false [108, 47, 103] = .ok ([97, 47, 102], [[], [], [97], [97, 47, 98], [97, 47, 98], [97], [97, 47, 102]]) := by kernel_rfl
theorem worldK_small : Small worldK := fun e he => by
  have : worldK.all (fun e => decide (e.p.size < 1152921504606846976) && decide (e.d.size < 1152921504606846976) && decide (e.l.size < 1152921504606846976)) = true := by kernel_rfl
  have := List.all_eq_true.1 this e he
  simp only [Bool.and_eq_true, decide_eq_true_eq] at this
  exact ⟨this.1.1, this.1.2, this.2⟩
set_option maxRecDepth 100000 in
set_option maxHeartbeats 4000000 in
theorem world_any (w : World) : Calls Tryz.prog 89 #[] w fun r w' => r = .returned (.slice (some ⟨w.heap.size, 0, none⟩) 9 9) ∧ EntsAt w' (.slice (some ⟨w.heap.size, 0, none⟩) 9 9) worldK ∧ Below w.heap.size w w' := by
  go_enter Tryz.func89, Tryz.ntmps89
  go_wp2
  go_ret
  refine ⟨rfl, ?_, (Below.refl _ _).alloc (Nat.le_refl _) _⟩
  exact ents_of_row (base := 0) ⟨rfl, .inr ⟨w.heap.size, 9, _, rfl, Nat.zero_le _, World.alloc_heap_new w _, Nat.le_refl _, by unfold maxLen; omega, rfl, rfl⟩⟩
/-- the tree of the examples -/
theorem worldOf_any (v : Value) (w : World) (h : EntsAt w v worldK) : Calls Tryz.prog 32 #[v] w fun r w' => ∃ T rt rm nd, r = .returned (.tuple #[.pointer (some ⟨T, 0, none⟩), .bool true]) ∧ TreeAt w' T rt rm w.heap.size nd ∧ ents nd = worldK ∧ Below w.heap.size w w' :=
  (of_any v worldK w h worldK_small (by decide)).mono fun r w' ⟨h1, _, h3⟩ => by
    obtain ⟨T, rt, rm, nd, q1, q2, q3⟩ := h1 (by rw [worldK_check])
    exact ⟨T, rt, rm, nd, q1, q2, q3, h3⟩
theorem pick4_is (k : Int) (w : World) : Calls Tryz.prog 42 #[.int .i64 k, .int .i64 4] w fun e w' => e = .returned (.int .i64 (((k % 4).toNat : Nat) : Int)) ∧ w' = w := by
  have h1 := Int.emod_nonneg k (show (4 : Int) ≠ 0 by decide)
  rw [Int.toNat_of_nonneg h1]
  go_enter Tryz.func42, Tryz.ntmps42
  go_wp2
  all_goals go_ret
  all_goals
    refine ⟨?_, rfl⟩
    have ht := Int.tmod_eq_emod (a := k) (b := 4)
    have h2 := Int.emod_lt_of_pos k (show (0 : Int) < 4 by decide)
  · have hv : k.tmod 4 + 4 = k % 4 := by
      split at ht
      · omega
      · simp at ht; omega
    rw [hv, show wrap64 (k % 4) = k % 4 from by unfold wrap64; omega]
    rfl
  · have hv : k.tmod 4 = k % 4 := by
      split at ht
      · omega
      · simp at ht; omega
    rw [hv]
    rfl
def RowsAt (w : World) (a : Addr) : Prop := a.block < w.heap.size ∧ ∀ (i : Nat) r, rowsK[i]? = some r → ∀ j x, (rowC r)[j]? = some x → w.cell? ((a.add (i * 5)).add j) = some x
theorem RowsAt.below {w w' : World} {a : Addr} (h : RowsAt w a) (hb : Below w.heap.size w w') : RowsAt w' a :=
  ⟨Nat.lt_of_lt_of_le h.1 hb.size, fun i r hr j x hx => by
    have := h.2 i r hr j x hx
    unfold World.cell? at this ⊢
    rw [hb.block _ (by rw [add_block, add_block]; exact h.1)]
    exact this⟩
theorem rows_get : ∀ {L : List RowK} {i j : Nat} {e : RowK} {x : Value}, L[i]? = some e → (rowC e)[j]? = some x → (L.flatMap rowC)[i * 5 + j]? = some x
  | [], i, j, e, x, h, _ => by simp at h
  | a :: L, 0, j, e, x, h, hx => by
    simp at h
    subst h
    have hj : j < (rowC a).length := (List.getElem?_eq_some_iff.1 hx).1
    rw [List.flatMap_cons, Nat.zero_mul, Nat.zero_add, List.getElem?_append_left hj]
    exact hx
  | a :: L, i + 1, j, e, x, h, hx => by
    simp at h
    have hl : (rowC a).length = 5 := rfl
    rw [List.flatMap_cons, List.getElem?_append_right (by rw [hl]; omega), hl, show (i + 1) * 5 + j - 5 = i * 5 + j by omega]
    exact rows_get h hx
theorem rowsK_flat : (rowsK.flatMap rowC).toArray = #[.int .i64 0, .string ⟨#[47, 97, 47, 47, 98, 47, 46]⟩, .string ⟨#[97, 47, 98]⟩, .int .i64 0, .int .i64 9, .int .i64 0, .string ⟨#[46, 46, 47, 46, 46, 47, 97]⟩, .string ⟨#[97]⟩, .int .i64 0, .int .i64 9, .int .i64 0, .string ⟨#[]⟩, .string ⟨#[]⟩, .int .i64 0, .int .i64 9, .int .i64 0, .string ⟨#[108]⟩, .string ⟨#[97, 47, 98]⟩, .int .i64 0, .int .i64 9, .int .i64 1, .string ⟨#[108]⟩, .string ⟨#[108]⟩, .int .i64 0, .int .i64 9, .int .i64 1, .string ⟨#[108, 47]⟩, .string ⟨#[108]⟩, .int .i64 0, .int .i64 9, .int .i64 1, .string ⟨#[108, 47, 46]⟩, .string ⟨#[97, 47, 98]⟩, .int .i64 0, .int .i64 9, .int .i64 0, .string ⟨#[108, 47, 103]⟩, .string ⟨#[97, 47, 102]⟩, .int .i64 0, .int .i64 9, .int .i64 1, .string ⟨#[108, 47, 103]⟩, .string ⟨#[97, 47, 98, 47, 103]⟩, .int .i64 0, .int .i64 9, .int .i64 0, .string ⟨#[108, 47, 46, 46]⟩, .string ⟨#[97]⟩, .int .i64 0, .int .i64 9, .int .i64 0, .string ⟨#[116, 111, 112, 47, 102]⟩, .string ⟨#[97, 47, 102]⟩, .int .i64 0, .int .i64 9, .int .i64 1, .string ⟨#[116, 111, 112, 47, 117, 112]⟩, .string ⟨#[97, 47, 117, 112]⟩, .int .i64 0, .int .i64 9, .int .i64 0, .string ⟨#[97, 47, 102, 47, 46]⟩, .string ⟨#[]⟩, .int .i64 13, .int .i64 9, .int .i64 0, .string ⟨#[97, 47, 120]⟩, .string ⟨#[]⟩, .int .i64 10, .int .i64 9, .int .i64 0, .string ⟨#[111]⟩, .string ⟨#[]⟩, .int .i64 12, .int .i64 9, .int .i64 1, .string ⟨#[111]⟩, .string ⟨#[111]⟩, .int .i64 0, .int .i64 9, .int .i64 0, .string ⟨#[110]⟩, .string ⟨#[]⟩, .int .i64 10, .int .i64 9, .int .i64 1, .string ⟨#[110]⟩, .string ⟨#[110]⟩, .int .i64 0, .int .i64 9, .int .i64 2, .string ⟨#[108, 47, 99, 47, 100]⟩, .string ⟨#[97, 47, 98, 47, 99, 47, 100]⟩, .int .i64 0, .int .i64 11, .int .i64 2, .string ⟨#[116, 111, 112, 47, 117, 112, 47, 121]⟩, .string ⟨#[120, 47, 121]⟩, .int .i64 0, .int .i64 11, .int .i64 2, .string ⟨#[97, 47, 102]⟩, .string ⟨#[]⟩, .int .i64 13, .int .i64 9, .int .i64 2, .string ⟨#[97, 47, 46, 119, 104, 46, 120]⟩, .string ⟨#[]⟩, .int .i64 8, .int .i64 9, .int .i64 2, .string ⟨#[99, 47, 46, 46, 47, 97, 47, 102, 47, 100]⟩, .string ⟨#[]⟩, .int .i64 13, .int .i64 9, .int .i64 3, .string ⟨#[110]⟩, .string ⟨#[110, 111, 110, 101]⟩, .int .i64 0, .int .i64 9, .int .i64 3, .string ⟨#[97, 47, 102]⟩, .string ⟨#[97, 47, 102]⟩, .int .i64 0, .int .i64 9, .int .i64 3, .string ⟨#[108]⟩, .string ⟨#[97, 47, 98]⟩, .int .i64 0, .int .i64 9, .int .i64 3, .string ⟨#[113, 47, 114]⟩, .string ⟨#[113, 47, 114]⟩, .int .i64 0, .int .i64 10, .int .i64 3, .string ⟨#[113, 47, 46]⟩, .string ⟨#[113]⟩, .int .i64 0, .int .i64 10] := by kernel_rfl
theorem rowsK_at (w : World) : RowsAt (w.alloc (.cells #[.int .i64 0, .string ⟨#[47, 97, 47, 47, 98, 47, 46]⟩, .string ⟨#[97, 47, 98]⟩, .int .i64 0, .int .i64 9, .int .i64 0, .string ⟨#[46, 46, 47, 46, 46, 47, 97]⟩, .string ⟨#[97]⟩, .int .i64 0, .int .i64 9, .int .i64 0, .string ⟨#[]⟩, .string ⟨#[]⟩, .int .i64 0, .int .i64 9, .int .i64 0, .string ⟨#[108]⟩, .string ⟨#[97, 47, 98]⟩, .int .i64 0, .int .i64 9, .int .i64 1, .string ⟨#[108]⟩, .string ⟨#[108]⟩, .int .i64 0, .int .i64 9, .int .i64 1, .string ⟨#[108, 47]⟩, .string ⟨#[108]⟩, .int .i64 0, .int .i64 9, .int .i64 1, .string ⟨#[108, 47, 46]⟩, .string ⟨#[97, 47, 98]⟩, .int .i64 0, .int .i64 9, .int .i64 0, .string ⟨#[108, 47, 103]⟩, .string ⟨#[97, 47, 102]⟩, .int .i64 0, .int .i64 9, .int .i64 1, .string ⟨#[108, 47, 103]⟩, .string ⟨#[97, 47, 98, 47, 103]⟩, .int .i64 0, .int .i64 9, .int .i64 0, .string ⟨#[108, 47, 46, 46]⟩, .string ⟨#[97]⟩, .int .i64 0, .int .i64 9, .int .i64 0, .string ⟨#[116, 111, 112, 47, 102]⟩, .string ⟨#[97, 47, 102]⟩, .int .i64 0, .int .i64 9, .int .i64 1, .string ⟨#[116, 111, 112, 47, 117, 112]⟩, .string ⟨#[97, 47, 117, 112]⟩, .int .i64 0, .int .i64 9, .int .i64 0, .string ⟨#[97, 47, 102, 47, 46]⟩, .string ⟨#[]⟩, .int .i64 13, .int .i64 9, .int .i64 0, .string ⟨#[97, 47, 120]⟩, .string ⟨#[]⟩, .int .i64 10, .int .i64 9, .int .i64 0, .string ⟨#[111]⟩, .string ⟨#[]⟩, .int .i64 12, .int .i64 9, .int .i64 1, .string ⟨#[111]⟩, .string ⟨#[111]⟩, .int .i64 0, .int .i64 9, .int .i64 0, .string ⟨#[110]⟩, .string ⟨#[]⟩, .int .i64 10, .int .i64 9, .int .i64 1, .string ⟨#[110]⟩, .string ⟨#[110]⟩, .int .i64 0, .int .i64 9, .int .i64 2, .string ⟨#[108, 47, 99, 47, 100]⟩, .string ⟨#[97, 47, 98, 47, 99, 47, 100]⟩, .int .i64 0, .int .i64 11, .int .i64 2, .string ⟨#[116, 111, 112, 47, 117, 112, 47, 121]⟩, .string ⟨#[120, 47, 121]⟩, .int .i64 0, .int .i64 11, .int .i64 2, .string ⟨#[97, 47, 102]⟩, .string ⟨#[]⟩, .int .i64 13, .int .i64 9, .int .i64 2, .string ⟨#[97, 47, 46, 119, 104, 46, 120]⟩, .string ⟨#[]⟩, .int .i64 8, .int .i64 9, .int .i64 2, .string ⟨#[99, 47, 46, 46, 47, 97, 47, 102, 47, 100]⟩, .string ⟨#[]⟩, .int .i64 13, .int .i64 9, .int .i64 3, .string ⟨#[110]⟩, .string ⟨#[110, 111, 110, 101]⟩, .int .i64 0, .int .i64 9, .int .i64 3, .string ⟨#[97, 47, 102]⟩, .string ⟨#[97, 47, 102]⟩, .int .i64 0, .int .i64 9, .int .i64 3, .string ⟨#[108]⟩, .string ⟨#[97, 47, 98]⟩, .int .i64 0, .int .i64 9, .int .i64 3, .string ⟨#[113, 47, 114]⟩, .string ⟨#[113, 47, 114]⟩, .int .i64 0, .int .i64 10, .int .i64 3, .string ⟨#[113, 47, 46]⟩, .string ⟨#[113]⟩, .int .i64 0, .int .i64 10] 134)) ⟨w.heap.size, 0, none⟩ := by
  rw [← rowsK_flat]
  refine ⟨by simp, fun i r hr j x hx => ?_⟩
  have e : ((⟨w.heap.size, 0, none⟩ : Addr).add (i * 5)).add j = ⟨w.heap.size, i * 5 + j, none⟩ := by
    unfold Addr.add
    split <;> split <;> simp_all
  rw [e]
  unfold World.cell?
  rw [World.alloc_heap_new]
  simpa using rows_get hr hx
set_option maxRecDepth 100000 in
set_option maxHeartbeats 2000000 in
theorem shown_any (w : World) (hg : Handle w) : Calls Tryz.prog 49 #[] w fun r w' => r = .returned (.bool true) ∧ Below w.heap.size w w' := by
  have Hg := Lib.hid hg
  clear hg
  go_enter Tryz.func49, Tryz.ntmps49
  go_upto_region 1 with fail
  go_cut [1] (fun av wx => ∃ a : Addr, av = .slice (some a) 28 28 ∧ RowsAt wx a ∧ Below w.heap.size w wx)
  case first =>
    go_wp2_with fail
    go_meet
    exact ⟨⟨w.heap.size, 0, none⟩, rfl, rowsK_at w, (Below.refl _ _).alloc (Nat.le_refl _) _⟩
  case rest =>
  obtain ⟨a, rfl, hrw, hbw⟩ := hcut
  have HRw := Lib.hid hrw
  have HBw := Lib.hid hbw
  clear hrw hbw
  go_wp2_with fail
  go_loopw [2] (fun iv wr => ∃ (i : Nat), iv = .int .i64 (i : Int) ∧ i ≤ 28 ∧ RowsAt wr a ∧ Below w.heap.size w wr) (fun iv _ => 28 - (intOf iv).toNat)
  case atStart => exact ⟨0, rfl, by omega, HRw.out, HBw.out⟩
  case round =>
    obtain ⟨i, rfl, hi, hrows, hbr⟩ := hrel
    have HR := Lib.hid hrows
    have Hbr := Lib.hid hbr
    by_cases hlt : i < 28
    · obtain ⟨r, hr⟩ : ∃ r, rowsK[i]? = some r := ⟨_, List.getElem?_eq_getElem hlt⟩
      obtain ⟨q1, q2, q3, q4⟩ := rowK_ok (List.mem_of_getElem? hr)
      have Hr := Lib.hid hr
      have hask := fun (T rt rm tb : Nat) (nd : List Nd) (he : ents nd = worldK) (W : World) (hW : TreeAt W T rt rm tb nd) => asked_any r.k r.way (r.k % 4).toNat (by omega) (pick4_is r.k) W hW (by omega)
      have hsm := actF_small (m := (r.k % 4).toNat) (L := worldK) (way := r.way.data.toList)
      have hask2 : ∀ (T rt rm tb : Nat) (nd : List Nd), ents nd = worldK → ∀ W : World, TreeAt W T rt rm tb nd → Calls Tryz.prog 43 #[.pointer (some ⟨T, 0, none⟩), .agg #[.int .i64 r.k, .string r.way]] W fun e w' => e = .returned (.tuple #[.string r.want, errV r.no]) ∧ ∃ nd', (ents nd').length = r.n ∧ TreeAt w' T rt rm tb nd' ∧ Turned T rt rm nd nd' W w' := fun T rt rm tb nd he W hW => by
        refine (hask T rt rm tb nd he W hW).mono fun e w' h => ?_
        unfold AskR at h
        rw [he, q1, q2] at h
        obtain ⟨h1, nd', h2, h3, h4⟩ := h
        exact ⟨h1, nd', by rw [h2, q3], h3, h4⟩
      rw [q2] at hsm
      have hpl := fun (W : World) (hW : Handle W) => plain_same r.no W hsm hW
      clear hask q1 q2 q3 q4 hr hrows hbr
      generalize hev : errV r.no = ev at *
      have Hask := Lib.hid hask2
      have HPl := Lib.hid hpl
      have b0 : (r.want.toList == r.want.toList) = true := by simp
      have b1 : ((r.n : Int) == (r.n : Int)) = true := by simp
      clear hask2 hpl hev hsm
      go_upto_region 8 with (first
        | (go_at_call 89; refine (world_any _).mono ?_; rintro rr w1 ⟨rfl, he, hb⟩
           have HE1 := Lib.hid he
           have HR1 := Lib.hid (HR.out.below hb)
           have HB1 := Lib.hid (Hbr.out.trans (hb.mono Hbr.out.size))
           clear he hb HR Hbr)
        | (go_at_call 32; refine (worldOf_any _ _ HE1.out).mono ?_; rintro rr w2 ⟨T, rt, rm, nd, rfl, ht, he, hb⟩
           have HT2 := Lib.hid ht
           have He2 := Lib.hid he
           have HR2 := Lib.hid (HR1.out.below hb)
           have HB2 := Lib.hid (HB1.out.trans (hb.mono HB1.out.size))
           have hlo : w1.heap.size ≤ w2.heap.size := hb.size
           have hw1 : w.heap.size ≤ w1.heap.size := HB1.out.size
           have hlow := HR1.out.1
           have Hdis := Lib.hid (show ¬ IsBlk T rt rm nd a.block from fun hx => by have := ht.base_le hx; omega)
           clear ht he hb HR1 HB1 HE1))
      obtain ⟨wz, hz⟩ : ∃ x, x = w2.drew := ⟨_, rfl⟩
      have hbz : Below w2.heap.size w2 wz := by rw [hz]; exact below_drew (Below.refl _ _)
      have hrz := HR2.out.below hbz
      have z0 : w2.cell? (a.add (i * 5)) = some (.int .i64 r.k) := by rw [← add_zero' (a.add (i * 5))]; exact HR2.out.2 i r Hr.out 0 _ rfl
      have z1 : w2.cell? ⟨(a.add (i * 5)).block, (a.add (i * 5)).off + 1, none⟩ = some (.string r.way) := HR2.out.2 i r Hr.out 1 _ rfl
      have HTz := Lib.hid (HT2.out.below hbz (Nat.le_refl _))
      have HRz := Lib.hid hrz
      have HBz := Lib.hid (HB2.out.trans (hbz.mono HB2.out.size))
      have Hz := Lib.hid hz
      clear hz hbz hrz HT2 HR2 HB2
      go_upto_region 8 with fail
      go_cut [5, 6] (fun pv qv wx => pv = .string r.want ∧ qv = ev ∧ ∃ nd5 : List Nd, (ents nd5).length = r.n ∧ TreeAt wx T rt rm w1.heap.size nd5 ∧ RowsAt wx a ∧ Below w.heap.size w wx)
      case first =>
        go_region_law (go_simp; go_at_call 43; refine (Hask.out T rt rm _ nd He2.out w2.drew (by rw [← Hz.out]; exact HTz.out)).mono ?_; rintro rr w5 ⟨rfl, nd5, hl5, ht5, hx5⟩
                       rw [← Hz.out] at hx5
                       have HT5 := Lib.hid ht5
                       have Hl5 := Lib.hid hl5
                       have hkeep := hx5.keep a.block HRz.out.1 Hdis.out
                       have HR5 := Lib.hid (show RowsAt w5 a from ⟨Nat.lt_of_lt_of_le HRz.out.1 hx5.size, fun i r hr j x hx => by
                         have := HRz.out.2 i r hr j x hx
                         unfold World.cell? at this ⊢
                         rw [add_block, add_block] at this ⊢
                         rw [hkeep]
                         exact this⟩)
                       have HB5 := Lib.hid (HBz.out.trans ((hx5.below HTz.out).mono hw1))
                       clear ht5 hl5 hx5 hkeep)
        all_goals go_wp2_with fail
        all_goals go_meet
        all_goals exact ⟨rfl, rfl, nd5, Hl5.out, HT5.out, HR5.out, HB5.out⟩
      case rest =>
        obtain ⟨rfl, rfl, nd5, hl5, ht5, hr5, hb5⟩ := hcut
        obtain ⟨w5, hw5⟩ : ∃ x, x = wc := ⟨_, rfl⟩
        rw [← hw5] at ht5 hr5 hb5 ⊢
        have HT5 := Lib.hid ht5
        have Hl5 := Lib.hid hl5
        have HR5 := Lib.hid hr5
        have HB5 := Lib.hid hb5
        clear hw5 ht5 hl5 hr5 hb5 z0 z1 Hz HTz HRz HBz
        obtain ⟨wd, hd⟩ : ∃ x, x = w5.drew := ⟨_, rfl⟩
        have hbd : Below w5.heap.size w5 wd := by rw [hd]; exact below_drew (Below.refl _ _)
        have HTd := Lib.hid (HT5.out.below hbd (Nat.le_refl _))
        have HRd := Lib.hid (HR5.out.below hbd)
        have HBd := Lib.hid (HB5.out.trans (hbd.mono HB5.out.size))
        have HGd := Lib.hid (Hg.out.below HBd.out (Nat.le_refl _))
        have hS : ∀ W, RowsAt W a → W.cell? ⟨(a.add (i * 5)).block, (a.add (i * 5)).off + 2, none⟩ = some (.string r.want) ∧ W.cell? ⟨(a.add (i * 5)).block, (a.add (i * 5)).off + 3, none⟩ = some (.int .i64 (r.no : Int)) ∧ W.cell? ⟨(a.add (i * 5)).block, (a.add (i * 5)).off + 4, none⟩ = some (.int .i64 (r.n : Int)) := fun W h => ⟨h.2 i r Hr.out 2 _ rfl, h.2 i r Hr.out 3 _ rfl, h.2 i r Hr.out 4 _ rfl⟩
        have HS := Lib.hid hS
        have hsd := hS w5.drew (by rw [← hd]; exact HRd.out)
        have Hd := Lib.hid hd
        clear hd hbd HT5 HR5 HB5 hS
        go_upto_region 9 with fail
        go_region_held3 (fun W => W.cell? ⟨(a.add (i * 5)).block, (a.add (i * 5)).off + 2, none⟩ = some (.string r.want) ∧ W.cell? ⟨(a.add (i * 5)).block, (a.add (i * 5)).off + 3, none⟩ = some (.int .i64 (r.no : Int)) ∧ W.cell? ⟨(a.add (i * 5)).block, (a.add (i * 5)).off + 4, none⟩ = some (.int .i64 (r.n : Int))) (first | assumption | go_keep)
          (first
          | (go_at_call 36; refine (HPl.out w5.drew (by rw [← Hd.out]; exact HGd.out)).mono ?_; rintro rr w6 ⟨rfl, hb⟩
             rw [← Hd.out] at hb
             have H6 := Lib.hid hb
             have hs6 := HS.out w6 (HRd.out.below hb)
             clear hb)
          | (go_at_call 20; refine (list_as (HTd.out.below H6.out (Nat.le_refl _)) rfl Hl5.out.symm).mono ?_; rintro rr w7 ⟨lo, lc, rfl, hnow7, hb⟩
             have hb7 := H6.out.trans (hb.mono H6.out.size)
             have hr7 := HRd.out.below hb7
             have hs7 := HS.out w7 hr7
             have H7 := Lib.hid hb7
             have HR7 := Lib.hid hr7
             clear hb hb7 hnow7 hr7))
        all_goals go_wp2_with fail
        all_goals go_roundw
        all_goals first
          | exact ⟨i + 1, by go_num, by omega, HR7.out, HBd.out.trans (H7.out.mono HBd.out.size)⟩
          | (simp [intOf]; omega)
    · obtain rfl : i = 28 := by omega
      have htr := fun (T rt rm tb : Nat) (nd : List Nd) (he : ents nd = worldK) (W : World) (hW : TreeAt W T rt rm tb nd) => (trail_way ⟨#[108, 47, 103]⟩ W hW (by decide)).mono (R' := fun r w' => Below W.heap.size W w' ∧ ∃ o c, r = .returned (.tuple #[.slice o 7 c, .nilIface]) ∧ Texts w' W.heap.size (.slice o 7 c) [[], [], [97], [97, 47, 98], [97, 47, 98], [97], [97, 47, 102]]) (fun r w' h => by
        unfold TrailR at h
        rw [he, show (⟨#[108, 47, 103]⟩ : ByteArray).data.toList = [108, 47, 103] from rfl, trailK] at h
        obtain ⟨h1, v, h2, h3⟩ := h
        obtain ⟨o, c, rfl, _⟩ := left_of_texts h3
        exact ⟨h1, o, c, h2, h3⟩)
      have Htr := Lib.hid htr
      clear htr hrows hbr HR
      go_upto_region 15 with (first
        | (go_at_call 89; refine (world_any _).mono ?_; rintro rr w1 ⟨rfl, he, hb⟩
           have HE1 := Lib.hid he
           have HB1 := Lib.hid (Hbr.out.trans (hb.mono Hbr.out.size))
           clear he hb Hbr)
        | (go_at_call 32; refine (worldOf_any _ _ HE1.out).mono ?_; rintro rr w2 ⟨T, rt, rm, nd, rfl, ht, he, hb⟩
           have HT2 := Lib.hid ht
           have He2 := Lib.hid he
           have HB2 := Lib.hid (HB1.out.trans (hb.mono HB1.out.size))
           clear ht he hb HB1 HE1)
        | (go_at_call 38; refine (Htr.out T rt rm _ nd He2.out w2 HT2.out).mono ?_; rintro rr w3 ⟨hb, o3, c3, rfl, htx⟩
           have HX3 := Lib.hid htx
           have HB3 := Lib.hid (HB2.out.trans (hb.mono HB2.out.size))
           clear hb htx HB2 Htr))
      have hx4 : Texts (w3.alloc (.cells #[.string ⟨#[]⟩, .string ⟨#[]⟩, .string ⟨#[97]⟩, .string ⟨#[97, 47, 98]⟩, .string ⟨#[97, 47, 98]⟩, .string ⟨#[97]⟩, .string ⟨#[97, 47, 102]⟩] 9)) 0 (.slice (some ⟨w3.heap.size, 0, none⟩) 7 7) [[], [], [97], [97, 47, 98], [97, 47, 98], [97], [97, 47, 102]] :=
        ⟨rfl, .inr ⟨w3.heap.size, 7, _, rfl, Nat.zero_le _, World.alloc_heap_new w3 _, by decide, by unfold maxLen; omega, rfl, rfl⟩⟩
      have hx3 := texts_below_any HX3.out ((Below.refl w3.heap.size w3).alloc (Nat.le_refl _) (.cells #[.string ⟨#[]⟩, .string ⟨#[]⟩, .string ⟨#[97]⟩, .string ⟨#[97, 47, 98]⟩, .string ⟨#[97, 47, 98]⟩, .string ⟨#[97]⟩, .string ⟨#[97, 47, 102]⟩] 9)) (Nat.le_refl _)
      have Hsm := Lib.hid (sameT_any _ _ _ _ _ _ hx3 hx4 (by decide))
      clear hx3 hx4
      go_wp2_with (go_at_call 39; refine Hsm.out.mono ?_; rintro rr w5 ⟨hb, rfl⟩
                   have HB5 := Lib.hid ((HB3.out.alloc HB3.out.size _).trans (hb.mono (by have := HB3.out.size; simp; omega)))
                   clear hb)
      go_ret
      exact ⟨rfl, HB5.out⟩
end
section
open Go.RowKit Go.Shelf Go.Maps Go.Sort
open Go.Lib hiding intOf size_eq
theorem conv3 (x y z : Int) (w : World) (hx : 0 ≤ x ∧ x < 256) (hy : 0 ≤ y ∧ y < 256) (hz : 0 ≤ z ∧ z < 256) : (convert 166 9 (.slice (some ⟨w.heap.size, 0, none⟩) 3 3)).run Tryz.prog (w.alloc (.cells #[.int .u8 x, .int .u8 y, .int .u8 z] 5)) =
    .ok (.string (bs [UInt8.ofNat x.toNat, UInt8.ofNat y.toNat, UInt8.ofNat z.toNat])) (w.alloc (.cells #[.int .u8 x, .int .u8 y, .int .u8 z] 5)) := by
  have e : ([UInt8.ofNat x.toNat, UInt8.ofNat y.toNat, UInt8.ofNat z.toNat].map (fun b => Value.int .u8 (b.toNat : Int))).toArray = #[.int .u8 x, .int .u8 y, .int .u8 z] := by
    have e1 : ∀ t : Int, 0 ≤ t ∧ t < 256 → (((UInt8.ofNat t.toNat).toNat : Nat) : Int) = t := fun t ht => by
      simp
      omega
    simp only [List.map_cons, List.map_nil, e1 x hx, e1 y hy, e1 z hz]
  rw [← e]
  exact run_convert_bytes_back _ _ _ 5 ⟨w.heap.size, 0, none⟩ 3 [UInt8.ofNat x.toNat, UInt8.ofNat y.toNat, UInt8.ofNat z.toNat] Tryz.underlying166 Tryz.underlying5 Tryz.underlying9 (fun j hj => by
    have e2 : (⟨w.heap.size, 0, none⟩ : Addr).add j = ⟨w.heap.size, j, none⟩ := by unfold Addr.add; split <;> simp_all
    rw [e2]
    unfold World.cell?
    rw [World.alloc_heap_new]
    show (List.map _ _).toArray[j]? = _
    rw [List.getElem?_toArray, List.getElem?_map, List.getElem?_eq_getElem hj]
    rfl)
set_option maxRecDepth 100000 in
set_option maxHeartbeats 1000000 in
theorem number_any (i : Nat) (w : World) (hi : i < 100) : Calls Tryz.prog 91 #[.int .i64 (i : Int)] w fun r w' => ∃ s : ByteArray, r = .returned (.string s) ∧ s.size = 3 ∧ Below w.heap.size w w' := by
  have hcv := conv3 108 (48 + (i : Int) / 10) (48 + (i : Int) % 10) w (by omega) (by omega) (by omega)
  go_enter Tryz.func91, Tryz.ntmps91
  go_wp2
  go_ret
  exact ⟨_, rfl, by rw [bs_size]; rfl, (Below.refl _ _).alloc (Nat.le_refl _) _⟩
/-- entries that are small -/
theorem row_belowK {w w' : World} {base : Nat} {v : Value} {n : Nat} {cs : List Value} (h : w.ownsRow base 38 5 v n cs) (hb : Below w.heap.size w w') : w'.ownsRow base 38 5 v n cs := by
  obtain ⟨h1, h2⟩ := h
  refine ⟨h1, ?_⟩
  rcases h2 with h2 | ⟨g, cap, cur, a, b, c, d⟩
  · exact .inl h2
  · exact .inr ⟨g, cap, cur, a, b, (hb.block g (Array.getElem?_eq_some_iff.1 c).1).trans c, d⟩
theorem flat_oneK (l : List Ent) (e : Ent) : (l ++ [e]).flatMap entC = l.flatMap entC ++ entC e := by rw [List.flatMap_append, List.flatMap_singleton]
def Tiny (L : List Ent) : Prop := ∀ e ∈ L, e.p.size ≤ 1024 ∧ e.d.size ≤ 1024 ∧ e.l.size ≤ 1024
theorem Tiny.small {L : List Ent} (h : Tiny L) : Small L := fun e he => ⟨Nat.lt_of_le_of_lt (h e he).1 (by decide), Nat.lt_of_le_of_lt (h e he).2.1 (by decide), Nat.lt_of_le_of_lt (h e he).2.2 (by decide)⟩
theorem Tiny.add {L : List Ent} {e : Ent} (h : Tiny L) (h1 : e.p.size ≤ 1024) (h2 : e.d.size ≤ 1024) (h3 : e.l.size ≤ 1024) : Tiny (L ++ [e]) := fun x hx => by
  rcases List.mem_append.1 hx with hx | hx
  · exact h x hx
  · rw [List.mem_singleton.1 hx]; exact ⟨h1, h2, h3⟩
theorem row_one (w : World) (p d l : ByteArray) (k m : Int) : (w.alloc (.cells #[.string p, .int .i64 k, .int .i64 m, .string d, .string l] 38)).ownsRow w.heap.size 38 5 (.slice (some ⟨w.heap.size, 0, none⟩) 1 1) 1 (entC ⟨p, k, m, d, l⟩) :=
  ⟨rfl, .inr ⟨w.heap.size, 1, _, rfl, Nat.le_refl _, World.alloc_heap_new w _, Nat.le_refl _, by unfold maxLen; omega, rfl, rfl⟩⟩
set_option maxRecDepth 100000 in
set_option maxHeartbeats 2000000 in
theorem chained_any (n : Nat) (w : World) (hn : n < 100) : Calls Tryz.prog 90 #[.int .i64 (n : Int)] w fun r w' => ∃ o cap L, r = .returned (.slice o (L : List Ent).length cap) ∧ EntsAt w' (.slice o L.length cap) L ∧ Tiny L ∧ L.length ≤ 200 ∧ Below w.heap.size w w' := by
  obtain ⟨i0, hi, hz0, hz1, hz2⟩ := info_parts Tryz.infoEntry
  have Hi := Lib.hid hi
  have Hz0 := Lib.hid hz0
  have Hz1 := Lib.hid hz1
  have Hz2 := Lib.hid hz2
  clear hi hz0 hz1 hz2
  go_enter Tryz.func90, Tryz.ntmps90
  go_wp2_with fail
  go_loopw [3, 4] (fun lv iv wr => ∃ (i : Nat) (L : List Ent), iv = .int .i64 (i : Int) ∧ i ≤ n ∧ L.length = i + 1 ∧ Tiny L ∧ wr.ownsRow w.heap.size 38 5 lv (i + 1) (L.flatMap entC) ∧ Below w.heap.size w wr) (fun _ iv _ => n - (intOf iv).toNat)
  case atStart =>
    refine ⟨0, [⟨⟨#[102]⟩, 2, 420, ⟨#[]⟩, ⟨#[]⟩⟩], rfl, Nat.zero_le _, rfl, fun e he => ?_, row_one w _ _ _ _ _, (Below.refl _ _).alloc (Nat.le_refl _) _⟩
    rw [List.mem_singleton.1 he]
    exact ⟨by decide, by decide, by decide⟩
  case round =>
    obtain ⟨i, L, rfl, hin, hL, htiny, hrow, hbr⟩ := hrel
    have HR := Lib.hid hrow
    have Hbr := Lib.hid hbr
    have Ht := Lib.hid htiny
    have HL := Lib.hid hL
    have hbs := hbr.size
    by_cases hlt : i < n
    · clear hrow hbr htiny hL
      have N0 := Lib.hid (fun W => number_any i W (by omega))
      by_cases h1 : i + 1 < n
      · have N1 := Lib.hid (show ∀ W, Calls Tryz.prog 91 #[.int .i64 ((i : Int) + 1)] W fun r w' => ∃ s : ByteArray, r = .returned (.string s) ∧ s.size = 3 ∧ Below W.heap.size W w' from fun W => by
          have h := number_any (i + 1) W (by omega)
          rw [show ((i + 1 : Nat) : Int) = (i : Int) + 1 from by omega] at h
          exact h)
        go_wp2_with (first
          | (go_at_call 91; refine (N1.out wr).mono ?_; rintro r w2 ⟨s1, rfl, hs1, hb1⟩
             have HR2 := Lib.hid (row_belowK HR.out hb1)
             have HB2 := Lib.hid (Hbr.out.trans (hb1.mono Hbr.out.size))
             have hz1 : s1.size ≤ 1024 := by omega
             clear hb1 hs1 HR Hbr N1)
          | (go_at_call 91; refine (N0.out w2).mono ?_; rintro r w3 ⟨s2, rfl, hs2, hb2⟩
             have HR3 := Lib.hid (row_belowK HR2.out hb2)
             have HB3 := Lib.hid (HB2.out.trans (hb2.mono HB2.out.size))
             have hz2 : s2.size ≤ 1024 := by omega
             have h3 : w.heap.size ≤ w3.heap.size := HB3.out.size
             have HNx := Lib.hid (ent_cells (e := ⟨s2, 3, 511, ⟨#[]⟩, s1⟩) (World.alloc_heap_new w3 (.cells #[.string s2, .int .i64 3, .int .i64 511, .string ⟨#[]⟩, .string s1] 38)))
             clear hb2 hs2 N0)
          | (at_builtin; refine wpList_append_own _ rfl _ _ 22 rfl w.heap.size 38 i0 _ 5 64 Tryz.underlying22 Hi.out Hz0.out Hz1.out Hz2.out rfl (by decide) _ _ _ rfl (HR3.out.alloc _) ⟨w3.heap.size, 0, none⟩ 1 1 [.string s2, .int .i64 3, .int .i64 511, .string ⟨#[]⟩, .string s1] rfl rfl HNx.out (by simp [Value.oneCell']) (by unfold maxLen; omega) (by omega) (by simp; omega) ?_; intro v' w4 hown hgrow _))
        go_roundw
        case rel => exact ⟨i + 1, L ++ [⟨s2, 3, 511, ⟨#[]⟩, s1⟩], by go_num, by omega, by rw [List.length_append, HL.out]; rfl, Ht.out.add hz2 (show (⟨#[]⟩ : ByteArray).size ≤ 1024 by decide) hz1, by rw [flat_oneK]; exact hown, (HB3.out.alloc (by omega) _).grown hgrow (by simp; omega) (fun i e => (World.ownsRow.lt HR3.out i e).1)⟩
        case measure => simp [intOf]; omega
      · go_wp2_with (first
          | (go_at_call 91; refine (N0.out wr).mono ?_; rintro r w3 ⟨s2, rfl, hs2, hb2⟩
             have HR3 := Lib.hid (row_belowK HR.out hb2)
             have HB3 := Lib.hid (Hbr.out.trans (hb2.mono Hbr.out.size))
             have hz2 : s2.size ≤ 1024 := by omega
             have h3 : w.heap.size ≤ w3.heap.size := HB3.out.size
             have HNx := Lib.hid (ent_cells (e := ⟨s2, 3, 511, ⟨#[]⟩, ⟨#[102]⟩⟩) (World.alloc_heap_new w3 (.cells #[.string s2, .int .i64 3, .int .i64 511, .string ⟨#[]⟩, .string ⟨#[102]⟩] 38)))
             clear hb2 hs2 N0)
          | (at_builtin; refine wpList_append_own _ rfl _ _ 22 rfl w.heap.size 38 i0 _ 5 64 Tryz.underlying22 Hi.out Hz0.out Hz1.out Hz2.out rfl (by decide) _ _ _ rfl (HR3.out.alloc _) ⟨w3.heap.size, 0, none⟩ 1 1 [.string s2, .int .i64 3, .int .i64 511, .string ⟨#[]⟩, .string ⟨#[102]⟩] rfl rfl HNx.out (by simp [Value.oneCell']) (by unfold maxLen; omega) (by omega) (by simp; omega) ?_; intro v' w4 hown hgrow _))
        go_roundw
        case rel => exact ⟨i + 1, L ++ [⟨s2, 3, 511, ⟨#[]⟩, ⟨#[102]⟩⟩], by go_num, by omega, by rw [List.length_append, HL.out]; rfl, Ht.out.add hz2 (show (⟨#[]⟩ : ByteArray).size ≤ 1024 by decide) (show (⟨#[102]⟩ : ByteArray).size ≤ 1024 by decide), by rw [flat_oneK]; exact hown, (HB3.out.alloc (by omega) _).grown hgrow (by simp; omega) (fun i e => (World.ownsRow.lt HR3.out i e).1)⟩
        case measure => simp [intOf]; omega
    · obtain rfl : i = n := by omega
      clear hrow hbr htiny hL
      go_wp2
      go_ret
      obtain ⟨o', c', hv, h1, _⟩ := ents_own (show wr.ownsRow w.heap.size 38 5 u3 L.length (L.flatMap entC) from by rw [HL.out]; exact HR.out)
      exact ⟨o', c', L, by rw [← hv]; rfl, h1, Ht.out, by rw [HL.out]; omega, Hbr.out⟩
set_option maxRecDepth 100000 in
set_option maxHeartbeats 2000000 in
theorem fullK_any (less : Nat) (w : World) (hn : less ≤ 3) : Calls Tryz.prog 92 #[.int .i64 (less : Int)] w fun r w' => ∃ o cap L, r = .returned (.slice o (L : List Ent).length cap) ∧ EntsAt w' (.slice o L.length cap) L ∧ Tiny L ∧ L.length ≤ 4096 ∧ Below w.heap.size w w' := by
  obtain ⟨i0, hi, hz0, hz1, hz2⟩ := info_parts Tryz.infoEntry
  have Hi := Lib.hid hi
  have Hz0 := Lib.hid hz0
  have Hz1 := Lib.hid hz1
  have Hz2 := Lib.hid hz2
  clear hi hz0 hz1 hz2
  go_enter Tryz.func92, Tryz.ntmps92
  go_wp2_with fail
  go_loopw [3, 4] (fun lv iv wr => ∃ (i : Nat) (o : Option Addr) (cap : Nat) (L : List Ent), iv = .int .i64 (i : Int) ∧ lv = .slice o (i + 1) cap ∧ i + 1 ≤ 4096 - less ∧ L.length = i + 1 ∧ Tiny L ∧ wr.ownsRow w.heap.size 38 5 (.slice o (i + 1) cap) (i + 1) (L.flatMap entC) ∧ Below w.heap.size w wr) (fun _ iv _ => 4096 - (intOf iv).toNat)
  case atStart =>
    refine ⟨0, some ⟨w.heap.size, 0, none⟩, 1, [⟨⟨#[100]⟩, 1, 493, ⟨#[]⟩, ⟨#[]⟩⟩], rfl, rfl, by omega, rfl, fun e he => ?_, row_one w _ _ _ _ _, (Below.refl _ _).alloc (Nat.le_refl _) _⟩
    rw [List.mem_singleton.1 he]
    exact ⟨by decide, by decide, by decide⟩
  case round =>
    obtain ⟨i, o, cap, L, rfl, rfl, hin, hL, htiny, hrow, hbr⟩ := hrel
    have HR := Lib.hid hrow
    have Hbr := Lib.hid hbr
    have Ht := Lib.hid htiny
    have HL := Lib.hid hL
    have hbs := hbr.size
    by_cases hlt : i + 1 < 4096 - less
    · clear hrow hbr htiny hL
      have hcv := conv3 (97 + (i : Int) / 676) (97 + (i : Int) / 26 % 26) (97 + (i : Int) % 26) wr (by omega) (by omega) (by omega)
      obtain ⟨s1, hs1⟩ : ∃ s, s = bs [UInt8.ofNat (97 + (i : Int) / 676).toNat, UInt8.ofNat (97 + (i : Int) / 26 % 26).toNat, UInt8.ofNat (97 + (i : Int) % 26).toNat] := ⟨_, rfl⟩
      rw [← hs1] at hcv
      have hz1 : s1.size = 3 := by rw [hs1, bs_size]; rfl
      obtain ⟨w3, hw3⟩ : ∃ x, x = wr.alloc (.cells #[.int .u8 (97 + (i : Int) / 676), .int .u8 (97 + (i : Int) / 26 % 26), .int .u8 (97 + (i : Int) % 26)] 5) := ⟨_, rfl⟩
      have hb3 : Below wr.heap.size wr w3 := by rw [hw3]; exact (Below.refl _ _).alloc (Nat.le_refl _) _
      have HR3 := Lib.hid (row_belowK HR.out hb3)
      have HB3 := Lib.hid (Hbr.out.trans (hb3.mono hbs))
      have h3 : w.heap.size ≤ w3.heap.size := HB3.out.size
      have HW3 := Lib.hid hw3
      have Hhs := Lib.hid hs1
      clear hs1 hw3 hb3 HR Hbr
      go_upto_region 6 with fail
      rw [← HW3.out]
      have HNx := Lib.hid (ent_cells (e := ⟨(⟨#[100, 47]⟩ : ByteArray) ++ s1, 2, 420, ⟨#[]⟩, ⟨#[]⟩⟩) (World.alloc_heap_new w3 (.cells #[.string ((⟨#[100, 47]⟩ : ByteArray) ++ s1), .int .i64 2, .int .i64 420, .string ⟨#[]⟩, .string ⟨#[]⟩] 38)))
      have hz3 : (⟨#[100, 47]⟩ ++ s1 : ByteArray).size ≤ 1024 := by rw [ByteArray.size_append, hz1]; decide
      clear hcv
      go_wp2_with (at_builtin; go_loud (refine wpList_append_own _ rfl _ _ 22 rfl w.heap.size 38 i0 _ 5 64 Tryz.underlying22 Hi.out Hz0.out Hz1.out Hz2.out rfl (by decide) _ _ _ rfl (HR3.out.alloc _) ⟨w3.heap.size, 0, none⟩ 1 1 [.string ((⟨#[100, 47]⟩ : ByteArray) ++ s1), .int .i64 2, .int .i64 420, .string ⟨#[]⟩, .string ⟨#[]⟩] rfl rfl HNx.out (by simp [Value.oneCell']) (by unfold maxLen; omega) (by omega) (by simp; omega) ?_); intro v' w4 hown hgrow _
                   obtain ⟨g4, cap4, rfl⟩ := ownsRow_succ hown)
      go_roundw
      case rel => exact ⟨i + 1, some ⟨g4, 0, none⟩, cap4, L ++ [⟨(⟨#[100, 47]⟩ : ByteArray) ++ s1, 2, 420, ⟨#[]⟩, ⟨#[]⟩⟩], by go_num, rfl, by omega, by rw [List.length_append, HL.out]; rfl, Ht.out.add hz3 (show (⟨#[]⟩ : ByteArray).size ≤ 1024 by decide) (show (⟨#[]⟩ : ByteArray).size ≤ 1024 by decide), by rw [flat_oneK]; exact hown, (HB3.out.alloc (by omega) _).grown hgrow (by simp; omega) (fun i e => (World.ownsRow.lt HR3.out i e).1)⟩
      case measure => simp [intOf]; omega
    · obtain hlast : i + 1 = 4096 - less := by omega
      clear hrow hbr htiny hL
      go_wp2
      go_ret
      obtain ⟨o', c', hv, h1, _⟩ := ents_own (show wr.ownsRow w.heap.size 38 5 (.slice o (i + 1) cap) L.length (L.flatMap entC) from by rw [HL.out]; exact HR.out)
      exact ⟨o', c', L, by rw [← hv]; rfl, h1, Ht.out, by rw [HL.out]; omega, Hbr.out⟩
end
section
open Go.RowKit Go.Shelf Go.Maps Go.Sort
open Go.Lib hiding intOf size_eq
theorem ax_get : ∀ {L : List Axn} {i j : Nat} {e : Axn} {x : Value}, L[i]? = some e → (axC e)[j]? = some x → (L.flatMap axC)[i * 2 + j]? = some x
  | [], i, j, e, x, h, _ => by simp at h
  | a :: L, 0, j, e, x, h, hx => by
    simp at h
    subst h
    have hj : j < (axC a).length := (List.getElem?_eq_some_iff.1 hx).1
    rw [List.flatMap_cons, Nat.zero_mul, Nat.zero_add, List.getElem?_append_left hj]
    exact hx
  | a :: L, i + 1, j, e, x, h, hx => by
    simp at h
    have hl : (axC a).length = 2 := rfl
    rw [List.flatMap_cons, List.getElem?_append_right (by rw [hl]; omega), hl, show (i + 1) * 2 + j - 2 = i * 2 + j by omega]
    exact ax_get h hx
theorem acts_new (w : World) (A : List Axn) (cs : Array Value) (n : Nat) (hc : (A.flatMap axC).toArray = cs) (hn : A.length = n) (hm : n ≤ maxLen) : ActsAt (w.alloc (.cells cs 83)) (.slice (some ⟨w.heap.size, 0, none⟩) n n) A := by
  subst hc
  subst hn
  refine ⟨some ⟨w.heap.size, 0, none⟩, A.length, rfl, Nat.le_refl _, hm, fun i r hr => ⟨_, rfl, by simp, fun j x hx => ?_⟩⟩
  have e : ((⟨w.heap.size, 0, none⟩ : Addr).add (i * 2)).add j = ⟨w.heap.size, i * 2 + j, none⟩ := by
    unfold Addr.add
    split <;> split <;> simp_all
  rw [e]
  unfold World.cell?
  rw [World.alloc_heap_new]
  simpa using ax_get hr hx
theorem acts3_new (w : World) (k1 k2 k3 : Int) (s1 s2 s3 : ByteArray) : ActsAt (w.alloc (.cells #[.int .i64 k1, .string s1, .int .i64 k2, .string s2, .int .i64 k3, .string s3] 83)) (.slice (some ⟨w.heap.size, 0, none⟩) 3 3) [⟨k1, s1⟩, ⟨k2, s2⟩, ⟨k3, s3⟩] :=
  acts_new w [⟨k1, s1⟩, ⟨k2, s2⟩, ⟨k3, s3⟩] _ 3 rfl rfl (by unfold maxLen; omega)
theorem acts5_new (w : World) (k1 k2 k3 k4 k5 : Int) (s1 s2 s3 s4 s5 : ByteArray) : ActsAt (w.alloc (.cells #[.int .i64 k1, .string s1, .int .i64 k2, .string s2, .int .i64 k3, .string s3, .int .i64 k4, .string s4, .int .i64 k5, .string s5] 83)) (.slice (some ⟨w.heap.size, 0, none⟩) 5 5) [⟨k1, s1⟩, ⟨k2, s2⟩, ⟨k3, s3⟩, ⟨k4, s4⟩, ⟨k5, s5⟩] :=
  acts_new w [⟨k1, s1⟩, ⟨k2, s2⟩, ⟨k3, s3⟩, ⟨k4, s4⟩, ⟨k5, s5⟩] _ 5 rfl rfl (by unfold maxLen; omega)
structure KAt (w W : World) (v : Value) (L : List Ent) : Prop where
  e : EntsAt W v L
  b : Below w.heap.size w W
  h : Handle w
theorem KAt.below {w W W' : World} {v : Value} {L : List Ent} (h : KAt w W v L) (hb : Below W.heap.size W W') : KAt w W' v L := ⟨h.e.below hb (Nat.le_refl _), h.b.trans (hb.mono h.b.size), h.h⟩
theorem KAt.alloc {w W : World} {v : Value} {L : List Ent} (h : KAt w W v L) (o : Obj) : KAt w (W.alloc o) v L := h.below ((Below.refl _ _).alloc (Nat.le_refl _) o)
theorem rf_k {w : World} {v : Value} {L : List Ent} (ht : Tiny L) (hl : L.length ≤ 4096) (W : World) (h : KAt w W v L) (s : ByteArray) (hs : s.size ≤ 4096) : Calls Tryz.prog 6 #[v, .string s] W fun r w' => r = .returned (.bool true) ∧ Below W.heap.size W w' :=
  resolveFind_any v L s W h.e ht.small (by omega) (by omega) (h.h.below h.b (Nat.le_refl _))
theorem rp_k {w : World} {v : Value} {L : List Ent} (ht : Tiny L) (hl : L.length ≤ 4096) (W : World) (h : KAt w W v L) (va : Value) (A : List Axn) (ha : ActsAt W va A) (hA : ∀ x ∈ A, x.s.size ≤ 4096) (hn : A.length ≤ 100) : Calls Tryz.prog 8 #[v, va] W fun r w' => r = .returned (.bool true) ∧ Below W.heap.size W w' :=
  resolvePlays_any v L va A W h.e ht.small (by omega) ha (fun x hx => by have := hA x hx; omega) (by omega) (h.h.below h.b (Nat.le_refl _))
/-- ways that are short -/
def WaysAt (w : World) (a : Addr) : Prop := a.block < w.heap.size ∧ ∀ i, i < 14 → ∃ s : ByteArray, s.size ≤ 1024 ∧ w.cell? (a.add i) = some (.string s)
theorem WaysAt.below {w w' : World} {a : Addr} (h : WaysAt w a) (hb : Below w.heap.size w w') : WaysAt w' a :=
  ⟨Nat.lt_of_lt_of_le h.1 hb.size, fun i hi => by
    obtain ⟨s, h1, h2⟩ := h.2 i hi
    refine ⟨s, h1, ?_⟩
    unfold World.cell? at h2 ⊢
    rw [hb.block _ (by rw [add_block]; exact h.1)]
    exact h2⟩
theorem ways_new (w : World) (l : List ByteArray) (cs : Array Value) (hc : (l.map Value.string).toArray = cs) (hn : l.length = 14) (hs : ∀ s ∈ l, s.size ≤ 1024) : WaysAt (w.alloc (.cells cs 9)) ⟨w.heap.size, 0, none⟩ := by
  subst hc
  refine ⟨by simp, fun i hi => ?_⟩
  obtain ⟨s, he⟩ : ∃ s, l[i]? = some s := ⟨_, List.getElem?_eq_getElem (by omega)⟩
  refine ⟨s, hs s (List.mem_of_getElem? he), ?_⟩
  have e : ((⟨w.heap.size, 0, none⟩ : Addr).add i) = ⟨w.heap.size, i, none⟩ := by
    unfold Addr.add
    split <;> simp_all
  rw [e]
  unfold World.cell?
  rw [World.alloc_heap_new]
  simp [List.getElem?_map, he]
set_option maxRecDepth 100000 in
set_option maxHeartbeats 8000000 in
theorem edged_any (w : World) (hg : Handle w) : Calls Tryz.prog 50 #[] w fun r w' => r = .returned (.bool true) ∧ Below w.heap.size w w' := by
  have Hg := Lib.hid hg
  clear hg
  go_enter Tryz.func50, Tryz.ntmps50
  go_upto_block 0 with fail
  go_cut [1] (fun _ wx => Below w.heap.size w wx)
  case first =>
    go_wp2_with fail
    go_loopw [1] (fun iv wr => ∃ (k : Nat), iv = .int .i64 (k : Int) ∧ k ≤ 43 ∧ Below w.heap.size w wr) (fun iv _ => 43 - (intOf iv).toNat)
    case atStart => exact ⟨38, rfl, by omega, Below.refl _ _⟩
    case round =>
      obtain ⟨k, rfl, hk, hbr⟩ := hrel
      have Hbr := Lib.hid hbr
      by_cases hlt : k < 43
      · have HC := Lib.hid (chained_any k wr (by omega))
        clear hbr
        have N0 := Lib.hid (fun (W : World) => (show Calls Tryz.prog 91 #[.int .i64 0] W fun r w' => ∃ s : ByteArray, r = .returned (.string s) ∧ s.size = 3 ∧ Below W.heap.size W w' from number_any 0 W (by omega)))
        have N1 := Lib.hid (fun (W : World) => (show Calls Tryz.prog 91 #[.int .i64 1] W fun r w' => ∃ s : ByteArray, r = .returned (.string s) ∧ s.size = 3 ∧ Below W.heap.size W w' from number_any 1 W (by omega)))
        go_upto_region 5 with (go_at_call 90; refine HC.out.mono ?_; rintro r w2 ⟨o, cap, L, rfl, he, ht, hl, hb⟩
                               have K2 := Lib.hid (⟨he, Hbr.out.trans (hb.mono Hbr.out.size), Hg.out⟩ : KAt w w2 (.slice o L.length cap) L)
                               have Ht := Lib.hid ht
                               have Hl := Lib.hid hl
                               clear he ht hl hb)
        obtain ⟨nL, hnL⟩ : ∃ n, n = L.length := ⟨_, rfl⟩
        rw [← hnL] at K2 ⊢
        have HF := Lib.hid (fun (W : World) (h : KAt w W (.slice o nL cap) L) (s : ByteArray) (hs : s.size ≤ 4096) => rf_k Ht.out (by have := Hl.out; omega) W h s hs)
        have HP := Lib.hid (fun (W : World) (h : KAt w W (.slice o nL cap) L) (va : Value) (A : List Axn) (ha : ActsAt W va A) (hA : ∀ x ∈ A, x.s.size ≤ 4096) (hn : A.length ≤ 100) => rp_k Ht.out (by have := Hl.out; omega) W h va A ha hA hn)
        clear hnL
        go_wp2_with fail
        refine (N0.out w2).mono ?_
        rintro r w3 ⟨s1, rfl, hs1, hb⟩
        have K3 := Lib.hid (K2.out.below hb)
        clear hb K2
        go_wp2_with fail
        refine (HF.out w3 K3.out s1 (by omega)).mono ?_
        rintro r w4 ⟨rfl, hb⟩
        have K4 := Lib.hid (K3.out.below hb)
        clear hb K3
        go_wp2_with fail
        refine (N0.out w4).mono ?_
        rintro r w5 ⟨s2, rfl, hs2, hb⟩
        have K5 := Lib.hid (K4.out.below hb)
        clear hb K4
        go_wp2_with fail
        refine (HF.out w5 K5.out _ (by rw [ByteArray.size_append, ByteArray.size_append, hs2]; decide)).mono ?_
        rintro r w6 ⟨rfl, hb⟩
        have K6 := Lib.hid (K5.out.below hb)
        clear hb K5
        go_wp2_with fail
        refine (N0.out w6).mono ?_
        rintro r w7 ⟨s3, rfl, hs3, hb⟩
        have K7 := Lib.hid (K6.out.below hb)
        clear hb K6
        go_wp2_with fail
        refine (N0.out w7).mono ?_
        rintro r w8 ⟨s4, rfl, hs4, hb⟩
        have K8 := Lib.hid (K7.out.below hb)
        clear hb K7
        go_wp2_with fail
        refine (N1.out w8).mono ?_
        rintro r w9 ⟨s5, rfl, hs5, hb⟩
        have K9 := Lib.hid (K8.out.below hb)
        clear hb K8
        go_wp2_with fail
        refine (HP.out _ (K9.out.alloc _) _ _ (acts3_new w9 2 3 3 s3 s4 (s5 ++ (⟨#[47, 120]⟩ : ByteArray))) (fun x hx => by
          have h5 : (s5 ++ (⟨#[47, 120]⟩ : ByteArray)).size ≤ 4096 := by rw [ByteArray.size_append, hs5]; decide
          simp only [List.mem_cons, List.not_mem_nil, or_false] at hx
          rcases hx with rfl | rfl | rfl
          · show s3.size ≤ 4096; omega
          · show s4.size ≤ 4096; omega
          · exact h5) (show 3 ≤ 100 by decide)).mono ?_
        rintro r w10 ⟨rfl, hb⟩
        have HB10 := Lib.hid ((K9.out.alloc _).below hb).b
        clear hb K9
        go_wp2_with fail
        go_roundw
        case rel => exact ⟨k + 1, by go_num, by omega, HB10.out⟩
        case measure => simp [intOf]; omega
      · clear hbr
        go_wp2_with fail
        go_meet
        exact Hbr.out
  case rest =>
    have B1 := Lib.hid hcut
    clear hcut
    go_upto_block 2 with fail
    go_cut [3] (fun _ wx => Below w.heap.size w wx)
    case first =>
      go_wp2_with fail
      go_loopw [3] (fun iv wr => ∃ (k : Nat), iv = .int .i64 (k : Int) ∧ k ≤ 3 ∧ Below w.heap.size w wr) (fun iv _ => 3 - (intOf iv).toNat)
      case atStart => exact ⟨0, rfl, by omega, B1.out⟩
      case round =>
        obtain ⟨k, rfl, hk, hbr⟩ := hrel
        have Hbr := Lib.hid hbr
        by_cases hlt : k < 3
        · have HC := Lib.hid (fullK_any k wr (by omega))
          clear hbr
          go_wp2_with fail
          refine HC.out.mono ?_
          rintro r w2 ⟨o, cap, L, rfl, he, ht, hl, hb⟩
          have K2 := Lib.hid (⟨he, Hbr.out.trans (hb.mono Hbr.out.size), Hg.out⟩ : KAt w w2 (.slice o L.length cap) L)
          have Ht := Lib.hid ht
          have Hl := Lib.hid hl
          clear he ht hl hb
          obtain ⟨nL, hnL⟩ : ∃ n, n = L.length := ⟨_, rfl⟩
          rw [← hnL] at K2 ⊢
          clear hnL
          have HP := Lib.hid (fun (W : World) (h : KAt w W (.slice o nL cap) L) (va : Value) (A : List Axn) (ha : ActsAt W va A) (hA : ∀ x ∈ A, x.s.size ≤ 4096) (hn : A.length ≤ 100) => rp_k Ht.out Hl.out W h va A ha hA hn)
          go_wp2_with fail
          refine (HP.out _ (K2.out.alloc _) _ _ (acts5_new w2 2 3 3 2 2 ⟨#[120, 47, 121]⟩ ⟨#[122, 47, 119, 47, 102]⟩ ⟨#[122]⟩ ⟨#[100]⟩ ⟨#[120]⟩) (fun x hx => by
            simp only [List.mem_cons, List.not_mem_nil, or_false] at hx
            rcases hx with rfl | rfl | rfl | rfl | rfl
            · exact (show (⟨#[120, 47, 121]⟩ : ByteArray).size ≤ 4096 by decide)
            · exact (show (⟨#[122, 47, 119, 47, 102]⟩ : ByteArray).size ≤ 4096 by decide)
            · exact (show (⟨#[122]⟩ : ByteArray).size ≤ 4096 by decide)
            · exact (show (⟨#[100]⟩ : ByteArray).size ≤ 4096 by decide)
            · exact (show (⟨#[120]⟩ : ByteArray).size ≤ 4096 by decide)) (show 5 ≤ 100 by decide)).mono ?_
          rintro r w10 ⟨rfl, hb⟩
          have HB10 := Lib.hid ((K2.out.alloc _).below hb).b
          clear hb K2
          go_wp2_with fail
          go_roundw
          case rel => exact ⟨k + 1, by go_num, by omega, HB10.out⟩
          case measure => simp [intOf]; omega
        · clear hbr
          go_wp2_with fail
          go_meet
          exact Hbr.out
    case rest =>
      have B2 := Lib.hid hcut
      clear hcut B1
      go_upto_block 4 with fail
      go_cut [4, 6] (fun sv _ wx => ∃ s : ByteArray, sv = .string s ∧ s.size ≤ 96 ∧ Below w.heap.size w wx)
      case first =>
        go_wp2_with fail
        go_loopw [4, 6] (fun sv iv wr => ∃ (k : Nat) (s : ByteArray), iv = .int .i64 (k : Int) ∧ sv = .string s ∧ s.size = k ∧ k ≤ 96 ∧ Below w.heap.size w wr) (fun _ iv _ => 96 - (intOf iv).toNat)
        case atStart => exact ⟨0, ⟨#[]⟩, rfl, rfl, rfl, by omega, B2.out⟩
        case round =>
          obtain ⟨k, s, rfl, rfl, hs, hk, hbr⟩ := hrel
          have Hbr := Lib.hid hbr
          have Hs := Lib.hid hs
          clear hbr hs
          have hsz : s.size ≤ 96 := by rw [Hs.out]; exact hk
          by_cases hlt : k < 96
          · go_wp2_with fail
            go_roundw
            case rel => exact ⟨k + 1, s ++ (⟨#[110]⟩ : ByteArray), by go_num, rfl, by rw [ByteArray.size_append, Hs.out]; rfl, by omega, Hbr.out⟩
            case measure => simp [intOf]; omega
          · go_wp2_with fail
            go_meet
            exact ⟨s, rfl, by rw [Hs.out]; exact hk, Hbr.out⟩
      case rest =>
        obtain ⟨s, rfl, hs, hb3⟩ := hcut
        have B3 := Lib.hid hb3
        clear hb3 B2
        go_upto_block 6 with fail
        go_cut [5, 7] (fun sv _ wx => ∃ d : ByteArray, sv = .string d ∧ d.size ≤ 64 ∧ Below w.heap.size w wx)
        case first =>
          go_wp2_with fail
          go_loopw [5, 7] (fun sv iv wr => ∃ (k : Nat) (d : ByteArray), iv = .int .i64 (k : Int) ∧ sv = .string d ∧ d.size = 2 * k ∧ k ≤ 32 ∧ Below w.heap.size w wr) (fun _ iv _ => 32 - (intOf iv).toNat)
          case atStart => exact ⟨0, ⟨#[]⟩, rfl, rfl, rfl, by omega, B3.out⟩
          case round =>
            obtain ⟨k, d, rfl, rfl, hd, hk, hbr⟩ := hrel
            have Hbr := Lib.hid hbr
            have Hd := Lib.hid hd
            clear hbr hd
            have hdz : d.size ≤ 64 := by rw [Hd.out]; omega
            by_cases hlt : k < 32
            · go_wp2_with fail
              go_roundw
              case rel => exact ⟨k + 1, d ++ (⟨#[100, 47]⟩ : ByteArray), by go_num, rfl, by rw [ByteArray.size_append, Hd.out]; show 2 * k + 2 = _; omega, by omega, Hbr.out⟩
              case measure => simp [intOf]; omega
            · go_wp2_with fail
              go_meet
              exact ⟨d, rfl, by rw [Hd.out]; omega, Hbr.out⟩
        case rest =>
          obtain ⟨d, rfl, hd, hb4⟩ := hcut
          have B4 := Lib.hid hb4
          clear hb4 B3
          go_upto_region 22 with fail
          go_cut [8] (fun av wx => ∃ a : Addr, av = .slice (some a) 14 14 ∧ WaysAt wx a ∧ Below w.heap.size w wx)
          case first =>
            go_wp2_with fail
            go_meet
            refine ⟨⟨wc.heap.size, 0, none⟩, rfl, ways_new wc [s, s ++ (⟨#[110]⟩ : ByteArray), s ++ (⟨#[47]⟩ : ByteArray) ++ s, s ++ (⟨#[47]⟩ : ByteArray) ++ s ++ (⟨#[47]⟩ : ByteArray) ++ s, d, d ++ (⟨#[100]⟩ : ByteArray), (⟨#[46, 46, 46]⟩ : ByteArray) ++ s, ⟨#[46, 119, 104, 46]⟩, ⟨#[97, 0, 98]⟩, ⟨#[46]⟩, ⟨#[46, 46]⟩, ⟨#[46, 46, 46]⟩, ⟨#[97, 47, 46, 46, 47, 46, 46, 47, 98]⟩, d ++ (⟨#[46, 46, 47, 101]⟩ : ByteArray)] _ ?_ rfl (fun x hx => ?_), B4.out.alloc B4.out.size _⟩
            · rfl
            · have hz : x ∈ [s, s ++ (⟨#[110]⟩ : ByteArray), s ++ (⟨#[47]⟩ : ByteArray) ++ s, s ++ (⟨#[47]⟩ : ByteArray) ++ s ++ (⟨#[47]⟩ : ByteArray) ++ s, d, d ++ (⟨#[100]⟩ : ByteArray), (⟨#[46, 46, 46]⟩ : ByteArray) ++ s, ⟨#[46, 119, 104, 46]⟩, ⟨#[97, 0, 98]⟩, ⟨#[46]⟩, ⟨#[46, 46]⟩, ⟨#[46, 46, 46]⟩, ⟨#[97, 47, 46, 46, 47, 46, 46, 47, 98]⟩, d ++ (⟨#[46, 46, 47, 101]⟩ : ByteArray)] := hx
              have l0 : (⟨#[110]⟩ : ByteArray).size = 1 := rfl
              have l1 : (⟨#[47]⟩ : ByteArray).size = 1 := rfl
              have l2 : (⟨#[100]⟩ : ByteArray).size = 1 := rfl
              have l3 : (⟨#[46, 46, 46]⟩ : ByteArray).size = 3 := rfl
              have l4 : (⟨#[46, 119, 104, 46]⟩ : ByteArray).size = 4 := rfl
              have l5 : (⟨#[97, 0, 98]⟩ : ByteArray).size = 3 := rfl
              have l6 : (⟨#[46]⟩ : ByteArray).size = 1 := rfl
              have l7 : (⟨#[46, 46]⟩ : ByteArray).size = 2 := rfl
              have l8 : (⟨#[97, 47, 46, 46, 47, 46, 46, 47, 98]⟩ : ByteArray).size = 9 := rfl
              have l9 : (⟨#[46, 46, 47, 101]⟩ : ByteArray).size = 4 := rfl
              simp only [List.mem_cons, List.not_mem_nil, or_false] at hz
              rcases hz with rfl | rfl | rfl | rfl | rfl | rfl | rfl | rfl | rfl | rfl | rfl | rfl | rfl | rfl
              all_goals
                try simp only [ByteArray.size_append]
                omega
          case rest =>
            obtain ⟨a, rfl, ha, hb5⟩ := hcut
            have HA := Lib.hid ha
            have B5 := Lib.hid hb5
            clear ha hb5 B4
            go_wp2_with fail
            go_loopw [9] (fun iv wr => ∃ (k : Nat), iv = .int .i64 (k : Int) ∧ k ≤ 14 ∧ WaysAt wr a ∧ Below w.heap.size w wr) (fun iv _ => 14 - (intOf iv).toNat)
            case atStart => exact ⟨0, rfl, by omega, HA.out, B5.out⟩
            case round =>
              obtain ⟨k, rfl, hk, hw, hbr⟩ := hrel
              have Hbr := Lib.hid hbr
              have Hw := Lib.hid hw
              by_cases hlt : k < 14
              · obtain ⟨x, hx1, hx2⟩ := hw.2 k hlt
                have hup : ∀ W, Below wr.heap.size wr W → W.cell? (a.add k) = some (.string x) := fun W hW => by
                  unfold World.cell? at hx2 ⊢
                  rw [hW.block _ (by rw [add_block]; exact Hw.out.1)]
                  exact hx2
                have Hup := Lib.hid hup
                have e0 : ∀ W : World, EntsAt W (.slice none 0 0) [] := fun W => ⟨none, 0, rfl, Nat.le_refl _, by simp, fun i e he => by simp at he⟩
                have HP := Lib.hid (fun (W : World) (hW : Below wr.heap.size wr W) (va : Value) (A : List Axn) (ha : ActsAt W va A) (hA : ∀ x ∈ A, x.s.size ≤ 4096) (hn : A.length ≤ 100) => rp_k (L := []) (v := .slice none 0 0) (fun e he => by cases he) (by decide) W ⟨e0 W, Hbr.out.trans (hW.mono Hbr.out.size), Hg.out⟩ va A ha hA hn)
                have HPa := HP
                have n1 : (x ++ (⟨#[47, 46]⟩ : ByteArray)).size ≤ 4096 := by rw [ByteArray.size_append]; show x.size + 2 ≤ _; omega
                have n2 : ((⟨#[120, 47]⟩ : ByteArray) ++ x).size ≤ 4096 := by rw [ByteArray.size_append]; show 2 + x.size ≤ _; omega
                have N1 := Lib.hid n1
                have N2 := Lib.hid n2
                have h0 : wr.cell? (a.add k) = some (.string x) := hx2
                have hA1 : ∀ W : World, (Op.stringOp .add x (⟨#[47, 46]⟩ : ByteArray)).run Tryz.prog W = .ok (.string (x ++ (⟨#[47, 46]⟩ : ByteArray))) W := fun W => run_string_add_sum W _ _ (by show x.size + 2 ≤ _; omega)
                have hA2 : ∀ W : World, (Op.stringOp .add (⟨#[120, 47]⟩ : ByteArray) x).run Tryz.prog W = .ok (.string ((⟨#[120, 47]⟩ : ByteArray) ++ x)) W := fun W => run_string_add_sum W _ _ (by show 2 + x.size ≤ _; omega)
                clear hbr hw hx2 hup e0 n1 n2
                go_upto_region 26 with fail
                have hsd : wr.drew.cell? (a.add k) = some (.string x) := h0
                go_region_held3 (fun W => W.cell? (a.add k) = some (.string x)) (first | assumption | go_keep)
                  (first
                  | (go_at_call 8; refine (HPa.out (wr.drew.alloc _) ((below_drew (Below.refl _ _)).alloc (Nat.le_refl _) _) _ _ (acts3_new wr.drew 2 3 0 x x x) (fun y hy => by
                       simp only [List.mem_cons, List.not_mem_nil, or_false] at hy
                       rcases hy with rfl | rfl | rfl <;> (show x.size ≤ 4096; omega)) (show 3 ≤ 100 by decide)).mono ?_; rintro r w3 ⟨rfl, hb⟩
                     have hb3 : Below wr.heap.size wr w3 := ((below_drew (Below.refl wr.heap.size wr)).alloc (Nat.le_refl _) _).trans (hb.mono (by simp))
                     have hu3 := Hup.out w3 hb3
                     have H3 := Lib.hid hb3
                     clear hb hb3 HPa)
                  | (go_at_call 8; refine (HP.out (w3.alloc _) (H3.out.alloc H3.out.size _) _ _ (acts3_new w3 3 3 2 x (x ++ (⟨#[47, 46]⟩ : ByteArray)) ((⟨#[120, 47]⟩ : ByteArray) ++ x)) (fun y hy => by
                       simp only [List.mem_cons, List.not_mem_nil, or_false] at hy
                       rcases hy with rfl | rfl | rfl
                       · show x.size ≤ 4096; omega
                       · exact N1.out
                       · exact N2.out) (show 3 ≤ 100 by decide)).mono ?_; rintro r w4 ⟨rfl, hb⟩
                     have hb4 := (H3.out.alloc H3.out.size _).trans (hb.mono (by have := H3.out.size; simp; omega))
                     have hu4 := Hup.out w4 hb4
                     have H4 := Lib.hid hb4
                     clear hb hb4))
                all_goals go_wp2_with fail
                all_goals go_roundw
                all_goals first
                  | exact ⟨k + 1, by go_num, by omega, Hw.out.below H4.out, Hbr.out.trans (H4.out.mono Hbr.out.size)⟩
                  | (simp [intOf]; omega)
              · clear hbr hw
                go_wp2_with fail
                go_ret
                exact ⟨rfl, Hbr.out⟩
set_option maxRecDepth 100000 in
theorem resolveKnown_any (w : World) (hg : Handle w) : Calls Tryz.prog 10 #[] w fun r w' => r = .returned (.bool true) ∧ Below w.heap.size w w' := by
  have Hg := Lib.hid hg
  clear hg
  go_enter Tryz.func10, Tryz.ntmps10
  go_wp2_with fail
  refine (shown_any w Hg.out).mono ?_
  rintro r w1 ⟨rfl, hb⟩
  have B1 := Lib.hid hb
  clear hb
  go_wp2_with fail
  refine (edged_any w1 (Hg.out.below B1.out (Nat.le_refl _))).mono ?_
  rintro r w2 ⟨rfl, hb⟩
  have B2 := Lib.hid (B1.out.trans (hb.mono B1.out.size))
  clear hb
  go_wp2_with fail
  go_ret
  exact ⟨rfl, B2.out⟩
end
end
end Go.Proofs.YtdkodedocklmdaaGreatDoor
