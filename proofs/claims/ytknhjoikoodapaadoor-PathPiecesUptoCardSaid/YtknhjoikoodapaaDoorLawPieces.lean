/- The walk of PathPieces. -/
import Derived.Test.YtknhjoikoodapaaDoorFrame
set_option linter.unusedSimpArgs false
set_option linter.unusedVariables false
namespace Go.Proofs.YtknhjoikoodapaaDoor
open Go.RowKit Go.Shelf
open Go.Lib hiding intOf
attribute [local go_sem] Oper.semAt_some

theorem cell_chain (w : World) (A B C : Obj) (n : Nat) (v : Value) (g k : Nat) (hg : g < w.heap.size) (hne : g ≠ n) : ((((w.alloc A).setCell ⟨n, 0, none⟩ v).alloc B).alloc C).cell? ⟨g, k, none⟩ = w.cell? ⟨g, k, none⟩ := by
  refine World.cell?_of_block (w := w) (a := ⟨g, k, none⟩) ?_
  show ((((w.alloc A).setCell ⟨n, 0, none⟩ v).alloc B).alloc C).heap[g]? = w.heap[g]?
  rw [Below.heap_alloc _ _ _ (by simp; omega), Below.heap_alloc _ _ _ (by simp; omega), Below.heap_setCell _ _ _ _ hne, Below.heap_alloc _ _ _ hg]

theorem leave_more {F : Fence} {n : Nat} {P : Program} {fn : Func} {tmps : Array Value} {R : Ending → World → Prop} {D : Nat} {W : World} {ds : List Deferred} (hK : W.heap[D]? = some (.deferred (some [])))
    (h : LeavesInM F n P fn tmps R ds .returning (W.putObj D (.deferred none))) : LeavesInM F n P fn tmps R ({ target := .collected D, args := #[] } :: ds) .returning W :=
  ⟨by simp, .inl ⟨_, _, rfl, run_takeDeferred hK, h⟩⟩
theorem ownFrom_num (B b : Nat) {β : Type} : OwnFrom B (fun (_ : β) W => ∃ v : Int, Boxed W b 3 (.int .i64 v)) :=
  fun _ W W' row h hg hr => h.elim fun v hv => ⟨v, Own.from (boxed_own _ _ (fun _ : Unit => .int .i64 v)) _ () W W' row hv hg hr⟩

set_option maxRecDepth 100000 in
set_option maxHeartbeats 4000000 in
theorem pathPieces_any (s t : ByteArray) (n : Int) (w : World) (hs : s.size ≤ 1073741824) (ht : t.size ≤ 1073741824) (hn : (Lit.int .i64 n).wf = true) (hg : Handle w) :
    Calls Tryd.prog 9 #[.string s, .string t, .int .i64 n] w fun e w' => e = .returned (.bool true) ∧ Below w.heap.size w w' := by
  have hl1 : (pieces s.data.toList).length ≤ s.size + 1 := by
    have h1 := weight_length (pieces s.data.toList)
    have h2 := weight_pieces s.data.toList
    rw [← size_eq] at h2
    omega
  have hl2 : (pieces t.data.toList).length ≤ t.size + 1 := by
    have h1 := weight_length (pieces t.data.toList)
    have h2 := weight_pieces t.data.toList
    rw [← size_eq] at h2
    omega
  obtain ⟨L, hL⟩ : ∃ L, L = pieces s.data.toList := ⟨_, rfl⟩
  obtain ⟨L2, hL2⟩ : ∃ L, L = pieces t.data.toList := ⟨_, rfl⟩
  rw [← hL] at hl1
  rw [← hL2] at hl2
  have c1 := fun W => rpieces_any s W (by omega)
  have c2 := fun W => rpieces_any t W (by omega)
  rw [← hL] at c1
  rw [← hL2] at c2
  have C1 := Lib.hid c1
  have C2 := Lib.hid c2
  have C3 := Lib.hid (fun W => pick_any n ((L.length : Int) + 1) W (by omega))
  have C4 := Lib.hid (fun W => piecesFn_any s W)
  have C5 := Lib.hid (fun W => piecesFn_any t W)
  have EL := Lib.hid hL
  have EL2 := Lib.hid hL2
  clear c1 c2 hL hL2
  have hb0 : Below w.heap.size w ((w.alloc (.cells #[.int .i64 n] 3)).alloc (.cells #[.bool false] 4)) := ((Below.refl _ _).alloc (Nat.le_refl _) _).alloc (by simp) _
  have hn0 : Boxed ((w.alloc (.cells #[.int .i64 n] 3)).alloc (.cells #[.bool false] 4)) w.heap.size 3 (.int .i64 n) := (Boxed.new w _ _).alloc _
  have hr0 : Boxed ((w.alloc (.cells #[.int .i64 n] 3)).alloc (.cells #[.bool false] 4)) (w.heap.size + 1) 4 (.bool false) := by
    have h := Boxed.new (w.alloc (.cells #[.int .i64 n] 3)) 4 (.bool false)
    rw [World.size_alloc] at h
    exact h
  have H0 := Lib.hid ((hg.alloc (.cells #[.int .i64 n] 3)).alloc (.cells #[.bool false] 4))
  have B0 := Lib.hid hb0
  have N0 := Lib.hid hn0
  have R0 := Lib.hid hr0
  clear hg hb0 hn0 hr0 hn
  refine (callsIn_wide (n := 0)).1 ?_
  refine callsIn_of_wp_marks Tryd.func9 rfl trivial ?_ rfl
  simp only [Tryd.ntmps9, List.size_toArray, List.length_cons, List.length_nil, Nat.reduceAdd, Nat.reduceSub, Array.replicate_succ, Array.replicate_zero, List.push_toArray, List.append_toArray, List.nil_append, List.cons_append]
  gi_wp2_with fail
  refine ⟨trivial, rfl, ?_⟩
  gi_at_call 15
  refine CallsIn.mono (callsIn_wide.2 (works_any _ H0.out)) ?_
  rintro e w1 ⟨rfl, hb⟩
  have N1 := Lib.hid (boxed_below N0.out hb)
  have R1 := Lib.hid (boxed_below R0.out hb)
  have B1 := Lib.hid (B0.out.trans (hb.mono B0.out.size))
  have hs1 : w.heap.size + 2 ≤ w1.heap.size := R1.out.lt
  clear hb N0 R0 B0 H0
  gi_wp2_with fail
  refine ⟨trivial, rfl, ?_⟩
  gi_at_call 32
  refine CallsIn.mono (callsIn_wide.2 (C1.out _)) ?_
  rintro e w2 ⟨v, rfl, htx, hb⟩
  obtain ⟨o, c, rfl, hcells⟩ := texts_any htx
  have N2 := Lib.hid (boxed_below N1.out hb)
  have R2 := Lib.hid (boxed_below R1.out hb)
  have B2 := Lib.hid (B1.out.trans (hb.mono B1.out.size))
  have hs2 := hb.size
  have X2 := Lib.hid hcells
  clear hb N1 R1 B1 htx hcells
  have hN := (N2.out.alloc (.cells #[.slice o L.length c] 37))
  gi_wp2_with fail
  refine ⟨trivial, rfl, ?_⟩
  gi_at_call 32
  refine CallsIn.mono (callsIn_wide.2 (C2.out _)) ?_
  rintro e w3 ⟨v, rfl, htx, hb⟩
  obtain ⟨o2, c2, rfl, hcells⟩ := texts_any htx
  have hs3 := hb.size
  simp only [World.size_alloc] at hs3
  have N3 := Lib.hid (boxed_below hN hb)
  have R3 := Lib.hid (boxed_below (R2.out.alloc _) hb)
  have W3 := Lib.hid (boxed_below (Boxed.new w2 37 (.slice o L.length c)) hb)
  have B3 := Lib.hid ((B2.out.alloc B2.out.size (.cells #[.slice o L.length c] 37)).trans (hb.mono (by have := B2.out.size; simp; omega)))
  have hx : ∀ (k : Nat) x, L[k]? = some x → ∃ g, o = some ⟨g, 0, none⟩ ∧ w.heap.size < g ∧ g < w2.heap.size ∧ w3.cell? ⟨g, k, none⟩ = some (.string (bs x)) := by
    intro k x hk
    obtain ⟨g, e, h0, h1, h2⟩ := X2.out k x hk
    exact ⟨g, e, by omega, h1, (hb.cell (p := ⟨g, k, none⟩) (by simp; omega)).trans ((World.cell?_alloc_lt _ _ ⟨g, k, none⟩ h1).trans h2)⟩
  have X3 := Lib.hid hx
  have Y3 := Lib.hid hcells
  clear hb N2 R2 B2 X2 htx hcells hx hN
  have hnc := (N3.out.alloc (.cells #[.slice o2 L2.length c2] 37)).cell
  have hnf := (N3.out.alloc (.cells #[.slice o2 L2.length c2] 37)).frozen
  have hwc := (W3.out.alloc (.cells #[.slice o2 L2.length c2] 37)).cell
  gi_wp2_with fail
  refine ⟨trivial, rfl, ?_⟩
  gi_at_call 33
  refine CallsIn.mono (callsIn_wide.2 (C3.out _)) ?_
  rintro e w4 ⟨⟨m, rfl⟩, rfl⟩
  gi_wp2_with (refine ⟨trivial, rfl, ?_⟩; gi_at_call 34; refine CallsIn.mono (callsIn_wide.2 (C4.out _)) ?_; rintro e w1 ⟨rfl, rfl⟩)
  obtain ⟨S1, hS1⟩ : ∃ x, x = ((((w3.alloc (.cells #[.slice o2 L2.length c2] 37)).setCell ⟨w.heap.size, 0, none⟩ (.int .i64 m)).alloc (.cells #[.string s] 9)).alloc (.cells #[.int .i64 0] 3)) := ⟨_, rfl⟩
  rw [← hS1]
  have hsz1 : S1.heap.size = w3.heap.size + 1 + 1 + 1 := by rw [hS1]; simp
  have henv : PEnv w s m w.heap.size (w.heap.size + 1) w2.heap.size w3.heap.size (w3.heap.size + 1) (w3.heap.size + 1 + 1) o o2 c c2 L L2 S1 := by
    have hx1 : ∀ (k : Nat) x, L[k]? = some x → ∃ g, o = some ⟨g, 0, none⟩ ∧ g < w3.heap.size + 1 + 1 ∧ S1.cell? ⟨g, k, none⟩ = some (.string (bs x)) := by
      intro k x hk
      obtain ⟨g, e, h0, h1, h2⟩ := X3.out k x hk
      exact ⟨g, e, by omega, by rw [hS1, cell_chain _ _ _ _ _ _ _ _ (by omega) (by omega)]; exact h2⟩
    have hx2 : ∀ (k : Nat) x, L2[k]? = some x → ∃ g, o2 = some ⟨g, 0, none⟩ ∧ g < w3.heap.size + 1 + 1 ∧ S1.cell? ⟨g, k, none⟩ = some (.string (bs x)) := by
      intro k x hk
      obtain ⟨g, e, h0, h1, h2⟩ := Y3.out k x hk
      simp only [World.size_alloc] at h0
      exact ⟨g, e, by omega, by rw [hS1, cell_chain _ _ _ _ _ _ _ _ (by omega) (by omega)]; exact h2⟩
    refine ⟨?_, ?_, ?_, ?_, ?_, hx1, hx2, by omega, by omega, by omega, by omega, by omega, by omega, ?_⟩
    · rw [hS1]; exact ((N3.out.alloc _).set _ |>.alloc _).alloc _
    · rw [hS1]; exact (((R3.out.alloc _).other (by omega) _).alloc _).alloc _
    · rw [hS1]; exact (((W3.out.alloc _).other (by omega) _).alloc _).alloc _
    · rw [hS1]; exact (((Boxed.new w3 _ _).other (by omega) _).alloc _).alloc _
    · rw [hS1]
      have h := Boxed.new ((w3.alloc (.cells #[.slice o2 L2.length c2] 37)).setCell ⟨w.heap.size, 0, none⟩ (.int .i64 m)) 9 (.string s)
      rw [World.size_setCell, World.size_alloc] at h
      exact h.alloc _
    · rw [hS1]
      refine ((((B3.out.alloc B3.out.size _).setCell (p := ⟨w.heap.size, 0, none⟩) (Nat.le_refl _) _).alloc ?_ _).alloc ?_ _)
      · simp; omega
      · simp; omega
  have hk1 : Boxed S1 (w3.heap.size + 1 + 1) 3 (.int .i64 0) := by
    rw [hS1]
    have h := Boxed.new (((w3.alloc (.cells #[.slice o2 L2.length c2] 37)).setCell ⟨w.heap.size, 0, none⟩ (.int .i64 m)).alloc (.cells #[.string s] 9)) 3 (.int .i64 0)
    rw [World.size_alloc, World.size_setCell, World.size_alloc] at h
    exact h
  clear hS1 hnc hnf hwc N3 R3 W3 B3 X3 Y3
  have hbz := henv.below.size
  have E1 := Lib.hid henv
  have hseq : SeqL Tryd.prog 53 #[.pointer (some ⟨w3.heap.size + 1, 0, none⟩)] (fun p => #[.string (bs p)]) (KeepsT 28) L S1 := by
    rw [EL.out]
    exact pieces_seq _ s S1 (by omega) henv.str.cell (by omega)
  clear henv
  refine wpIn_range_flat (gf := 53) (lb := #[.pointer (some ⟨w3.heap.size + 1, 0, none⟩)]) rfl Tryd.piecesEnters hseq (fun W => KeepsT.refl W) (fun h k => h.trans k) (fun _ _ _ o' _ h ho _ => KeepsT.putObj o' h ho) (Below.refl _ _) (fun _ => rfl)
    (fun pre Wx => Boxed Wx (w3.heap.size + 1 + 1) 3 (.int .i64 (pre.length : Int)) ∧ KeepX S1 [(w3.heap.size + 1 + 1)] Wx ∧ Below w.heap.size w Wx)
    (fun _ _ _ => False)
    (OwnFrom.and (Own.from (boxed_own _ _ (fun pre : List (List UInt8) => .int .i64 (pre.length : Int))) _) (OwnFrom.and (KeepX.own S1 _) (ownFrom_below (Nat.le_refl _) (by omega))))
    (fun _ _ _ _ _ hs _ _ => hs)
    ⟨hk1, KeepX.refl _ _, E1.out.below⟩ ?a1 ?assign ?body ?done ?stop
  case assign =>
    intro l' x Wx K hK
    gi_wp2
    exact hK
  case body =>
    rintro l' pre x rest Wx hl hr hL ⟨hk, hkx, hb⟩
    have he := E1.out.keep (by omega) hkx hb
    have hkc := hk.cell
    have hkf := hk.frozen
    have hwc := he.want.cell
    obtain ⟨g, ho, hgl, hc⟩ := he.c1 pre.length x (by rw [hL]; simp)
    subst ho
    have hlt : (pre.length : Int) < (L.length : Int) := by rw [hL]; simp; omega
    have Hb := Lib.hid hb
    have Hk := Lib.hid hk
    have Hkx := Lib.hid hkx
    clear he hb hk hkx hL hseq
    gi_wp2
    refine ⟨(KeepsOthers.setCell _ _ _).from _, KeepsT.setCell _ (fun cs fz h => box_ne Hk.out (by decide) h), ?_, Hkx.out.setCell (by simp) _, Hb.out.setCell (p := ⟨(w3.heap.size + 1 + 1), 0, none⟩) (by simp; omega) _⟩
    have h := Hk.out.set (.int .i64 ((pre.length : Int) + 1))
    rw [List.length_append, List.length_singleton]
    exact h
  case stop =>
    rintro D c pre x rest Wd hD hL h hK
    exact h.elim
  case done =>
    rintro D1 Wd hD ⟨hk, hkx, hb⟩ hK
    have he := E1.out.keep (Nat.le_refl _) hkx hb
    have hkc := hk.cell
    have hkf := hk.frozen
    have hwc := he.want.cell
    have E := Lib.hid he
    have K1 := Lib.hid hk
    have D1m := Lib.hid hK
    clear he hk hkx hb hK hseq hk1 E1
    gi_wp2_with fail
    obtain ⟨S2, hS2⟩ : ∃ x, x = Wd.setCell ⟨w3.heap.size + 1 + 1, 0, none⟩ (.int .i64 0) := ⟨_, rfl⟩
    rw [← hS2]
    have hkx := KeepX.setCell0 Wd (w3.heap.size + 1 + 1) (.int .i64 0)
    have hbel := E.out.below.setCell (p := ⟨w3.heap.size + 1 + 1, 0, none⟩) (by simp; omega) (.int .i64 0)
    have hk2 := K1.out.set (.int .i64 0)
    have hd1 := deferred_setCell D1m.out rfl ⟨w3.heap.size + 1 + 1, 0, none⟩ (.int .i64 0)
    rw [← hS2] at hkx hbel hk2 hd1
    have henv := E.out.keep (Nat.le_refl _) hkx hbel
    have hlb := henv.lb
    have hbz2 := henv.below.size
    have hd1lt : D1 < S2.heap.size := (Array.getElem?_eq_some_iff.1 hd1).1
    have E2 := Lib.hid henv
    have D12 := Lib.hid hd1
    have hseq : SeqL Tryd.prog 53 #[.pointer (some ⟨w3.heap.size + 1, 0, none⟩)] (fun p => #[.string (bs p)]) (KeepsT 28) L S2 := by
      rw [EL.out]
      exact pieces_seq _ s S2 (by omega) henv.str.cell (by omega)
    clear henv hkx hbel hS2 E K1 D1m hd1 hkc hkf hwc
    refine wpIn_range_break (gf := 53) (lb := #[.pointer (some ⟨w3.heap.size + 1, 0, none⟩)]) rfl Tryd.piecesEnters hseq (fun W => KeepsT.refl W) (fun h k => h.trans k) (fun _ _ _ o' _ h ho _ => KeepsT.putObj o' h ho) (Below.refl _ _) (fun _ => rfl)
      (fun pre Wx => Boxed Wx (w3.heap.size + 1 + 1) 3 (.int .i64 (pre.length : Int)) ∧ KeepX S2 [(w3.heap.size + 1 + 1)] Wx ∧ Below w.heap.size w Wx)
      (fun Wx => (∃ v : Int, Boxed Wx (w3.heap.size + 1 + 1) 3 (.int .i64 v)) ∧ KeepX S2 [(w3.heap.size + 1 + 1)] Wx ∧ Below w.heap.size w Wx)
      (OwnFrom.and (Own.from (boxed_own _ _ (fun pre : List (List UInt8) => .int .i64 (pre.length : Int))) _) (OwnFrom.and (KeepX.own S2 _) (ownFrom_below (Nat.le_refl _) (by omega))))
      (OwnFrom.and (ownFrom_num _ _) (OwnFrom.and (KeepX.own S2 _) (ownFrom_below (Nat.le_refl _) (by omega))))
      ⟨hk2, KeepX.refl _ _, E2.out.below⟩ ?b1 (fun W h => ⟨⟨_, h.1⟩, h.2⟩) ?assign ?body ?hk
    case assign =>
      intro l' x Wx K hK
      gi_wp2
      exact hK
    case body =>
      rintro l' pre x rest Wx hl hr hL ⟨hk, hkx, hb⟩
      have he := E2.out.keep (by omega) hkx hb
      have hkc := hk.cell
      have hkf := hk.frozen
      have hwc := he.want.cell
      have hln := he.ln
      have hnc := (he.n.other (by omega) (B' := (w3.heap.size + 1 + 1)) (.int .i64 ((pre.length : Int) + 1))).cell
      have hkc2 := (hk.set (.int .i64 ((pre.length : Int) + 1))).cell
      obtain ⟨g, ho, hgl, hc⟩ := he.c1 pre.length x (by rw [hL]; simp)
      subst ho
      have hlt : (pre.length : Int) < (L.length : Int) := by rw [hL]; simp; omega
      have h' := hk.set (.int .i64 ((pre.length : Int) + 1))
      have Hset := Lib.hid h'
      have Hb := Lib.hid (hb.setCell (p := ⟨w3.heap.size + 1 + 1, 0, none⟩) (by simp; omega) (.int .i64 ((pre.length : Int) + 1)))
      have Hk := Lib.hid hk
      have Hkx := Lib.hid (hkx.setCell (p := ⟨w3.heap.size + 1 + 1, 0, none⟩) (by simp) (.int .i64 ((pre.length : Int) + 1)))
      clear he hb hk hkx hL hseq h'
      by_cases hge : m ≤ (pre.length : Int) + 1
      · gi_wp2
        exact ⟨(KeepsOthers.setCell _ _ _).from _, rfl, ⟨_, Hset.out⟩, Hkx.out, Hb.out⟩
      · gi_wp2
        refine ⟨(KeepsOthers.setCell _ _ _).from _, KeepsT.setCell _ (fun cs fz h => box_ne Hk.out (by decide) h), ?_, Hkx.out, Hb.out⟩
        rw [List.length_append, List.length_singleton]
        exact Hset.out
    case hk =>
      rintro D2 We hD2 ⟨⟨v, hk⟩, hkx, hb⟩ hK2
      have E := Lib.hid (E2.out.keep (Nat.le_refl _) hkx hb)
      have K2 := Lib.hid hk
      have D1m := Lib.hid (hkx.mark D12.out (by simp; omega))
      have D2m := Lib.hid hK2
      have hWe : S2.heap.size ≤ We.heap.size := hkx.1
      have hD2lt : D2 < We.heap.size := (Array.getElem?_eq_some_iff.1 hK2).1
      clear hk hkx hb hK2 hseq hk2 E2 D12
      gi_wp2_with (refine ⟨trivial, rfl, ?_⟩; gi_at_call 34; refine CallsIn.mono (callsIn_wide.2 (C5.out _)) ?_; rintro e w1 ⟨rfl, rfl⟩)
      obtain ⟨S3, hS3⟩ : ∃ x, x = (We.alloc (.cells #[.int .i64 0] 3)).alloc (.cells #[.string t] 9) := ⟨_, rfl⟩
      rw [← hS3]
      have hsz3 : S3.heap.size = We.heap.size + 2 := by rw [hS3]; simp
      have hbzE := E.out.below.size
      have hkx : KeepX We [(w3.heap.size + 1 + 1)] S3 := by rw [hS3]; exact (KeepX.alloc _ _ _).trans (KeepX.alloc _ _ _)
      have hbel : Below w.heap.size w S3 := by rw [hS3]; exact (E.out.below.alloc hbzE _).alloc (by simp; omega) _
      have hj3 : Boxed S3 We.heap.size 3 (.int .i64 0) := by rw [hS3]; exact (Boxed.new We _ _).alloc _
      have hk3 : Boxed S3 (w3.heap.size + 1 + 1) 3 (.int .i64 v) := by rw [hS3]; exact (K2.out.alloc _).alloc _
      have ht3 : S3.cell? ⟨We.heap.size + 1, 0, none⟩ = some (.string t) := by
        rw [hS3]
        have h := (Boxed.new (We.alloc (.cells #[.int .i64 0] 3)) 9 (.string t)).cell
        rw [World.size_alloc] at h
        exact h
      have hne1 : D1 ∉ [(w3.heap.size + 1 + 1)] := by simp; omega
      have hne2 : D2 ∉ [(w3.heap.size + 1 + 1)] := by simp; omega
      have E3 := Lib.hid (E.out.keep (Nat.le_refl _) hkx hbel)
      have K3 := Lib.hid hk3
      have P1 := Lib.hid (hkx.mark D1m.out hne1)
      have P2 := Lib.hid (hkx.mark D2m.out hne2)
      have hseq : SeqL Tryd.prog 53 #[.pointer (some ⟨We.heap.size + 1, 0, none⟩)] (fun p => #[.string (bs p)]) (KeepsT 28) L2 S3 := by
        rw [EL2.out]
        exact pieces_seq _ t S3 (by omega) ht3 (by omega)
      clear hS3 hkx hbel hk3 ht3 E K2 D1m D2m
      refine wpIn_range_flat (gf := 53) (lb := #[.pointer (some ⟨We.heap.size + 1, 0, none⟩)]) rfl Tryd.piecesEnters hseq (fun W => KeepsT.refl W) (fun h k => h.trans k) (fun _ _ _ o' _ h ho _ => KeepsT.putObj o' h ho) (Below.refl _ _) (fun _ => rfl)
        (fun pre Wx => Boxed Wx We.heap.size 3 (.int .i64 (pre.length : Int)) ∧ KeepX S3 [We.heap.size] Wx ∧ Below w.heap.size w Wx)
        (fun _ _ _ => False)
        (OwnFrom.and (Own.from (boxed_own _ _ (fun pre : List (List UInt8) => .int .i64 (pre.length : Int))) _) (OwnFrom.and (KeepX.own S3 _) (ownFrom_below (Nat.le_refl _) (by omega))))
        (fun _ _ _ _ _ hs _ _ => hs)
        ⟨hj3, KeepX.refl _ _, E3.out.below⟩ ?c1 ?assign ?body ?done ?stop
      case assign =>
        intro l' x Wx K hK
        gi_wp2
        exact hK
      case body =>
        rintro l' pre x rest Wx hl hr hL ⟨hk, hkx, hb⟩
        have he := E3.out.keep (by omega) hkx hb
        have hkc := hk.cell
        have hkf := hk.frozen
        have hwc := he.more.cell
        obtain ⟨g, ho, hgl, hc⟩ := he.c2 pre.length x (by rw [hL]; simp)
        subst ho
        have hlt : (pre.length : Int) < (L2.length : Int) := by rw [hL]; simp; omega
        have Hb := Lib.hid hb
        have Hk := Lib.hid hk
        have Hkx := Lib.hid hkx
        clear he hb hk hkx hL hseq
        gi_wp2
        refine ⟨(KeepsOthers.setCell _ _ _).from _, KeepsT.setCell _ (fun cs fz h => box_ne Hk.out (by decide) h), ?_, Hkx.out.setCell (by simp) _, Hb.out.setCell (p := ⟨We.heap.size, 0, none⟩) (by simp; omega) _⟩
        have h := Hk.out.set (.int .i64 ((pre.length : Int) + 1))
        rw [List.length_append, List.length_singleton]
        exact h
      case stop =>
        rintro D c pre x rest Wd hD hL h hK
        exact h.elim
      case done =>
        rintro D3 Wf hD3 ⟨hj, hkx, hb⟩ hK3
        have hWf : S3.heap.size ≤ Wf.heap.size := hkx.1
        have hD3lt : D3 < Wf.heap.size := (Array.getElem?_eq_some_iff.1 hK3).1
        have henv := E3.out.keep (by omega) hkx hb
        have hk := hkx.boxed K3.out (by simp; omega)
        have hkc := hk.cell
        have hkf := hk.frozen
        have E := Lib.hid henv
        have J3 := Lib.hid hj
        have K4 := Lib.hid hk
        have Q1 := Lib.hid (hkx.mark P1.out (by simp; omega))
        have Q2 := Lib.hid (hkx.mark P2.out (by simp; omega))
        have Q3 := Lib.hid hK3
        clear henv hk hj hkx hb hK3 hseq hj3 E3 K3 P1 P2
        gi_wp2_with fail
        obtain ⟨S4, hS4⟩ : ∃ x, x = Wf.setCell ⟨w3.heap.size + 1 + 1, 0, none⟩ (.int .i64 0) := ⟨_, rfl⟩
        rw [← hS4]
        have hkx := KeepX.setCell0 Wf (w3.heap.size + 1 + 1) (.int .i64 0)
        have hbel := E.out.below.setCell (p := ⟨w3.heap.size + 1 + 1, 0, none⟩) (by simp; omega) (.int .i64 0)
        have hk4 := K4.out.set (.int .i64 0)
        have hj4 := J3.out.other (B' := (w3.heap.size + 1 + 1)) (by omega) (.int .i64 0)
        have hsz4 : S4.heap.size = Wf.heap.size := by rw [hS4]; simp
        rw [← hS4] at hkx hbel hk4 hj4
        have henv := E.out.keep (Nat.le_refl _) hkx hbel
        have hlb := henv.lb
        have E4 := Lib.hid henv
        have J4 := Lib.hid hj4
        have R1 := Lib.hid (hkx.mark Q1.out (by simp; omega))
        have R2 := Lib.hid (hkx.mark Q2.out (by simp; omega))
        have R3 := Lib.hid (hkx.mark Q3.out (by simp; omega))
        have hseq : SeqL Tryd.prog 53 #[.pointer (some ⟨w3.heap.size + 1, 0, none⟩)] (fun p => #[.string (bs p)]) (KeepsT 28) L S4 := by
          rw [EL.out]
          exact pieces_seq _ s S4 (by omega) henv.str.cell (by omega)
        clear henv hkx hbel hS4 E J3 K4 Q1 Q2 Q3 hj4 hkc hkf
        refine wpIn_range_flat (gf := 53) (lb := #[.pointer (some ⟨w3.heap.size + 1, 0, none⟩)]) rfl Tryd.piecesEnters hseq (fun W => KeepsT.refl W) (fun h k => h.trans k) (fun _ _ _ o' _ h ho _ => KeepsT.putObj o' h ho) (Below.refl _ _) (fun _ => rfl)
          (fun pre Wx => Boxed Wx (w3.heap.size + 1 + 1) 3 (.int .i64 (pre.length : Int)) ∧ KeepX S4 [(w3.heap.size + 1 + 1)] Wx ∧ Below w.heap.size w Wx)
          (fun _ _ _ => False)
          (OwnFrom.and (Own.from (boxed_own _ _ (fun pre : List (List UInt8) => .int .i64 (pre.length : Int))) _) (OwnFrom.and (KeepX.own S4 _) (ownFrom_below (Nat.le_refl _) (by omega))))
          (fun _ _ _ _ _ hs _ _ => hs)
          ⟨hk4, KeepX.refl _ _, E4.out.below⟩ ?d1 ?assign ?body ?done ?stop
        case assign =>
          intro l' x Wx K hK
          gi_wp2
          exact hK
        case body =>
          rintro l' pre x rest Wx hl hr hL ⟨hk, hkx, hb⟩
          have he := E4.out.keep (by omega) hkx hb
          have hkc := hk.cell
          have hkf := hk.frozen
          have hwc := he.want.cell
          obtain ⟨g, ho, hgl, hc⟩ := he.c1 pre.length x (by rw [hL]; simp)
          subst ho
          have hlt : (pre.length : Int) < (L.length : Int) := by rw [hL]; simp; omega
          have Hb := Lib.hid hb
          have Hk := Lib.hid hk
          have Hkx := Lib.hid hkx
          clear he hb hk hkx hL hseq
          gi_wp2
          refine ⟨(KeepsOthers.setCell _ _ _).from _, KeepsT.setCell _ (fun cs fz h => box_ne Hk.out (by decide) h), ?_, Hkx.out.setCell (by simp) _, Hb.out.setCell (p := ⟨(w3.heap.size + 1 + 1), 0, none⟩) (by simp; omega) _⟩
          have h := Hk.out.set (.int .i64 ((pre.length : Int) + 1))
          rw [List.length_append, List.length_singleton]
          exact h
        case stop =>
          rintro D c pre x rest Wd hD hL h hK
          exact h.elim
        case done =>
          rintro D4 Wg hD4 ⟨hk, hkx, hb⟩ hK4
          have henv := E4.out.keep (Nat.le_refl _) hkx hb
          have hj := hkx.boxed J4.out (by simp; omega)
          have hkc := hk.cell
          have hkf := hk.frozen
          have hjc := hj.cell
          have hjf := hj.frozen
          have hwc := henv.want.cell
          have hmc := henv.more.cell
          have hrc := henv.r.cell
          have hrf := henv.r.frozen
          have m1 := hkx.mark R1.out (by simp; omega)
          have m2 := hkx.mark R2.out (by simp; omega)
          have m3 := hkx.mark R3.out (by simp; omega)
          have fin : ∀ tmps : Array Value, tmps[6]? = some (.pointer (some ⟨w.heap.size + 1, 0, none⟩)) → LeavesInM Fence.wide 0 Tryd.prog Tryd.f9 tmps (fun e w' => e = .returned (.bool true) ∧ Below w.heap.size w w')
              [{ target := .collected D4, args := #[] }, { target := .collected D3, args := #[] }, { target := .collected D2, args := #[] }, { target := .collected D1, args := #[] }] .returning
              (Wg.setCell ⟨w.heap.size + 1, 0, none⟩ (.bool true)) := by
            intro tmps ht
            have n4 := deferred_setCell hK4 rfl ⟨w.heap.size + 1, 0, none⟩ (.bool true)
            have n3 := deferred_setCell m3 rfl ⟨w.heap.size + 1, 0, none⟩ (.bool true)
            have n2 := deferred_setCell m2 rfl ⟨w.heap.size + 1, 0, none⟩ (.bool true)
            have n1 := deferred_setCell m1 rfl ⟨w.heap.size + 1, 0, none⟩ (.bool true)
            have hr := henv.r.set (.bool true)
            have hbl := hb.setCell (p := ⟨w.heap.size + 1, 0, none⟩) (by simp) (.bool true)
            generalize Wg.setCell ⟨w.heap.size + 1, 0, none⟩ (.bool true) = Z at *
            have o3 : (Z.putObj D4 (.deferred none)).heap[D3]? = some (.deferred (some [])) := (World.putObj_heap_other (by omega)).trans n3
            have o2 : ((Z.putObj D4 (.deferred none)).putObj D3 (.deferred none)).heap[D2]? = some (.deferred (some [])) := (World.putObj_heap_other (by omega)).trans ((World.putObj_heap_other (by omega)).trans n2)
            have o1 : (((Z.putObj D4 (.deferred none)).putObj D3 (.deferred none)).putObj D2 (.deferred none)).heap[D1]? = some (.deferred (some [])) := (World.putObj_heap_other (by omega)).trans ((World.putObj_heap_other (by omega)).trans ((World.putObj_heap_other (by omega)).trans n1))
            have r4 := Boxed.putObj hr (.deferred none) n4 rfl
            have r3 := Boxed.putObj r4 (.deferred none) o3 rfl
            have r2 := Boxed.putObj r3 (.deferred none) o2 rfl
            have r1 := (Boxed.putObj r2 (.deferred none) o1 rfl).cell
            refine leave_more n4 (leave_more o3 (leave_more o2 (leave_mark (v := .bool true) o1 (by simp [results, Tryd.results9, go_sem, ht, r1]) ⟨rfl, below_putObj (below_putObj (below_putObj (below_putObj hbl _ (by omega)) _ (by omega)) _ (by omega)) _ (by omega)⟩)))
          have Fin := Lib.hid fin
          clear fin henv hj hk hkx hb hK4 m1 m2 m3 hseq hk4 E4 J4 R1 R2 R3
          gi_wp2
          exact Fin.out _ rfl
end Go.Proofs.YtknhjoikoodapaaDoor
