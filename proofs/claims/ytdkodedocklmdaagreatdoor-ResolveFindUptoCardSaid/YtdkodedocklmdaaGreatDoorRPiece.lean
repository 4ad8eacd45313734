/- The contract of a walk's piece. -/
import Derived.Test.YtdkodedocklmdaaGreatDoorRLink
set_option linter.unusedSimpArgs false
set_option linter.unusedVariables false
namespace Go.Proofs.YtdkodedocklmdaaGreatDoor
open Go.RowKit Go.Shelf Go.Maps
open Go.Lib hiding intOf size_eq
theorem none_any (a b c : Value) (w : World) : Calls Tryz.prog 77 #[a, b, c] w fun e w' => e = .returned (.tuple #[.bool false, .iface 105 (.int .i64 10)]) ∧ w = w' := by
  go_enter Tryz.func77, Tryz.ntmps77
  go_wp2
  go_ret2
  exact ⟨rfl, rfl⟩
theorem link_bs (a : List UInt8) (e : Ent) : linkB (bs a) e.l = bs (linkAt a e) := by
  unfold linkB linkAt
  split
  · rfl
  · rfl
theorem after_get {w : World} {T Wk cap : Nat} {a : ByteArray} {ad : Addr} {left : List (List UInt8)} {hops : Nat} {keep : Bool} {sv : Value} (w1 : World) (e : Ent) (hw : w.heap[Wk]? = some (walkObj T a (.slice (some ad) left.length cap) hops keep sv))
    (hl : LeftA w (some ad) cap left) (ho : ad.block ≠ Wk) (h1 : Below w.heap.size w w1) :
    ∃ w2, w2 = (w1.alloc (.cells #[.string ⟨#[]⟩, .int .i64 0, .int .i64 0, .string ⟨#[]⟩, .string ⟨#[]⟩] 38)).setRow w1.heap.size #[.string e.p, .int .i64 e.k, .int .i64 e.m, .string e.d, .string e.l] ∧
      (w1.alloc (.cells #[.string ⟨#[]⟩, .int .i64 0, .int .i64 0, .string ⟨#[]⟩, .string ⟨#[]⟩] 38)).heap[w1.heap.size]? = some (.cells #[.string ⟨#[]⟩, .int .i64 0, .int .i64 0, .string ⟨#[]⟩, .string ⟨#[]⟩] 38 (0, 0)) ∧
      w2.cell? ⟨Wk, 1, none⟩ = some (.string a) ∧ w2.cell? ⟨Wk, 2, none⟩ = some (.slice (some ad) left.length cap) ∧ w2.cell? ⟨Wk, 3, none⟩ = some (.int .i64 hops) ∧ w2.cell? ⟨Wk, 4, none⟩ = some (.bool keep) ∧ w2.cell? ⟨Wk, 5, none⟩ = some (.bool false) ∧ w2.cell? ⟨Wk, 6, none⟩ = some (.func (.func 77) #[] #[]) ∧ w2.cell? ⟨Wk, 7, none⟩ = some sv ∧
      w2.cell? ⟨w1.heap.size, 1, none⟩ = some (.int .i64 e.k) ∧ w2.cell? ⟨w1.heap.size, 4, none⟩ = some (.string e.l) ∧ w2.frozen? ⟨Wk, 1, none⟩ = false ∧
      But [Wk] w w2 ∧ w2.heap[Wk]? = some (walkObj T a (.slice (some ad) left.length cap) hops keep sv) ∧ LeftA w2 (some ad) cap left := by
  have hb0 := World.alloc_heap_new w1 (.cells #[.string ⟨#[]⟩, .int .i64 0, .int .i64 0, .string ⟨#[]⟩, .string ⟨#[]⟩] 38)
  have hb := (But.refl [Wk] w).below h1
  have hb2 : But [Wk] w ((w1.alloc (.cells #[.string ⟨#[]⟩, .int .i64 0, .int .i64 0, .string ⟨#[]⟩, .string ⟨#[]⟩] 38)).setRow w1.heap.size #[.string e.p, .int .i64 e.k, .int .i64 e.m, .string e.d, .string e.l]) := by
    have h := hb.alloc (.cells #[.string ⟨#[]⟩, .int .i64 0, .int .i64 0, .string ⟨#[]⟩, .string ⟨#[]⟩] 38)
    exact ⟨h.os, h.tape, h.output, by simpa using h.size, fun k hk hn => (setRow_other _ w1.heap.size k _ (by have := h1.size; omega)).trans (h.block k hk hn)⟩
  have hrow := setRow_at (cs := #[.string e.p, .int .i64 e.k, .int .i64 e.m, .string e.d, .string e.l]) hb0
  have hwk : ((w1.alloc (.cells #[.string ⟨#[]⟩, .int .i64 0, .int .i64 0, .string ⟨#[]⟩, .string ⟨#[]⟩] 38)).setRow w1.heap.size #[.string e.p, .int .i64 e.k, .int .i64 e.m, .string e.d, .string e.l]).heap[Wk]? = some (walkObj T a (.slice (some ad) left.length cap) hops keep sv) := by
    have hlt := heap_lt hw
    rw [setRow_other _ w1.heap.size Wk _ (by have := h1.size; omega), heap_alloc_old w1 _ (Nat.lt_of_lt_of_le hlt h1.size), h1.block Wk hlt]
    exact hw
  obtain ⟨_, c1, c2, c3, c4, c5, c6, c7⟩ := walk_cells hwk
  refine ⟨_, rfl, hb0, c1, c2, c3, c4, c5, c6, c7, ?_, ?_, walk_frozen hwk 1, hb2, hwk, hl.but hb2 (fun b hb => by injection hb with hb; subst hb; simpa using ho)⟩
  · unfold World.cell?
    rw [hrow]
    rfl
  · unfold World.cell?
    rw [hrow]
    rfl
/-- what piece answers -/
def PieceR (L : List Ent) (keep : Bool) (T Wk : Nat) (sv : Value) (a q : List UInt8) (left : List (List UInt8)) (hops : Nat) (ad : Addr) (cap : Nat) (w : World) (r : Ending) (w' : World) : Prop :=
  But [Wk] w w' ∧ match pieceF L keep a q left hops with
    | .error n => r = .returned (.tuple #[.bool false, errV n])
    | .ok none => r = .returned (.tuple #[.bool true, .nilIface]) ∧ w'.heap[Wk]? = some (walkObj T (bs a) (.slice (some ad) left.length cap) hops keep sv)
    | .ok (some (a', left', hops')) => r = .returned (.tuple #[.bool false, .nilIface]) ∧ ∃ o' cap', w'.heap[Wk]? = some (walkObj T (bs a') (.slice o' left'.length cap') hops' keep sv) ∧ LeftA w' o' cap' left' ∧ (o' = some ad ∨ ∀ b, o' = some b → w.heap.size ≤ b.block)
set_option maxRecDepth 100000 in
set_option maxHeartbeats 8000000 in
theorem piece_any {T rt rm tb Wk cap : Nat} {nd : List Nd} {a : List UInt8} {ad : Addr} {left : List (List UInt8)} {hops : Nat} {keep : Bool} {sv : Value} (c : ByteArray) (q : List UInt8) (w : World) (ht : TreeAt w T rt rm tb nd) (hw : w.heap[Wk]? = some (walkObj T (bs a) (.slice (some ad) left.length cap) hops keep sv))
    (hl : LeftA w (some ad) cap left) (ho : ad.block ≠ Wk) (hqs : q.length < 4611686018427387904) (hll : left.length ≤ 1099511627776) (hh : hops ≤ 40) :
    Calls Tryz.prog 111 #[.pointer (some ⟨Wk, 0, none⟩), .string c, .string (bs q)] w fun r w' => PieceR (ents nd) keep T Wk sv a q left hops ad cap w r w' := by
  have hget := get_any (bs q) w ht (by rw [bs_size]; exact hqs)
  have hgood := ht.good
  obtain ⟨c0, _, _, _, _, _, _, _⟩ := walk_cells hw
  clear ht
  cases hq : lookE (ents nd) q with
  | none =>
    have hp : pieceF (ents nd) keep a q left hops = .error 10 := by unfold pieceF; rw [hq]
    have Hp := Lib.hid hp
    rw [bs_toList, hq] at hget
    obtain ⟨e, he⟩ : ∃ e : Ent, e = ⟨emp, 0, 0, emp, emp⟩ := ⟨_, rfl⟩
    have hget2 : Calls Tryz.prog 24 #[.pointer (some ⟨T, 0, none⟩), .string (bs q)] w fun r w' => r = .returned (.tuple #[.agg #[.string e.p, .int .i64 e.k, .int .i64 e.m, .string e.d, .string e.l], .bool false]) ∧ Below w.heap.size w w' := by rw [he]; exact hget
    have Hget := Lib.hid hget2
    have Haf := Lib.hid (fun w1 h1 => after_get w1 e hw hl ho h1)
    clear hp hget hget2 he hq hw hl
    go_enter Tryz.func111, Tryz.ntmps111
    go_wp2_with (first
      | (go_at_call 24; refine Hget.out.mono ?_; rintro e w1 ⟨rfl, hb1⟩
         obtain ⟨w2, hw2, hz, d0, d1, d2, d3, d4, d5, d6, x1, x4, g1, hb2, hblk, hla⟩ := Haf.out w1 hb1
         have Hz := Lib.hid hz
         have Hw2 := Lib.hid hw2
         have HB := Lib.hid hb2
         have HW := Lib.hid hblk
         have HL := Lib.hid hla
         clear hb1 hw2 hz hb2 hblk hla)
      | (refine wpList_store_row rfl _ _ _ rfl w1.heap.size #[.string e.p, .int .i64 e.k, .int .i64 e.m, .string e.d, .string e.l] rfl rfl 38 _ Hz.out (by kernel_rfl) rfl (by kernel_rfl) ?_; rw [← Hw2.out])
      | (refine (none_any _ _ _ _).mono ?_; rintro e w3 ⟨rfl, rfl⟩))

    go_ret2
    refine ⟨HB.out, ?_⟩
    rw [Hp.out]
    rfl
  | some e =>
    have hget2 : Calls Tryz.prog 24 #[.pointer (some ⟨T, 0, none⟩), .string (bs q)] w fun r w' => r = .returned (.tuple #[.agg #[.string e.p, .int .i64 e.k, .int .i64 e.m, .string e.d, .string e.l], .bool true]) ∧ Below w.heap.size w w' := by rw [bs_toList, hq] at hget; exact hget
    have Hget := Lib.hid hget2
    have Haf := Lib.hid (fun w1 h1 => after_get w1 e hw hl ho h1)
    have hpf : pieceF (ents nd) keep a q left hops = (if e.k = 1 then .ok (some (q, left, hops)) else if e.k = 2 then (if left ≠ [] then .error 13 else .ok none) else if keep = true ∧ left = [] then .ok none else if hops = 40 then .error 12 else .ok (some (linkAt a e, pieces e.l.data.toList ++ left, hops + 1))) := by unfold pieceF; rw [hq]
    by_cases k1 : e.k = 1
    · rw [if_pos k1] at hpf
      have Hp := Lib.hid hpf
      have b1 : (e.k == 1) = true := by simpa using k1
      clear hget hget2 hq hw hl hpf k1
      go_enter Tryz.func111, Tryz.ntmps111
      go_wp2_with (first
        | (go_at_call 24; refine Hget.out.mono ?_; rintro e w1 ⟨rfl, hb1⟩
           obtain ⟨w2, hw2, hz, d0, d1, d2, d3, d4, d5, d6, x1, x4, g1, hb2, hblk, hla⟩ := Haf.out w1 hb1
           have Hz := Lib.hid hz
           have Hw2 := Lib.hid hw2
           have HB := Lib.hid hb2
           have HW := Lib.hid hblk
           have HL := Lib.hid hla
           clear hb1 hw2 hz hb2 hblk hla)
        | (refine wpList_store_row rfl _ _ _ rfl w1.heap.size #[.string e.p, .int .i64 e.k, .int .i64 e.m, .string e.d, .string e.l] rfl rfl 38 _ Hz.out (by kernel_rfl) rfl (by kernel_rfl) ?_; rw [← Hw2.out]))

      go_ret2
      refine ⟨HB.out.setCell (p := ⟨Wk, 1, none⟩) (.inl (List.mem_singleton.2 rfl)) _, ?_⟩
      rw [Hp.out]
      exact ⟨rfl, _, _, walk_setAt HW.out _, HL.out.but ((But.refl [Wk] w2).setCell (p := ⟨Wk, 1, none⟩) (.inl (List.mem_singleton.2 rfl)) _) (fun b hb => by injection hb with hb; subst hb; simpa using ho), .inl rfl⟩
    have b1 : (e.k == 1) = false := by simpa using k1
    rw [if_neg k1] at hpf
    by_cases k2 : e.k = 2
    · have b2 : (e.k == 2) = true := by simpa using k2
      rw [if_pos k2] at hpf
      by_cases hn : left = []
      · rw [if_neg (by simpa using hn)] at hpf
        have b3 : ((left.length : Int) == 0) = true := by rw [hn]; rfl
        have Hp := Lib.hid hpf
        clear hget hget2 hq hw hl hpf k1 k2 hn
        go_enter Tryz.func111, Tryz.ntmps111
        go_wp2_with (first
          | (go_at_call 24; refine Hget.out.mono ?_; rintro e w1 ⟨rfl, hb1⟩
             obtain ⟨w2, hw2, hz, d0, d1, d2, d3, d4, d5, d6, x1, x4, g1, hb2, hblk, hla⟩ := Haf.out w1 hb1
             have Hz := Lib.hid hz
             have Hw2 := Lib.hid hw2
             have HB := Lib.hid hb2
             have HW := Lib.hid hblk
             have HL := Lib.hid hla
             clear hb1 hw2 hz hb2 hblk hla)
          | (refine wpList_store_row rfl _ _ _ rfl w1.heap.size #[.string e.p, .int .i64 e.k, .int .i64 e.m, .string e.d, .string e.l] rfl rfl 38 _ Hz.out (by kernel_rfl) rfl (by kernel_rfl) ?_; rw [← Hw2.out]))

        go_ret2
        refine ⟨HB.out, ?_⟩
        rw [Hp.out]
        exact ⟨rfl, HW.out⟩
      · rw [if_pos hn] at hpf
        have b3 : ((left.length : Int) == 0) = false := by have := List.length_pos_iff.2 hn; simp; omega
        have Hp := Lib.hid hpf
        clear hget hget2 hq hw hl hpf k1 k2 hn
        go_enter Tryz.func111, Tryz.ntmps111
        go_wp2_with (first
          | (go_at_call 24; refine Hget.out.mono ?_; rintro e w1 ⟨rfl, hb1⟩
             obtain ⟨w2, hw2, hz, d0, d1, d2, d3, d4, d5, d6, x1, x4, g1, hb2, hblk, hla⟩ := Haf.out w1 hb1
             have Hz := Lib.hid hz
             have Hw2 := Lib.hid hw2
             have HB := Lib.hid hb2
             have HW := Lib.hid hblk
             have HL := Lib.hid hla
             clear hb1 hw2 hz hb2 hblk hla)
          | (refine wpList_store_row rfl _ _ _ rfl w1.heap.size #[.string e.p, .int .i64 e.k, .int .i64 e.m, .string e.d, .string e.l] rfl rfl 38 _ Hz.out (by kernel_rfl) rfl (by kernel_rfl) ?_; rw [← Hw2.out]))

        go_ret2
        refine ⟨HB.out, ?_⟩
        rw [Hp.out]
        rfl
    have b2 : (e.k == 2) = false := by simpa using k2
    rw [if_neg k2] at hpf
    by_cases hkl : keep = true ∧ left = []
    · rw [if_pos hkl] at hpf
      obtain ⟨rfl, hn⟩ := hkl
      have b3 : ((left.length : Int) == 0) = true := by rw [hn]; rfl
      have Hp := Lib.hid hpf
      clear hget hget2 hq hw hl hpf k1 k2 hn
      go_enter Tryz.func111, Tryz.ntmps111
      go_wp2_with (first
        | (go_at_call 24; refine Hget.out.mono ?_; rintro e w1 ⟨rfl, hb1⟩
           obtain ⟨w2, hw2, hz, d0, d1, d2, d3, d4, d5, d6, x1, x4, g1, hb2, hblk, hla⟩ := Haf.out w1 hb1
           have Hz := Lib.hid hz
           have Hw2 := Lib.hid hw2
           have HB := Lib.hid hb2
           have HW := Lib.hid hblk
           have HL := Lib.hid hla
           clear hb1 hw2 hz hb2 hblk hla)
        | (refine wpList_store_row rfl _ _ _ rfl w1.heap.size #[.string e.p, .int .i64 e.k, .int .i64 e.m, .string e.d, .string e.l] rfl rfl 38 _ Hz.out (by kernel_rfl) rfl (by kernel_rfl) ?_; rw [← Hw2.out]))

      go_ret2
      refine ⟨HB.out, ?_⟩
      rw [Hp.out]
      exact ⟨rfl, HW.out⟩
    rw [if_neg hkl] at hpf
    have hlk := fun W (h1 : W.heap[Wk]? = some (walkObj T (bs a) (.slice (some ad) left.length cap) (hops : Int) keep sv)) h2 => link_any (sv := sv) e.l W h1 h2 ho (link_short hgood hq k1 k2).2 (by have := link_size hgood hq k1 k2; omega) hll hh
    have Hlk := Lib.hid hlk
    cases keep with
    | false =>
      by_cases h40 : hops = 40
      · rw [if_pos h40] at hpf
        have Hp := Lib.hid hpf
        have H40 := Lib.hid h40
        clear hget hget2 hq hw hl hpf k1 k2 hkl hlk h40
        go_enter Tryz.func111, Tryz.ntmps111
        go_wp2_with (first
          | (go_at_call 24; refine Hget.out.mono ?_; rintro e w1 ⟨rfl, hb1⟩
             obtain ⟨w2, hw2, hz, d0, d1, d2, d3, d4, d5, d6, x1, x4, g1, hb2, hblk, hla⟩ := Haf.out w1 hb1
             have Hz := Lib.hid hz
             have Hw2 := Lib.hid hw2
             have HB := Lib.hid hb2
             have HW := Lib.hid hblk
             have HL := Lib.hid hla
             clear hb1 hw2 hz hb2 hblk hla)
          | (refine wpList_store_row rfl _ _ _ rfl w1.heap.size #[.string e.p, .int .i64 e.k, .int .i64 e.m, .string e.d, .string e.l] rfl rfl 38 _ Hz.out (by kernel_rfl) rfl (by kernel_rfl) ?_; rw [← Hw2.out])
          | (go_at_call 141; refine (Hlk.out _ HW.out HL.out).mono ?_; rintro r w3 ⟨h1, h2, h3⟩
             obtain rfl := h2 H40.out
             have HB3 := Lib.hid h1
             clear h1 h2 h3))

        go_ret2
        refine ⟨HB.out.trans HB3.out (fun i hi => .inl hi), ?_⟩
        rw [Hp.out]
        rfl
      · rw [if_neg h40] at hpf
        have Hp := Lib.hid hpf
        have H40 := Lib.hid h40
        clear hget hget2 hq hw hl hpf k1 k2 hkl hlk h40
        go_enter Tryz.func111, Tryz.ntmps111
        go_wp2_with (first
          | (go_at_call 24; refine Hget.out.mono ?_; rintro e w1 ⟨rfl, hb1⟩
             obtain ⟨w2, hw2, hz, d0, d1, d2, d3, d4, d5, d6, x1, x4, g1, hb2, hblk, hla⟩ := Haf.out w1 hb1
             have Hz := Lib.hid hz
             have Hw2 := Lib.hid hw2
             have HB := Lib.hid hb2
             have HW := Lib.hid hblk
             have HL := Lib.hid hla
             clear hb1 hw2 hz hb2 hblk hla)
          | (refine wpList_store_row rfl _ _ _ rfl w1.heap.size #[.string e.p, .int .i64 e.k, .int .i64 e.m, .string e.d, .string e.l] rfl rfl 38 _ Hz.out (by kernel_rfl) rfl (by kernel_rfl) ?_; rw [← Hw2.out])
          | (go_at_call 141; refine (Hlk.out _ HW.out HL.out).mono ?_; rintro r w3 ⟨h1, h2, h3⟩
             obtain ⟨rfl, o', cap', h4, h5, h6⟩ := h3 H40.out
             have HB3 := Lib.hid h1
             have HW3 := Lib.hid h4
             have HL3 := Lib.hid h5
             have HO3 := Lib.hid h6
             clear h1 h2 h3 h4 h5 h6))

        go_ret2
        refine ⟨HB.out.trans HB3.out (fun i hi => .inl hi), ?_⟩
        rw [Hp.out]
        refine ⟨rfl, o', cap', ?_, HL3.out, .inr (fun b hb => Nat.le_trans HB.out.size (HO3.out b hb))⟩
        rw [HW3.out, link_bs]
    | true =>
      have b3 : ((left.length : Int) == 0) = false := by
        have hn : left ≠ [] := fun h => hkl ⟨rfl, h⟩
        have := List.length_pos_iff.2 hn; simp; omega
      by_cases h40 : hops = 40
      · rw [if_pos h40] at hpf
        have Hp := Lib.hid hpf
        have H40 := Lib.hid h40
        clear hget hget2 hq hw hl hpf k1 k2 hkl hlk h40
        go_enter Tryz.func111, Tryz.ntmps111
        go_wp2_with (first
          | (go_at_call 24; refine Hget.out.mono ?_; rintro e w1 ⟨rfl, hb1⟩
             obtain ⟨w2, hw2, hz, d0, d1, d2, d3, d4, d5, d6, x1, x4, g1, hb2, hblk, hla⟩ := Haf.out w1 hb1
             have Hz := Lib.hid hz
             have Hw2 := Lib.hid hw2
             have HB := Lib.hid hb2
             have HW := Lib.hid hblk
             have HL := Lib.hid hla
             clear hb1 hw2 hz hb2 hblk hla)
          | (refine wpList_store_row rfl _ _ _ rfl w1.heap.size #[.string e.p, .int .i64 e.k, .int .i64 e.m, .string e.d, .string e.l] rfl rfl 38 _ Hz.out (by kernel_rfl) rfl (by kernel_rfl) ?_; rw [← Hw2.out])
          | (go_at_call 141; refine (Hlk.out _ HW.out HL.out).mono ?_; rintro r w3 ⟨h1, h2, h3⟩
             obtain rfl := h2 H40.out
             have HB3 := Lib.hid h1
             clear h1 h2 h3))

        go_ret2
        refine ⟨HB.out.trans HB3.out (fun i hi => .inl hi), ?_⟩
        rw [Hp.out]
        rfl
      · rw [if_neg h40] at hpf
        have Hp := Lib.hid hpf
        have H40 := Lib.hid h40
        clear hget hget2 hq hw hl hpf k1 k2 hkl hlk h40
        go_enter Tryz.func111, Tryz.ntmps111
        go_wp2_with (first
          | (go_at_call 24; refine Hget.out.mono ?_; rintro e w1 ⟨rfl, hb1⟩
             obtain ⟨w2, hw2, hz, d0, d1, d2, d3, d4, d5, d6, x1, x4, g1, hb2, hblk, hla⟩ := Haf.out w1 hb1
             have Hz := Lib.hid hz
             have Hw2 := Lib.hid hw2
             have HB := Lib.hid hb2
             have HW := Lib.hid hblk
             have HL := Lib.hid hla
             clear hb1 hw2 hz hb2 hblk hla)
          | (refine wpList_store_row rfl _ _ _ rfl w1.heap.size #[.string e.p, .int .i64 e.k, .int .i64 e.m, .string e.d, .string e.l] rfl rfl 38 _ Hz.out (by kernel_rfl) rfl (by kernel_rfl) ?_; rw [← Hw2.out])
          | (go_at_call 141; refine (Hlk.out _ HW.out HL.out).mono ?_; rintro r w3 ⟨h1, h2, h3⟩
             obtain ⟨rfl, o', cap', h4, h5, h6⟩ := h3 H40.out
             have HB3 := Lib.hid h1
             have HW3 := Lib.hid h4
             have HL3 := Lib.hid h5
             have HO3 := Lib.hid h6
             clear h1 h2 h3 h4 h5 h6))

        go_ret2
        refine ⟨HB.out.trans HB3.out (fun i hi => .inl hi), ?_⟩
        rw [Hp.out]
        refine ⟨rfl, o', cap', ?_, HL3.out, .inr (fun b hb => Nat.le_trans HB.out.size (HO3.out b hb))⟩
        rw [HW3.out, link_bs]
end Go.Proofs.YtdkodedocklmdaaGreatDoor
