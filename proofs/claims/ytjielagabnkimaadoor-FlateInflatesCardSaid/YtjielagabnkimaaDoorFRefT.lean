/- The document's reader: a block of kind 2. -/
import Derived.Test.YtjielagabnkimaaDoorFRefR
set_option linter.unusedSimpArgs false
set_option linter.unusedVariables false
namespace Go.Proofs.YtjielagabnkimaaDoor
open Go.RowKit Go.Maps

set_option maxRecDepth 100000 in
set_option maxHeartbeats 8000000 in
theorem rdynamic_any (R base most : Nat) (s : ByteArray) (out : List UInt8) (r : List Bool) (oa : Addr) (oc : Nat) (w : World) (hR : RdAt w R base s most out (.ok r)) (hOS : ∀ W, Keeps (okOut R base) w W → OrdC W oa oc)
    (hbz : base ≤ w.heap.size) (hm : most < 2 ^ 40) (hs : s.size < 2 ^ 40) (hl : out.length ≤ most) :
    Calls Tryd.prog 32 #[.pointer (some ⟨R, 0, none⟩)] w fun e w' => e = .returned (.tuple #[]) ∧ RdOut w' R base most s (dynB (most : Int) out (codesP r)) ∧ Keeps (okOut R base) w w' := by
  have hhead := codes_head r
  obtain ⟨cr, hcr⟩ : ∃ q, q = codesP r := ⟨_, rfl⟩
  rw [← hcr] at hhead ⊢
  have hn1 := fun W hW => rnumber_any R base most s out (.ok r) 5 W hW hs (by decide)
  have hx32 := numI_lt (.ok r) 5
  obtain ⟨x, hx⟩ : ∃ q, q = (numI (.ok r) 5).1 := ⟨_, rfl⟩
  obtain ⟨st1, hst1⟩ : ∃ q, q = numS 5 (.ok r) := ⟨_, rfl⟩
  rw [← hx, ← hst1] at hhead hn1
  rw [← hx] at hx32
  have hn2 := fun W hW => rnumber_any R base most s out st1 5 W hW hs (by decide)
  have hy32 := numI_lt st1 5
  obtain ⟨y, hy⟩ : ∃ q, q = (numI st1 5).1 := ⟨_, rfl⟩
  obtain ⟨st2, hst2⟩ : ∃ q, q = numS 5 st1 := ⟨_, rfl⟩
  rw [← hy, ← hst2] at hhead hn2
  rw [← hy] at hy32
  have hn3 := fun W hW => rnumber_any R base most s out st2 4 W hW hs (by decide)
  have hz16 := numI_lt st2 4
  obtain ⟨z, hz⟩ : ∃ q, q = (numI st2 4).1 := ⟨_, rfl⟩
  obtain ⟨st3, hst3⟩ : ∃ q, q = numS 4 st2 := ⟨_, rfl⟩
  rw [← hz, ← hst3] at hhead hn3
  rw [← hz] at hz16
  have hhead2 := head_test hhead
  have hwr := fun st W hW => rwrong_any R base most s out st 4 W hW (by decide) (by decide)
  have Hwr := Lib.hid hwr
  have Hhead := Lib.hid hhead2
  have Hn1 := Lib.hid hn1
  have Hn2 := Lib.hid hn2
  have Hn3 := Lib.hid hn3
  have Hr0 := Lib.hid hR
  have Hk0 := Lib.hid (Keeps.refl (okOut R base) w)
  have HOS := Lib.hid hOS
  clear hwr hhead hhead2 hn1 hn2 hn3 hR hOS hcr hx hst1 hy hst2 hz hst3
  go_enter Tryd.func32, Tryd.ntmps32
  go_upto_region 3 with (first
    | (go_at_call 26; refine (Hn3.out _ Hr2.out).mono ?_; rintro e w3 ⟨rfl, hr3, hk3⟩
       have hk_ := Hk2.out.trans hk3
       have Hr3 := Lib.hid hr3
       have Hk3 := Lib.hid hk_
       clear hr3 hk3 hk_)
    | (go_at_call 26; refine (Hn2.out _ Hr1.out).mono ?_; rintro e w2 ⟨rfl, hr2, hk2⟩
       have hk_ := Hk1.out.trans hk2
       have Hr2 := Lib.hid hr2
       have Hk2 := Lib.hid hk_
       clear hr2 hk2 hk_)
    | (go_at_call 26; refine (Hn1.out _ Hr0.out).mono ?_; rintro e w1 ⟨rfl, hr1, hk1⟩
       have hk_ := Hk0.out.trans hk1
       have Hr1 := Lib.hid hr1
       have Hk1 := Lib.hid hk_
       clear hr1 hk1 hk_))
  go_cut [26] (fun v wx => v = .bool (decide (286 < 257 + x ∨ 30 < 1 + y)) ∧ RdAt wx R base s most out st3 ∧ Keeps (okOut R base) w wx)
  case first =>
    by_cases h1 : (286 : Int) < 257 + (x : Int)
    · go_wp2_with fail
      go_meet
      exact ⟨by rw [decide_eq_true (show 286 < 257 + x ∨ 30 < 1 + y by omega)], Hr3.out, Hk3.out⟩
    · by_cases h2 : (30 : Int) < 1 + (y : Int)
      · go_wp2_with fail
        go_meet
        exact ⟨by rw [decide_eq_true (show 286 < 257 + x ∨ 30 < 1 + y by omega)], Hr3.out, Hk3.out⟩
      · go_wp2_with fail
        go_meet
        exact ⟨by rw [decide_eq_false (show ¬ (286 < 257 + x ∨ 30 < 1 + y) by omega)], Hr3.out, Hk3.out⟩
  case rest =>
    obtain ⟨rfl, hr4, hk4⟩ := hcut
    obtain ⟨wo, hwo⟩ : ∃ q, q = wc := ⟨_, rfl⟩
    subst hwo
    have Hr4 := Lib.hid hr4
    have Hk4 := Lib.hid hk4
    clear hr4 hk4 Hr3 Hk3 Hr2 Hk2 Hr1 Hk1
    obtain ⟨st4, hst4⟩ : ∃ q, q = (if 286 < 257 + x ∨ 30 < 1 + y then wrongS 4 st3 else st3) := ⟨_, rfl⟩
    rw [← hst4] at Hhead
    have Hst4 := Lib.hid hst4
    clear hst4
    go_upto_if 26 with fail
    go_cut [] (fun wx => RdAt wx R base s most out st4 ∧ Keeps (okOut R base) w wx)
    case first =>
      by_cases hb : 286 < 257 + x ∨ 30 < 1 + y
      · have hbd : decide (286 < 257 + x ∨ 30 < 1 + y) = true := decide_eq_true hb
        have Hb := Lib.hid hb
        clear hb
        rw [hbd]
        go_wp2_with (go_at_call 55; refine (Hwr.out _ _ Hr4.out).mono ?_; rintro e w5 ⟨rfl, hr5, hk5⟩
                     have hk_ := Hk4.out.trans hk5
                     have Hr5 := Lib.hid hr5
                     have Hk5 := Lib.hid hk_
                     clear hr5 hk5 hk_)
        go_meet
        exact ⟨by rw [Hst4.out, if_pos Hb.out]; exact Hr5.out, Hk5.out⟩
      · have hbd : decide (286 < 257 + x ∨ 30 < 1 + y) = false := decide_eq_false hb
        have Hb := Lib.hid hb
        clear hb
        rw [hbd]
        go_wp2_with fail
        go_meet
        exact ⟨by rw [Hst4.out, if_neg Hb.out]; exact Hr4.out, Hk4.out⟩
    case rest =>
      obtain ⟨hr5, hk5⟩ := hcut
      obtain ⟨wp, hwp⟩ : ∃ q, q = wc := ⟨_, rfl⟩
      subst hwp
      have Hr5 := Lib.hid hr5
      have Hk5 := Lib.hid hk5
      have hz5 := hk5.size
      clear hr5 hk5 Hr4 Hk4 Hst4
      have hmk : ∀ W : World, (Instr.makeSlice 52 (.int .i64 19) (.int .i64 19)).run Tryd.prog W = .ok (.slice (some ⟨W.heap.size, 0, none⟩) 19 19) (W.alloc (.cells (madeCells #[.int .i64 0] 19) 3)) := run_make_row' (P := Tryd.prog) 52 3 (.int .i64 0) 8 Tryd.underlying52 Tryd.info_int rfl .i64 .i64 19 (by decide) (by decide)
      go_wp2_with fail
      clear hmk
      have hb5 : Below wp.heap.size wp (wp.alloc (.cells (madeCells #[.int .i64 0] 19) 3)) := (Below.refl _ _).alloc (Nat.le_refl _) _
      have hr6 := Hr5.out.below hb5 (Nat.le_refl _)
      have hk6 := Hk5.out.young hb5 (Nat.le_refl _)
      have hrow6 : RowAt (wp.alloc (.cells (madeCells #[.int .i64 0] 19) 3)) wp.heap.size (List.replicate 19 0) := by
        unfold RowAt
        rw [← madeCells_zero]
        exact World.alloc_heap_new wp _
      have Hr6 := Lib.hid hr6
      have Hk6 := Lib.hid hk6
      have Hrow6 := Lib.hid hrow6
      clear hb5 hr6 hk6 hrow6
      generalize hD : wp.heap.size = D at *
      generalize hw6 : wp.alloc (.cells (madeCells #[.int .i64 0] 19) 3) = w6 at *
      clear hw6 hD Hr5 Hk5
      go_loopw [6] (fun iv wr => ∃ (i : Nat) (sh : List Nat) (st : RS), iv = .int .i64 (i : Int) ∧ i ≤ 4 + z ∧ sh.length = 19 ∧ (∀ v ∈ sh, v ≤ 7) ∧ RowAt wr D sh ∧ RdAt wr R base s most out st ∧ Keeps (okOut R base) w wr ∧ RelQ (fun r => tailS x y (shortGo (4 + z - i) i sh r)) cr st) (fun iv _ => 4 + z - (intOf iv).toNat)
      case atStart => exact ⟨0, List.replicate 19 0, st4, rfl, by omega, by simp, (by intro v hv; have := List.eq_of_mem_replicate hv; omega), Hrow6.out, Hr6.out, Hk6.out, Hhead.out⟩
      case round =>
        obtain ⟨i, sh, st, rfl, hi, hl19, hl7, hrow, hr, hk, hrel⟩ := hrel
        have Hl7 := Lib.hid hl7
        have Hrow := Lib.hid hrow
        have Hr := Lib.hid hr
        have Hk := Lib.hid hk
        clear hl7 hrow hr hk
        by_cases hin : (i : Int) < 4 + (z : Int)
        · obtain ⟨f, hf⟩ : ∃ f, 4 + z - i = f + 1 := ⟨3 + z - i, by omega⟩
          rw [hf] at hrel
          have hrel2 := short_step hrel
          have hi19 : i < 19 := by omega
          have hi19z : (i : Int) < 19 := by omega
          have hi0z : 0 ≤ (i : Int) := by omega
          obtain ⟨cS, cOO⟩ := HOS.out wr Hk.out
          have cO := cOO i hi19
          clear cOO
          obtain ⟨od, hod⟩ : ∃ o, o = ordT.getD i 0 := ⟨_, rfl⟩
          have hod19 : od < 19 := by rw [hod]; exact (by decide : ∀ i, i < 19 → ordT.getD i 0 < 19) i hi19
          have hod19z : (od : Int) < 19 := by omega
          have hod0z : 0 ≤ (od : Int) := by omega
          rw [← hod] at cO hrel2
          obtain ⟨cL, fL⟩ := Hrow.out.cell od (by omega)
          have hn := fun W hW => rnumber_any R base most s out st 3 W hW hs (by decide)
          have hv8 := numI_lt st 3
          obtain ⟨v, hv⟩ : ∃ v, v = (numI st 3).1 := ⟨_, rfl⟩
          rw [← hv] at hn hrel2 hv8
          have Hn := Lib.hid hn
          have Hrel := Lib.hid hrel2
          have Hod := Lib.hid hod
          have Hf := Lib.hid hf
          clear hn hrel hrel2 hod hf hv
          have hrd : RdAt wr.drew R base s most out st := Hr.out.same ⟨1, rfl⟩
          have hrowd : RowAt wr.drew D sh := Hrow.out
          have hkd : Keeps (okOut R base) w wr.drew := Hk.out.drew
          have Hrd := Lib.hid hrd
          have Hrowd := Lib.hid hrowd
          have Hkd := Lib.hid hkd
          clear hrd hrowd hkd
          go_wp2_with fail
          go_region_with (go_at_call 26; refine (Hn.out _ Hrd.out).mono ?_; rintro e w7 ⟨rfl, hr7, hk7⟩
                          have hk_ := Hkd.out.trans hk7
                          have hrow7 := Hrowd.out.out Hrd.out hk7
                          obtain ⟨cS7, cOO7⟩ := HOS.out w7 hk_
                          have cO7 := cOO7 i hi19
                          clear cOO7
                          rw [← Hod.out] at cO7
                          obtain ⟨cL7, fL7⟩ := hrow7.cell od (by omega)
                          have Hr7 := Lib.hid hr7
                          have Hk7 := Lib.hid hk_
                          have Hrow7 := Lib.hid hrow7
                          clear hr7 hk7 hk_ hrow7)
          all_goals
            go_wp2_with fail
            have hset := Hrow7.out.setK (B := w.heap.size) (by omega) od (.int .i64 (v : Int))
            have Hset := Lib.hid hset
            clear hset
            go_roundw
            case rel =>
              refine ⟨i + 1, sh.set od v, numS 3 st, by go_num, by omega, by rw [List.length_set]; exact hl19, ?_, Hrow7.out.set od v, Hr7.out.ints Hset.out, Hk7.out.on Hset.out (fun k o h _ => .inl (heap_lt h)), by rw [show 4 + z - (i + 1) = f by have := Hf.out; omega]; exact Hrel.out⟩
              intro u hu
              rcases List.mem_or_eq_of_mem_set hu with h | h
              · exact Hl7.out u h
              · omega
            case measure => simp [intOf]; omega
        · obtain rfl : i = 4 + z := by omega
          rw [Nat.sub_self] at hrel
          have hst := short_test hrel
          have hwh := rwhole_any D 0 19 sh wr Hrow.out.ints (by omega) (fun v hv => by have := Hl7.out v hv; omega)
          obtain ⟨kS, hkS⟩ : ∃ q, q = kraft sh := ⟨_, rfl⟩
          rw [hl19, ← hkS] at hwh
          rw [← hkS] at hst
          obtain ⟨st5, hst5⟩ : ∃ q, q = (if kS = 32768 then st else wrongS 4 st) := ⟨_, rfl⟩
          rw [← hst5] at hst
          have Hwh := Lib.hid hwh
          have Hst := Lib.hid hst
          have Hst5 := Lib.hid hst5
          have HkS := Lib.hid hkS
          clear hwh hst hst5 hkS hrel
          go_upto_if 45 with (go_at_call 62; refine (Hwh.out).mono ?_; rintro e w' ⟨rfl, rfl⟩)
          go_cut [] (fun wx => RdAt wx R base s most out st5 ∧ Keeps (okOut R base) w wx ∧ RowAt wx D sh)
          case first =>
            by_cases h : kS = 32768
            · have hb : ((kS : Int) == 32768) = true := by rw [h]; rfl
              have H := Lib.hid h
              clear h
              rw [hb]
              go_wp2_with fail
              go_meet
              exact ⟨by rw [Hst5.out, if_pos H.out]; exact Hr.out, Hk.out, Hrow.out⟩
            · have hb : ((kS : Int) == 32768) = false := beq_eq_false_iff_ne.2 (by omega)
              have H := Lib.hid h
              clear h
              rw [hb]
              go_wp2_with (go_at_call 55; refine (Hwr.out _ _ Hr.out).mono ?_; rintro e w5 ⟨rfl, hr5, hk5⟩
                           have hrow5 := Hrow.out.out Hr.out hk5
                           have hk_ := Hk.out.trans hk5
                           have Hr5 := Lib.hid hr5
                           have Hk5 := Lib.hid hk_
                           have Hrow5 := Lib.hid hrow5
                           clear hr5 hk5 hk_ hrow5)
              go_meet
              exact ⟨by rw [Hst5.out, if_neg H.out]; exact Hr5.out, Hk5.out, Hrow5.out⟩
          case rest =>
            obtain ⟨hr7, hk7, hrow7⟩ := hcut
            obtain ⟨wq, hwq⟩ : ∃ q, q = wc := ⟨_, rfl⟩
            subst hwq
            have hz7 := hk7.size
            have Hr7 := Lib.hid hr7
            have Hk7 := Lib.hid hk7
            have Hrow7 := Lib.hid hrow7
            clear hr7 hk7 hrow7 Hr Hk Hrow Hst5 Hwh
            cases st5 with
            | error e =>
              obtain ⟨a', n', ov', hin, he⟩ := Hr7.out
              obtain ⟨rfl, hn0⟩ := rs_error he
              have hnb : ((n' : Int) != 0) = true := by simp; omega
              obtain ⟨d0, d1, d2, d3, d4, y1, y2, y3⟩ := hin.cells
              clear hin he hn0
              go_wp2_with fail
              refine bodyPost_ret (results_none rfl _ _ _) rfl ?_
              exact ⟨rfl, by rw [show cr = .error n' from Hst.out.1]; exact ⟨out, Hr7.out⟩, Hk7.out⟩
            | ok r4 =>
              obtain ⟨a', n', ov', hin, he⟩ := Hr7.out
              obtain rfl := rs_ok he
              obtain ⟨d0, d1, d2, d3, d4, y1, y2, y3⟩ := hin.cells
              have hks := Hst.out.2 r4 rfl
              have hkl : kraft sh ≤ 32768 := by rw [← HkS.out]; omega
              have hcd := rcoded_any D 0 19 sh wq Hrow7.out.ints (heap_lt Hrow7.out) (by omega) (fun v hv => by have := Hl7.out v hv; omega) hkl
              rw [hl19] at hcd
              have hlen := fun C W hW hC => rlengths_any R base most C (257 + x + (1 + y)) s out r4 sh W hW hC hkl (fun v hv => by have := Hl7.out v hv; omega) hl19 hs (by omega)
              simp only [show ((257 + x + (1 + y) : Nat) : Int) = 257 + (x : Int) + (1 + (y : Int)) by omega] at hlen
              have hrel : dynTail x (lensGo sh (257 + x + (1 + y)) (257 + x + (1 + y) + 1) [] r4) = cr := Hst.out.1
              obtain ⟨T2, hT2⟩ : ∃ q, q = lensGo sh (257 + x + (1 + y)) (257 + x + (1 + y) + 1) [] r4 := ⟨_, rfl⟩
              rw [← hT2] at hrel hlen
              have Hcd := Lib.hid hcd
              have Hlen := Lib.hid hlen
              have Hrel := Lib.hid hrel
              clear hin he hks hkl hcd hlen hrel hT2
              cases T2 with
              | error e =>
                go_wp2_with (first
                  | (go_at_call 63; refine (Hlen.out _ _ Hr8.out HC8.out).mono ?_; rintro e' w9 ⟨v, rfl, hlo, hk9⟩
                     obtain ⟨a9, n9, ov9, hin9, he9⟩ := (show RdAt w9 R base s most out (.error e) from hlo)
                     have hn9 := rs_error he9
                     have hnb9 : ((n9 : Int) != 0) = true := (by simp; omega)
                     obtain ⟨g0, g1, g2, g3, g4, k1, k2, k3⟩ := hin9.cells
                     have hk_ := Hk8.out.trans hk9
                     have hr9 : RdAt w9 R base s most out (.error e) := hlo
                     have Hr9 := Lib.hid hr9
                     have Hk9 := Lib.hid hk_
                     clear hlo hk9 hk_ hr9 hin9 he9 hn9)
                  | (go_at_call 28; refine (Hcd.out).mono ?_; rintro e' w8 ⟨rfl, hC8, hb8⟩
                     have hr8 := Hr7.out.below hb8 (Nat.le_refl _)
                     have hk8 := Hk7.out.young hb8 (Nat.le_refl _)
                     have Hr8 := Lib.hid hr8
                     have Hk8 := Lib.hid hk8
                     have HC8 := Lib.hid hC8
                     clear hr8 hk8 hC8 hb8))
                refine bodyPost_ret (results_none rfl _ _ _) rfl ?_
                exact ⟨rfl, by rw [show cr = .error e from Hrel.out.symm]; exact ⟨out, Hr9.out⟩, Hk9.out⟩
              | ok lr =>
                obtain ⟨l, r5⟩ := lr
                go_upto_region 15 with (first
                  | (go_at_call 63; refine (Hlen.out _ _ Hr8.out HC8.out).mono ?_; rintro e' w9 ⟨v, rfl, hlo, hk9⟩
                     have hlo : RdAt w9 R base s most out (.ok r5) ∧ l.length = 257 + x + (1 + y) ∧ (∀ q ∈ l, q ≤ 15) ∧ w9.ownsRow w8.heap.size 3 1 v l.length (l.map encI) := hlo
                     obtain ⟨hr9, hln, hl15, hown⟩ := hlo
                     obtain ⟨a9, n9, ov9, hin9, he9⟩ := hr9
                     obtain rfl := rs_ok he9
                     obtain ⟨g0, g1, g2, g3, g4, k1, k2, k3⟩ := hin9.cells
                     have hk_ := Hk8.out.trans hk9
                     have hr9 : RdAt w9 R base s most out (.ok r5) := ⟨_, _, _, hin9, he9⟩
                     have hz9 := hk_.size
                     have Hr9 := Lib.hid hr9
                     have Hk9 := Lib.hid hk_
                     have Hl15 := Lib.hid hl15
                     have Hown := Lib.hid hown
                     have Hln := Lib.hid hln
                     clear hk9 hk_ hr9 hin9 he9 hl15 hown hln)
                  | (go_at_call 28; refine (Hcd.out).mono ?_; rintro e' w8 ⟨rfl, hC8, hb8⟩
                     have hr8 := Hr7.out.below hb8 (Nat.le_refl _)
                     have hk8 := Hk7.out.young hb8 (Nat.le_refl _)
                     have Hr8 := Lib.hid hr8
                     have Hk8 := Lib.hid hk8
                     have HC8 := Lib.hid hC8
                     clear hr8 hk8 hC8 hb8))
                obtain ⟨pp, nn, pc, rfl⟩ := ownsRow_slice Hown.out
                obtain ⟨gl, rfl, hgl, hcl⟩ := ints_cells (by have h := ownsRow_nn Hown.out; subst h; exact Hown.out) (by have := Hln.out; omega)
                obtain ⟨hglt, hcap⟩ : gl < w9.heap.size ∧ l.length ≤ pc := by
                  rcases Hown.out.2 with ⟨_, h0⟩ | ⟨g, cap, cur, h1, _, hg, hs1, hs2, _, _⟩
                  · have := Hln.out; omega
                  · injection h1 with h1 _ h2
                    injection h1 with h1
                    injection h1 with h1
                    subst h1 h2
                    refine ⟨heap_lt hg, ?_⟩
                    omega
                obtain rfl : nn = 257 + x + (1 + y) := by have h1 := ownsRow_nn Hown.out; have h2 := Hln.out; omega
                have hcapz : 257 + (x : Int) ≤ (pc : Int) := by have := Hln.out; omega
                have hpc : ¬ pc = 257 + x := by have := Hln.out; omega
                have hI1 : IntsAt w9 gl 0 (l.take (257 + x)) := fun j hj => by
                  rw [List.length_take] at hj
                  rw [Nat.zero_add, hcl j (by omega), List.getD_eq_getElem?_getD, List.getD_eq_getElem?_getD, List.getElem?_take_of_lt (by omega)]
                have hI2 : IntsAt w9 gl (257 + x) (l.drop (257 + x)) := fun j hj => by
                  rw [List.length_drop] at hj
                  rw [hcl (257 + x + j) (by omega), List.getD_eq_getElem?_getD, List.getD_eq_getElem?_getD, List.getElem?_drop]
                have hbe := bad_eq (l := l) (a := 257 + x) (by omega) (by have := Hln.out; omega) Hl15.out
                have hlal : (l.take (257 + x)).length = 257 + x := by have := Hln.out; rw [List.length_take]; omega
                have hlbl : (l.drop (257 + x)).length = 1 + y := by have := Hln.out; rw [List.length_drop]; omega
                have hla15 : ∀ q ∈ l.take (257 + x), q ≤ 15 := fun v hv => Hl15.out v (List.mem_of_mem_take hv)
                have hlb15 : ∀ q ∈ l.drop (257 + x), q ≤ 15 := fun v hv => Hl15.out v (List.mem_of_mem_drop hv)
                have hrel : (if badCodes l (257 + x) then .error 4 else .ok (l.take (257 + x), l.drop (257 + x), r5)) = cr := Hrel.out
                rw [hbe] at hrel
                obtain ⟨la, hla⟩ : ∃ q, q = l.take (257 + x) := ⟨_, rfl⟩
                obtain ⟨lb, hlb⟩ : ∃ q, q = l.drop (257 + x) := ⟨_, rfl⟩
                rw [← hla] at hI1 hlal hla15 hrel
                rw [← hlb] at hI2 hlbl hlb15 hrel
                clear hla hlb hbe hcl hcap
                have hsb := rsome_any gl (257 + x) (pc - (257 + x)) lb w9 hI2 (by omega)
                have hwb := rwhole_any gl (257 + x) (pc - (257 + x)) lb w9 hI2 (by omega) hlb15
                have hwa := rwhole_any gl 0 pc la w9 hI1 (by omega) hla15
                have hA := hI1 256 (by omega)
                have hB := fun j (hj : j < 1 + y) => hI2 j (by omega)
                obtain ⟨ka, hka⟩ : ∃ q, q = kraft la := ⟨_, rfl⟩
                obtain ⟨kb, hkb⟩ : ∃ q, q = kraft lb := ⟨_, rfl⟩
                obtain ⟨sb, hsbq⟩ : ∃ q, q = someN lb := ⟨_, rfl⟩
                obtain ⟨a0, ha0⟩ : ∃ q, q = la.getD 256 0 := ⟨_, rfl⟩
                rw [← hka, hlal] at hwa
                rw [← hkb, hlbl] at hwb
                rw [← hsbq, hlbl] at hsb
                rw [← hka, ← hkb, ← hsbq, ← ha0] at hrel
                rw [← ha0] at hA
                have Hsb := Lib.hid hsb
                have Hwb := Lib.hid hwb
                have Hwa := Lib.hid hwa
                have HB := Lib.hid hB
                have HI1 := Lib.hid hI1
                have HI2 := Lib.hid hI2
                have Hlal := Lib.hid hlal
                have Hlbl := Lib.hid hlbl
                have Hla15 := Lib.hid hla15
                have Hlb15 := Lib.hid hlb15
                have Hrel2 := Lib.hid hrel
                have Hka := Lib.hid hka
                have Hkb := Lib.hid hkb
                have Hsbq := Lib.hid hsbq
                clear hsb hwb hwa hB hI1 hI2 hlal hlbl hla15 hlb15 hrel Hrel hka hkb hsbq ha0 Hown Hlen Hcd Hst
                go_upto_region 17 with fail
                rw [show 257 + x + (1 + y) - (257 + x) = 1 + y by omega]
                have Hr9a := Lib.hid (show RdAt w9 R base s most out (.ok r5) from Hr9.out)
                go_cut [10] (fun v wx => v = .bool ((sb == 1) && (kb != 32768)) ∧ wx = w9)
                case first =>
                  by_cases h1 : sb = 1
                  · have h1b : ((sb : Int) == 1) = true := by rw [h1]; rfl
                    by_cases h2 : kb = 32768
                    · have h2b : ((kb : Int) == 32768) = true := by rw [h2]; rfl
                      have H1 := Lib.hid h1
                      have H2 := Lib.hid h2
                      clear h1 h2
                      go_wp2_with (first
                        | (go_at_call 64; refine (Hsb.out).mono ?_; rintro e w' ⟨rfl, rfl⟩)
                        | (go_at_call 62; refine (Hwb.out).mono ?_; rintro e w' ⟨rfl, rfl⟩))
                      go_meet
                      exact ⟨by rw [H1.out, H2.out]; rfl, rfl⟩
                    · have h2b : ((kb : Int) == 32768) = false := beq_eq_false_iff_ne.2 (by omega)
                      have H1 := Lib.hid h1
                      have H2 := Lib.hid h2
                      clear h1 h2
                      go_wp2_with (first
                        | (go_at_call 64; refine (Hsb.out).mono ?_; rintro e w' ⟨rfl, rfl⟩)
                        | (go_at_call 62; refine (Hwb.out).mono ?_; rintro e w' ⟨rfl, rfl⟩))
                      go_meet
                      exact ⟨by rw [H1.out, show (kb != 32768) = true by simp [H2.out]]; rfl, rfl⟩
                  · have h1b : ((sb : Int) == 1) = false := beq_eq_false_iff_ne.2 (by omega)
                    have H1 := Lib.hid h1
                    clear h1
                    go_wp2_with (first
                      | (go_at_call 64; refine (Hsb.out).mono ?_; rintro e w' ⟨rfl, rfl⟩)
                      | (go_at_call 62; refine (Hwb.out).mono ?_; rintro e w' ⟨rfl, rfl⟩))
                    go_meet
                    exact ⟨by rw [beq_eq_false_iff_ne.2 H1.out]; rfl, rfl⟩
                case rest =>
                  obtain ⟨rfl, hwc⟩ := hcut
                  rw [hwc]
                  obtain ⟨o0, ho0⟩ : ∃ q, q = ((sb == 1) && (kb != 32768)) := ⟨_, rfl⟩
                  rw [← ho0]
                  have Ho0 := Lib.hid ho0
                  clear ho0 hwc
                  go_wp2_with fail
                  go_loopw [10, 11] (fun ov iv wr => ∃ i : Nat, iv = .int .i64 (i : Int) ∧ i ≤ 1 + y ∧ ov = .bool (o0 && (lb.take i).all (fun v => decide (v ≤ 1))) ∧ wr = w9) (fun _ iv _ => 1 + y - (intOf iv).toNat)
                  case atStart => exact ⟨0, rfl, by omega, by simp, by first | rfl | trivial⟩
                  case round =>
                    obtain ⟨i, rfl, hi, rfl, hwr9⟩ := hrel
                    subst hwr9
                    by_cases hin : (i : Int) < 1 + (y : Int)
                    · have hcI := HB.out i (by omega)
                      have htk : lb.take (i + 1) = lb.take i ++ [lb.getD i 0] := by
                        have hlt : i < lb.length := by have := Hlbl.out; omega
                        rw [List.take_add_one, List.getElem?_eq_getElem hlt, List.getD_eq_getElem?_getD, List.getElem?_eq_getElem hlt]
                        rfl
                      obtain ⟨b, hb⟩ : ∃ q, q = lb.getD i 0 := ⟨_, rfl⟩
                      rw [← hb] at hcI htk
                      have hall : (o0 && (lb.take (i + 1)).all (fun v => decide (v ≤ 1))) = ((o0 && (lb.take i).all (fun v => decide (v ≤ 1))) && decide (b ≤ 1)) := by
                        rw [htk, List.all_append]
                        simp [Bool.and_assoc]
                      obtain ⟨ob, hob⟩ : ∃ q, q = (o0 && (lb.take i).all (fun v => decide (v ≤ 1))) := ⟨_, rfl⟩
                      rw [← hob] at hall ⊢
                      have Hall := Lib.hid hall
                      have hiz : (i : Int) < 1 + (y : Int) := hin
                      clear hall hob htk hb
                      cases ob with
                      | false =>
                        go_wp2_with fail
                        go_roundw
                        case rel => exact ⟨i + 1, by go_num, by omega, by rw [Hall.out]; first | rfl | simp, by first | rfl | trivial⟩
                        case measure => simp [intOf]; omega
                      | true =>
                        go_wp2_with fail
                        go_roundw
                        case rel => exact ⟨i + 1, by go_num, by omega, by rw [Hall.out]; simp; omega, by first | rfl | trivial⟩
                        case measure => simp [intOf]; omega
                    · obtain rfl : i = 1 + y := by omega
                      have hone : (o0 && (lb.take (1 + y)).all (fun v => decide (v ≤ 1))) = oneR sb kb lb := by
                        rw [List.take_of_length_le (by have := Hlbl.out; omega), Ho0.out]
                        rfl
                      rw [hone]
                      obtain ⟨one, h1⟩ : ∃ q, q = oneR sb kb lb := ⟨_, rfl⟩
                      rw [← h1]
                      have H1 := Lib.hid h1
                      clear hone h1
                      have hrel2 := Hrel2.out
                      rw [← H1.out] at hrel2
                      obtain ⟨bad, hbad⟩ : ∃ q, q = badR a0 ka sb kb one := ⟨_, rfl⟩
                      rw [← hbad] at hrel2
                      have Hbad := Lib.hid hbad
                      have Hrel3 := Lib.hid hrel2
                      clear hbad hrel2
                      go_upto_region 22 with fail
                      go_cut [115] (fun v wx => v = .bool bad ∧ wx = wr)
                      case first =>
                        by_cases h1 : a0 = 0
                        · have h1b : ((a0 : Int) == 0) = true := by rw [h1]; rfl
                          have G1 := Lib.hid h1
                          clear h1
                          go_wp2_with fail
                          go_meet
                          exact ⟨by rw [Hbad.out, G1.out]; rfl, rfl⟩
                        · have h1b : ((a0 : Int) == 0) = false := beq_eq_false_iff_ne.2 (by omega)
                          by_cases h2 : ka = 32768
                          · have h2b : ((ka : Int) == 32768) = true := by rw [h2]; rfl
                            by_cases h3 : 0 < sb
                            · have h3z : (0 : Int) < (sb : Int) := by omega
                              by_cases h4 : kb = 32768
                              · have h4b : ((kb : Int) == 32768) = true := by rw [h4]; rfl
                                have hval : bad = false := by rw [Hbad.out]; unfold badR; simp [h1, h2, h4]
                                have Hval := Lib.hid hval
                                clear h1 h2 h3 h4 hval
                                go_wp2_with (first
                                  | (go_at_call 64; refine (Hsb.out).mono ?_; rintro e w' ⟨rfl, rfl⟩)
                                  | (go_at_call 62; refine (Hwa.out).mono ?_; rintro e w' ⟨rfl, rfl⟩; clear Hwa)
                                  | (go_at_call 62; refine (Hwb.out).mono ?_; rintro e w' ⟨rfl, rfl⟩))
                                go_meet
                                exact ⟨by rw [Hval.out], rfl⟩
                              · have h4b : ((kb : Int) == 32768) = false := beq_eq_false_iff_ne.2 (by omega)
                                have hval : bad = !one := by rw [Hbad.out]; unfold badR; rw [beq_eq_false_iff_ne.2 h1, show (ka != 32768) = false by rw [h2]; rfl, decide_eq_true h3, show (kb != 32768) = true from bne_iff_ne.2 h4]; rfl
                                have Hval := Lib.hid hval
                                clear h1 h2 h3 h4 hval
                                cases one with
                                | false =>
                                  go_wp2_with (first
                                    | (go_at_call 64; refine (Hsb.out).mono ?_; rintro e w' ⟨rfl, rfl⟩)
                                    | (go_at_call 62; refine (Hwa.out).mono ?_; rintro e w' ⟨rfl, rfl⟩; clear Hwa)
                                    | (go_at_call 62; refine (Hwb.out).mono ?_; rintro e w' ⟨rfl, rfl⟩))
                                  go_meet
                                  exact ⟨by rw [Hval.out]; rfl, rfl⟩
                                | true =>
                                  go_wp2_with (first
                                    | (go_at_call 64; refine (Hsb.out).mono ?_; rintro e w' ⟨rfl, rfl⟩)
                                    | (go_at_call 62; refine (Hwa.out).mono ?_; rintro e w' ⟨rfl, rfl⟩; clear Hwa)
                                    | (go_at_call 62; refine (Hwb.out).mono ?_; rintro e w' ⟨rfl, rfl⟩))
                                  go_meet
                                  exact ⟨by rw [Hval.out]; rfl, rfl⟩
                            · have h3z : ¬ (0 : Int) < (sb : Int) := by omega
                              have hval : bad = false := by rw [Hbad.out]; unfold badR; simp [h1, h2, h3]
                              have Hval := Lib.hid hval
                              clear h1 h2 h3 hval
                              go_wp2_with (first
                                | (go_at_call 64; refine (Hsb.out).mono ?_; rintro e w' ⟨rfl, rfl⟩)
                                | (go_at_call 62; refine (Hwa.out).mono ?_; rintro e w' ⟨rfl, rfl⟩; clear Hwa)
                                | (go_at_call 62; refine (Hwb.out).mono ?_; rintro e w' ⟨rfl, rfl⟩))
                              go_meet
                              exact ⟨by rw [Hval.out], rfl⟩
                          · have h2b : ((ka : Int) == 32768) = false := beq_eq_false_iff_ne.2 (by omega)
                            have hval : bad = true := by rw [Hbad.out]; unfold badR; simp [h2]
                            have Hval := Lib.hid hval
                            clear h1 h2 hval
                            go_wp2_with (first
                              | (go_at_call 64; refine (Hsb.out).mono ?_; rintro e w' ⟨rfl, rfl⟩)
                              | (go_at_call 62; refine (Hwa.out).mono ?_; rintro e w' ⟨rfl, rfl⟩; clear Hwa)
                              | (go_at_call 62; refine (Hwb.out).mono ?_; rintro e w' ⟨rfl, rfl⟩))
                            go_meet
                            exact ⟨by rw [Hval.out], rfl⟩
                      case rest =>
                        obtain ⟨rfl, hwc⟩ := hcut
                        rw [hwc]
                        clear hwc
                        have hk9z := Hk9.out.size
                        cases bad with
                        | true =>
                          have hcr : cr = .error 4 := Hrel3.out.symm
                          have Hcr := Lib.hid hcr
                          clear hcr
                          obtain ⟨a9, n9, ov9, hin9, he9⟩ := Hr9a.out
                          obtain ⟨q0, q1, q2, q3, q4, v1, v2, v3⟩ := hin9.cells
                          have hr10 : RdAt (wr.setCell ⟨R, 2, none⟩ (.int .i64 4)) R base s most out (.error 4) := ⟨a9, 4, ov9, hin9.setNo 4 (by decide) _ rfl, rfl⟩
                          have Hr10 := Lib.hid hr10
                          clear hin9 he9 hr10
                          go_wp2_with fail
                          refine bodyPost_ret (results_none rfl _ _ _) rfl ?_
                          exact ⟨rfl, by rw [Hcr.out]; exact ⟨out, Hr10.out⟩, Hk9.out.setR 2 _⟩
                        | false =>
                          have hcr : cr = .ok (la, lb, r5) := Hrel3.out.symm
                          have hkr := bad_kraft (l := lb) (sb := sb) (a256 := a0) (ka := ka) Hsbq.out (by rw [← Hkb.out, ← H1.out]; exact Hbad.out.symm)
                          have hkla : kraft la ≤ 32768 := by rw [← Hka.out]; omega
                          have hca := rcoded_any gl 0 pc la wr HI1.out hglt (by have := Hlal.out; omega) Hla15.out hkla
                          have hcb := fun W hI hg => rcoded_any gl (257 + x) (pc - (257 + x)) lb W hI hg (by have := Hlbl.out; omega) Hlb15.out hkr.2.2
                          rw [Hlal.out] at hca
                          rw [Hlbl.out] at hcb
                          have hsy := fun L M W hW hL hM hz => rsymbols_any R base most L M s out r5 la lb W hW hL hM hkla Hla15.out (by have := Hlal.out; omega) hkr.2.2 Hlb15.out (by have := Hlbl.out; omega) hz hm hs hl
                          have Hcr := Lib.hid hcr
                          have Hca := Lib.hid hca
                          have Hcb := Lib.hid hcb
                          have Hsy := Lib.hid hsy
                          clear hcr hkr hkla hca hcb hsy
                          go_wp2_with (first
                            | (go_at_call 31; refine (Hsy.out _ _ _ Hr12.out Hma12.out Hmb.out (by omega)).mono ?_; rintro e' w13 ⟨rfl, ho13, hk13⟩
                               have hk_ := Hk12.out.trans hk13
                               have Ho13 := Lib.hid ho13
                               have Hk13 := Lib.hid hk_
                               clear ho13 hk13 hk_)
                            | (go_at_call 28; refine (Hca.out).mono ?_; rintro e' w11 ⟨rfl, hma, hb11⟩
                               clear Hca
                               have hr11 := Hr9a.out.below hb11 (Nat.le_refl _)
                               have hk11 := Hk9.out.young hb11 (Nat.le_refl _)
                               have hI11 : IntsAt w11 gl (257 + x) lb := fun j hj => by rw [hb11.cell (p := ⟨gl, 257 + x + j, none⟩) hglt]; exact HI2.out j hj
                               have hz11 := hb11.size
                               have Hr11 := Lib.hid hr11
                               have Hk11 := Lib.hid hk11
                               have Hma := Lib.hid hma
                               have HI11 := Lib.hid hI11
                               clear hr11 hk11 hma hI11 hb11)
                            | (go_at_call 28; refine (Hcb.out w11 HI11.out (by omega)).mono ?_; rintro e' w12 ⟨rfl, hmb, hb12⟩
                               clear Hcb
                               have hr12 := Hr11.out.below hb12 (Nat.le_refl _)
                               have hk12 := Hk11.out.young hb12 (Nat.le_refl _)
                               have hma12 := Hma.out.below hb12 Hma.out.lt
                               have hz12 := hb12.size
                               have Hr12 := Lib.hid hr12
                               have Hk12 := Lib.hid hk12
                               have Hma12 := Lib.hid hma12
                               have Hmb := Lib.hid hmb
                               clear hr12 hk12 hma12 hmb hb12))
                          go_end0
                          exact ⟨rfl, by rw [Hcr.out, dynB_ok]; exact Ho13.out, Hk13.out⟩
end Go.Proofs.YtjielagabnkimaaDoor
