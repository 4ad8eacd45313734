/- The contract of the tree's build. -/
import Derived.Test.YtfanfkogogijpaaGreatDoorTSets
import Derived.Test.YtfanfkogogijpaaGreatDoorTItself
import Derived.Test.YtfanfkogogijpaaGreatDoorCompare
import Derived.StillTailTactics
set_option linter.unusedSimpArgs false
set_option linter.unusedVariables false
namespace Go.Proofs.YtfanfkogogijpaaGreatDoor
open Go.RowKit Go.Maps
open Go.Lib hiding intOf size_eq
/-- what build answers -/
def BuildR (w : World) (L : List Ent) (r : Ending) (w' : World) : Prop :=
  ((checkL L).1 = 0 → ∃ T rt rm nd, r = .returned (.tuple #[.pointer (some ⟨T, 0, none⟩), .nilIface]) ∧ TreeAt w' T rt rm w.heap.size nd ∧ ents nd = L) ∧
  ((checkL L).1 ≠ 0 → r = .returned (.tuple #[.pointer none, .iface 71 (.agg #[.int .i64 ((checkL L).1 : Int), .int .i64 0, .int .i64 ((checkL L).2 : Int)])])) ∧ Below w.heap.size w w'
/-- the first half of what is wrong with an entry -/
def foreNo (seen : List Ent) (e : Ent) : Nat :=
  if itselfNo e ≠ 0 then itselfNo e else match seen.getLast? with
    | some q => if q.path = e.path then 11 else if 0 < compareP q.path e.path then 1 else 0
    | none => 0
theorem oneNo_fore (seen : List Ent) (e : Ent) : oneNo seen e = if foreNo seen e ≠ 0 then foreNo seen e else if upNo seen e.path ≠ 0 then upNo seen e.path else if 4096 ≤ seen.length ∨ 16777216 < bytesE seen + e.d.size then 5 else 0 := by
  unfold oneNo foreNo
  by_cases h1 : itselfNo e ≠ 0
  · rw [if_pos h1, if_pos h1, if_pos h1]
  rw [if_neg h1, if_neg h1]
  cases seen.getLast? with
  | none => rfl
  | some q =>
    simp only []
    by_cases h2 : q.path = e.path
    · rw [if_pos h2, if_pos h2]; rfl
    rw [if_neg h2, if_neg h2]
    by_cases h3 : 0 < compareP q.path e.path
    · rw [if_pos h3, if_pos h3]; rfl
    · rw [if_neg h3, if_neg h3]; rfl
theorem one_itself {seen : List Ent} {e : Ent} (h : itselfNo e ≠ 0) : oneNo seen e = itselfNo e := by unfold oneNo; rw [if_pos h]
theorem one_fore {seen : List Ent} {e : Ent} {n : Nat} (h : foreNo seen e ≠ 0) (hn : foreNo seen e = n) : oneNo seen e = n := by rw [oneNo_fore, if_pos h, hn]
theorem one_up {seen : List Ent} {e : Ent} (h : foreNo seen e = 0) (hu : upNo seen e.p.data.toList ≠ 0) : oneNo seen e = upNo seen e.p.data.toList := by
  rw [oneNo_fore, if_neg (by omega)]
  exact if_pos hu
theorem one_full {seen : List Ent} {e : Ent} (h : foreNo seen e = 0) (hu : upNo seen e.p.data.toList = 0) (hf : 4096 ≤ seen.length ∨ 16777216 < bytesE seen + e.d.size) : oneNo seen e = 5 := by
  rw [oneNo_fore, if_neg (by omega), if_neg (show ¬ upNo seen e.path ≠ 0 from fun x => x hu), if_pos hf]
theorem one_good {seen : List Ent} {e : Ent} (h : foreNo seen e = 0) (hu : upNo seen e.p.data.toList = 0) (hf : ¬ (4096 ≤ seen.length ∨ 16777216 < bytesE seen + e.d.size)) : oneNo seen e = 0 := by
  rw [oneNo_fore, if_neg (by omega), if_neg (show ¬ upNo seen e.path ≠ 0 from fun x => x hu), if_neg hf]
theorem fore_nil {L : List Ent} {e : Ent} (h : itselfNo e = 0) : foreNo (L.take 0) e = 0 := by
  unfold foreNo
  rw [if_neg (by omega)]
  rfl
theorem fore_some {seen : List Ent} {e q : Ent} (h : itselfNo e = 0) (hq : seen.getLast? = some q) : foreNo seen e = if q.path = e.path then 11 else if 0 < compareP q.path e.path then 1 else 0 := by
  unfold foreNo
  rw [if_neg (by omega), hq]
theorem take_step {L : List Ent} {k : Nat} {e : Ent} (h : L[k]? = some e) : L.take k ++ [e] = L.take (k + 1) := by rw [List.take_add_one, h]; rfl
theorem take_last {L : List Ent} {k : Nat} {e : Ent} (h : L[k]? = some e) : (L.take (k + 1)).getLast? = some e := by rw [← take_step h]; simp
theorem drop_step {L : List Ent} {k : Nat} {e : Ent} (h : L[k]? = some e) : L.drop k = e :: L.drop (k + 1) := by
  obtain ⟨hk, he⟩ := List.getElem?_eq_some_iff.1 h
  rw [List.drop_eq_getElem_cons hk, he]
theorem check_stop {L : List Ent} {k : Nat} {e : Ent} (h : L[k]? = some e) (hc : checkGo (L.take k) (L.drop k) = checkL L) (hn : oneNo (L.take k) e ≠ 0) : checkL L = (oneNo (L.take k) e, k) := by
  have hk := (List.getElem?_eq_some_iff.1 h).1
  rw [← hc, drop_step h]
  unfold checkGo
  rw [if_pos hn, List.length_take, Nat.min_eq_left (by omega)]
theorem check_step {L : List Ent} {k : Nat} {e : Ent} (h : L[k]? = some e) (hc : checkGo (L.take k) (L.drop k) = checkL L) (hn : oneNo (L.take k) e = 0) : checkGo (L.take (k + 1)) (L.drop (k + 1)) = checkL L := by
  rw [← hc, drop_step h]
  conv => rhs; unfold checkGo
  rw [if_neg (by omega), take_step h]
theorem check_end {L : List Ent} (hc : checkGo (L.take L.length) (L.drop L.length) = checkL L) : checkL L = (0, 0) := by
  rw [← hc, List.drop_length]
  rfl
theorem buildR_err {w w' : World} {L : List Ent} {r : Ending} {N k : Nat} (h : checkL L = (N, k)) (hN : N ≠ 0) (hr : r = .returned (.tuple #[.pointer none, .iface 71 (.agg #[.int .i64 (N : Int), .int .i64 0, .int .i64 (k : Int)])])) (hb : Below w.heap.size w w') : BuildR w L r w' := by
  unfold BuildR
  rw [h]
  exact ⟨fun x => absurd x hN, fun _ => hr, hb⟩
theorem up_find {nd : List Nd} {p : List UInt8} (hw : Wf nd) (h : upNo (ents nd) p = 0) : ∃ o, findO nd (parent p) = some o := by
  rw [upNo_find hw] at h
  cases hf : findO nd (parent p) with
  | none => rw [hf] at h; cases h
  | some o => exact ⟨o, rfl⟩
theorem below_of_same {B : Nat} {w W W' : World} (h : Below B w W) (hs : Same W W') : Below B w W' := by
  obtain ⟨n, rfl⟩ := hs
  exact below_drewN h n
theorem assertNo (v : Value) (w : World) : (Instr.typeAssert (.iface 65 v) 26 65 false).run Tryz.prog w = .ok v w := by
  have hu := Tryz.underlying65
  unfold Instr.typeAssert
  simp [run_underlying hu]
theorem row_same {W W' : World} {b : Nat} {o : Obj} (h : W.heap[b]? = some o) (hs : Same W W') : W'.heap[b]? = some o := by
  obtain ⟨n, rfl⟩ := hs
  exact h
theorem row_drewN {W : World} {b : Nat} {o : Obj} (h : W.heap[b]? = some o) (n : Nat) : (W.drewN n).heap[b]? = some o := h
theorem wrap_nat {k : Nat} (h : k ≤ maxLen) : IntKind.i64.wrap (k : Int) = (k : Int) := by
  unfold maxLen at h
  rw [IntKind.wrap_i64]
  omega
theorem add_zero' (a : Addr) : a.add 0 = a := by unfold Addr.add; simp
theorem below_set {w W W' : World} {T rt rm : Nat} {nd : List Nd} (h : Below w.heap.size w W) (ht : TreeAt W T rt rm w.heap.size nd) (h1 : W'.os = W.os) (h2 : W'.tape = W.tape) (h3 : W'.output = W.output) (h4 : W.heap.size ≤ W'.heap.size)
    (h5 : ∀ k, k < W.heap.size → ¬ IsBlk T rt rm nd k → W'.heap[k]? = W.heap[k]?) : Below w.heap.size w W' :=
  ⟨h1.trans h.os, h2.trans h.tape, h3.trans h.output, Nat.le_trans h.size h4, fun k hk => (h5 k (Nat.lt_of_lt_of_le hk h.size) (fun hx => by have := ht.base_le hx; omega)).trans (h.block k hk)⟩
set_option maxRecDepth 100000 in
set_option maxHeartbeats 8000000 in
theorem build_any (v : Value) (L : List Ent) (w : World) (h : EntsAt w v L) (hb : ∀ e ∈ L, e.p.size < 1152921504606846976 ∧ e.d.size < 1152921504606846976 ∧ e.l.size < 1152921504606846976) :
    Calls Tryz.prog 8 #[v] w fun r w' => BuildR w L r w' := by
  obtain ⟨o, cap, rfl, hlc, hcm, hcells⟩ := h
  replace hcm : cap ≤ 9223372036854775807 := by unfold maxLen at hcm; exact hcm
  obtain ⟨n, hn⟩ : ∃ n, n = L.length := ⟨_, rfl⟩
  rw [← hn] at hlc ⊢
  have Hcells := Lib.hid hcells
  have Hb := Lib.hid hb
  have Hn := Lib.hid hn
  clear hcells hb hn
  go_enter Tryz.func8, Tryz.ntmps8
  go_wp2_with (go_at_call 19; refine (new_any _).mono ?_; rintro r w1 ⟨rfl, ht, hb1⟩
               have HT := Lib.hid ht
               have HB := Lib.hid hb1
               clear ht hb1)
  generalize w.heap.size + 2 = T at *
  generalize w.heap.size + 1 = rt at *
  obtain ⟨rm, hrm⟩ : ∃ x, x = w.heap.size := ⟨_, rfl⟩
  have HT2 := HT.out
  rw [show TreeAt w1 T rt w.heap.size w.heap.size [] = TreeAt w1 T rt rm w.heap.size [] by rw [hrm]] at HT2
  clear HT
  have HT := Lib.hid HT2
  clear HT2 hrm
  go_loopw [13, 5, 6, 7, 8, 9] (fun iv _ _ _ _ _ wr => ∃ (k : Nat) (nd : List Nd), iv = .int .i64 (k : Int) ∧ k ≤ n ∧ TreeAt wr T rt rm w.heap.size nd ∧ ents nd = L.take k ∧ checkGo (L.take k) (L.drop k) = checkL L ∧ Below w.heap.size w wr) (fun iv _ _ _ _ _ _ => n - (intOf iv).toNat)
  case atStart => exact ⟨0, [], rfl, Nat.zero_le _, HT.out, rfl, rfl, HB.out⟩
  case round =>
    obtain ⟨k, nd, rfl, hk, ht, he, hc, hbr⟩ := hrel
    clear HT HB
    by_cases hlt : k < n
    · obtain ⟨e, hek⟩ : ∃ e, L[k]? = some e := ⟨_, List.getElem?_eq_getElem (by rw [← Hn.out]; exact hlt)⟩
      obtain ⟨a, rfl, hal, hcs⟩ := Hcells.out k e hek
      have hcw : ∀ j x, (entC e)[j]? = some x → wr.cell? ((a.add (k * 5)).add j) = some x := fun j x hx => by
        have := hcs j x hx
        unfold World.cell? at this ⊢
        rw [hbr.block _ (by rw [add_block, add_block]; omega)]
        exact this
      have Hcw := Lib.hid hcw
      have HTr := Lib.hid ht
      have He := Lib.hid he
      have Hc := Lib.hid hc
      have Hbr := Lib.hid hbr
      have Hcs := Lib.hid hcs
      have Hek := Lib.hid hek
      have hsz := Hb.out e (List.mem_of_getElem? hek)
      have Hsz := Lib.hid (show e.p.size < 4611686018427387904 ∧ e.d.size < 4611686018427387904 by omega)
      obtain ⟨w2, hw2⟩ : ∃ x, x = (wr.alloc (.cells #[.string ⟨#[]⟩, .int .i64 0, .int .i64 0, .string ⟨#[]⟩, .string ⟨#[]⟩] 33)).setRow wr.heap.size (entC e).toArray := ⟨_, rfl⟩
      have hb0 := World.alloc_heap_new wr (.cells #[.string ⟨#[]⟩, .int .i64 0, .int .i64 0, .string ⟨#[]⟩, .string ⟨#[]⟩] 33)
      have hb2 : w2.heap[wr.heap.size]? = some (.cells (entC e).toArray 33 (0, 0)) := by rw [hw2]; exact setRow_at hb0
      have hs2 : w2.heap.size = wr.heap.size + 1 := by rw [hw2]; simp
      have hk2 : Below wr.heap.size wr w2 := by
        have hb := (Below.refl wr.heap.size wr).alloc (Nat.le_refl _) (.cells #[.string ⟨#[]⟩, .int .i64 0, .int .i64 0, .string ⟨#[]⟩, .string ⟨#[]⟩] 33)
        rw [hw2]
        exact ⟨hb.os, hb.tape, hb.output, by simp, fun j hj => (setRow_other _ wr.heap.size j _ (by omega)).trans (hb.block j hj)⟩
      have Hw2 := Lib.hid hw2
      have HB0 := Lib.hid hb0
      have HB2 := Lib.hid hb2
      have H1 := Lib.hid (itself_any e w2 hsz.1 hsz.2.2 hsz.2.1)
      have hT2 : TreeAt w2 T rt rm w.heap.size nd := ht.below hk2 (Nat.le_refl _)
      have hB2 : Below w.heap.size w w2 := hbr.trans (hk2.mono hbr.size)
      have Hat := Lib.hid (show ∀ W, Below w2.heap.size w2 W → W.cell? ⟨wr.heap.size, 0, none⟩ = some (.string e.p) ∧ True from fun W hW => by
        refine ⟨?_, trivial⟩
        have := (hW.block wr.heap.size (by omega)).trans hb2
        unfold World.cell?
        rw [this]
        rfl)
      have Hrow := Lib.hid (show ∀ W, Below w2.heap.size w2 W → W.heap[wr.heap.size]? = some (.cells (entC e).toArray 33 (0, 0)) from fun W hW => (hW.block wr.heap.size (by omega)).trans hb2)
      have Htree := Lib.hid (show ∀ W, Below w2.heap.size w2 W → TreeAt W T rt rm w.heap.size nd from fun W hW => hT2.below hW (Nat.le_refl _))
      have Hbel := Lib.hid (show ∀ W, Below w2.heap.size w2 W → Below w.heap.size w W from fun W hW => hB2.trans (hW.mono hB2.size))
      clear hcw ht he hc hbr hcs hek hw2 hb0 hb2 hk2 hT2 hB2 hsz
      by_cases h1 : itselfNo e ≠ 0
      · have hone : oneNo (L.take k) e = itselfNo e := one_itself h1
        have Hstop := Lib.hid (check_stop Hek.out Hc.out (by rw [hone]; exact h1))
        rw [hone] at Hstop
        have HE1 := Lib.hid (errV_pos h1)
        have Hnz := Lib.hid h1
        generalize itselfNo e = N at *
        clear hone h1
        go_wp2_with (first
          | (refine wpList_load_at rfl _ _ rfl (a.add (k * 5)) rfl (entC e) _ Hcw.out Tryz.underlying33 rfl (by kernel_rfl) ?_)
          | (refine wpList_store_row rfl _ _ _ rfl wr.heap.size (entC e).toArray rfl rfl 33 _ HB0.out (by kernel_rfl) rfl (by kernel_rfl) ?_; rw [← Hw2.out])
          | (refine wpList_load_row rfl _ _ rfl wr.heap.size rfl 33 (entC e).toArray (0, 0) _ HB2.out Tryz.underlying33 rfl (by kernel_rfl) ?_)
          | (go_at_call 20; refine H1.out.mono ?_; rintro r w3 ⟨rfl, hb3⟩
             have HB3 := Lib.hid (hb3)
             have hx3 := Hat.out w3 hb3
             obtain ⟨x0, xp⟩ := hx3
             have Hrow3 := Lib.hid (Hrow.out w3 hb3)
             have HT3 := Lib.hid (Htree.out w3 hb3)
             have HBel3 := Lib.hid (Hbel.out w3 hb3)
             clear hb3 H1
             rw [HE1.out]))
        have hta := assertNo
        go_quiet (fail)
        go_wp2
        go_ret2
        exact buildR_err Hstop.out Hnz.out rfl (below_drewN HBel3.out _)
      have h1' : itselfNo e = 0 := by omega
      have HE1 := Lib.hid (show errV (itselfNo e) = .nilIface by rw [h1']; rfl)
      by_cases hk0 : k = 0
      · have hg0 : ¬ (0 : Int) < (k : Int) := by omega
        have Hfore := Lib.hid (show foreNo (L.take k) e = 0 by rw [hk0]; exact fore_nil h1')
        clear hk0 h1 h1'
        go_upto_region 12 with (first
          | (refine wpList_load_at rfl _ _ rfl (a.add (k * 5)) rfl (entC e) _ Hcw.out Tryz.underlying33 rfl (by kernel_rfl) ?_)
          | (refine wpList_store_row rfl _ _ _ rfl wr.heap.size (entC e).toArray rfl rfl 33 _ HB0.out (by kernel_rfl) rfl (by kernel_rfl) ?_; rw [← Hw2.out])
          | (refine wpList_load_row rfl _ _ rfl wr.heap.size rfl 33 (entC e).toArray (0, 0) _ HB2.out Tryz.underlying33 rfl (by kernel_rfl) ?_)
          | (go_at_call 20; refine H1.out.mono ?_; rintro r w3 ⟨rfl, hb3⟩
             have HB3 := Lib.hid (hb3)
             have hx3 := Hat.out w3 hb3
             obtain ⟨x0, xp⟩ := hx3
             have Hrow3 := Lib.hid (Hrow.out w3 hb3)
             have HT3 := Lib.hid (Htree.out w3 hb3)
             have HBel3 := Lib.hid (Hbel.out w3 hb3)
             clear hb3 H1
             rw [HE1.out]))
        by_cases hu : upNo (ents nd) e.p.data.toList = 0
        · obtain ⟨o, ho⟩ : ∃ o, findO nd (parent e.p.data.toList) = some o := up_find HTr.out.wf hu
          have hdir := fun W (hW : TreeAt W T rt rm w.heap.size nd) => dir_any e.p W hW Hsz.out.1
          unfold dirV at hdir
          rw [if_pos hu, ho, spotP_some, hu, show errV 0 = .nilIface from rfl] at hdir
          have Hdir := Lib.hid hdir
          have Ho := Lib.hid ho
          have Hu := Lib.hid hu
          clear hdir ho hu
          by_cases hf : 4096 ≤ (ents nd).length ∨ 16777216 < bytesE (ents nd) + e.d.size
          · have hone : oneNo (L.take k) e = 5 := one_full Hfore.out (He.out ▸ Hu.out) (He.out ▸ hf)
            have Hstop := Lib.hid (check_stop Hek.out Hc.out (by rw [hone]; decide))
            rw [hone] at Hstop
            have Hnz := Lib.hid (show (5 : Nat) ≠ 0 by decide)
            have hful := fun W (hW : TreeAt W T rt rm w.heap.size nd) => full_any e W hW Hsz.out.2
            rw [if_pos hf, show errV 5 = .iface 65 (.int .i64 5) from rfl] at hful
            have Hful := Lib.hid hful
            clear hf hone hful
            go_wp2_with (first
              | (go_at_call 21; refine (Hdir.out _ HT3.out).mono ?_; rintro r w4 ⟨rfl, hs4⟩
                 have HT4 := Lib.hid (HT3.out.same' hs4)
                 have HB4 := Lib.hid (below_of_same HBel3.out hs4)
                 have Hrow4 := Lib.hid (row_same Hrow3.out hs4)
                 clear hs4 Hdir)
              | (refine wpList_load_row rfl _ _ rfl wr.heap.size rfl 33 (entC e).toArray (0, 0) _ Hrow4.out Tryz.underlying33 rfl (by kernel_rfl) ?_)
              | (go_at_call 22; refine (Hful.out _ HT4.out).mono ?_; rintro r w5 ⟨rfl, hb5⟩
                 have HT5 := Lib.hid (HT4.out.below hb5 (Nat.le_refl _))
                 have HB5 := Lib.hid (HB4.out.trans (hb5.mono HB4.out.size))
                 have Hrow5 := Lib.hid ((hb5.block _ (heap_lt Hrow4.out)).trans Hrow4.out)
                 clear hb5 Hful Hrow4))
            have hta := assertNo
            go_quiet (fail)
            go_wp2
            go_ret2
            exact buildR_err Hstop.out Hnz.out rfl (below_drewN HB5.out _)
          · have hone : oneNo (L.take k) e = 0 := one_good Hfore.out (He.out ▸ Hu.out) (He.out ▸ hf)
            have hful := fun W (hW : TreeAt W T rt rm w.heap.size nd) => full_any e W hW Hsz.out.2
            rw [if_neg hf, show errV 0 = .nilIface from rfl] at hful
            have hgood : Good (ents nd ++ [e]) := HTr.out.good.add (by rw [He.out]; exact hone)
            have hset := fun W (hW : TreeAt W T rt rm w.heap.size nd) => set_last_any e o W hW hgood Ho.out Hsz.out.1 Hsz.out.2
            have Hful := Lib.hid hful
            have Hset := Lib.hid hset
            have Hone := Lib.hid hone
            clear hf hone hful hset hgood
            go_wp2_with (first
              | (go_at_call 21; refine (Hdir.out _ HT3.out).mono ?_; rintro r w4 ⟨rfl, hs4⟩
                 have HT4 := Lib.hid (HT3.out.same' hs4)
                 have HB4 := Lib.hid (below_of_same HBel3.out hs4)
                 have Hrow4 := Lib.hid (row_same Hrow3.out hs4)
                 clear hs4 Hdir)
              | (refine wpList_load_row rfl _ _ rfl wr.heap.size rfl 33 (entC e).toArray (0, 0) _ Hrow4.out Tryz.underlying33 rfl (by kernel_rfl) ?_)
              | (go_at_call 22; refine (Hful.out _ HT4.out).mono ?_; rintro r w5 ⟨rfl, hb5⟩
                 have HT5 := Lib.hid (HT4.out.below hb5 (Nat.le_refl _))
                 have HB5 := Lib.hid (HB4.out.trans (hb5.mono HB4.out.size))
                 have Hrow5 := Lib.hid ((hb5.block _ (heap_lt Hrow4.out)).trans Hrow4.out)
                 clear hb5 Hful Hrow4)
              | (refine wpList_load_row rfl _ _ rfl wr.heap.size rfl 33 (entC e).toArray (0, 0) _ Hrow5.out Tryz.underlying33 rfl (by kernel_rfl) ?_)
              | (go_at_call 23; refine (Hset.out _ HT5.out).mono ?_; rintro r w6 ⟨rfl, y, hy, ht6, h1, h2, h3, h4, h5⟩
                 have HT6 := Lib.hid ht6
                 have Hy := Lib.hid hy
                 have HB6 := Lib.hid (below_set HB5.out HT5.out h1 h2 h3 h4 h5)
                 clear hy ht6 h1 h2 h3 h4 h5 Hset))
            go_roundw
            case rel => exact ⟨k + 1, _, by go_num, by omega, HT6.out, by rw [ents_append, He.out, Hy.out, take_step Hek.out], check_step Hek.out Hc.out Hone.out, HB6.out⟩
            case measure => simp [intOf]; omega
        · have hone : oneNo (L.take k) e = upNo (ents nd) e.p.data.toList := by rw [He.out]; exact one_up Hfore.out (by rw [← He.out]; exact hu)
          have Hstop := Lib.hid (check_stop Hek.out Hc.out (by rw [hone]; exact hu))
          rw [hone] at Hstop
          have hdir := fun W (hW : TreeAt W T rt rm w.heap.size nd) => dir_any e.p W hW Hsz.out.1
          unfold dirV at hdir
          rw [if_neg hu, errV_pos hu] at hdir
          have Hdir := Lib.hid hdir
          have Hnz := Lib.hid hu
          generalize upNo (ents nd) e.p.data.toList = N at *
          clear hone hdir hu
          go_wp2_with (first
            | (go_at_call 21; refine (Hdir.out _ HT3.out).mono ?_; rintro r w4 ⟨rfl, hs4⟩
               have HT4 := Lib.hid (HT3.out.same' hs4)
               have HB4 := Lib.hid (below_of_same HBel3.out hs4)
               have Hrow4 := Lib.hid (row_same Hrow3.out hs4)
               clear hs4 Hdir))
          have hta := assertNo
          go_quiet (fail)
          go_wp2
          go_ret2
          exact buildR_err Hstop.out Hnz.out rfl (below_drewN HB4.out _)
      obtain ⟨k', hk'⟩ : ∃ k', k = k' + 1 := ⟨k - 1, by omega⟩
      obtain ⟨q, hq⟩ : ∃ q, L[k']? = some q := ⟨_, List.getElem?_eq_getElem (by rw [← Hn.out]; omega)⟩
      have hlast : (L.take k).getLast? = some q := by rw [hk']; exact take_last hq
      have hg0 : (0 : Int) < (k : Int) := by omega
      have hsub : (k : Int) - 1 = (k' : Int) := by omega
      have hk'n : k' < n := by omega
      have hwr : IntKind.i64.wrap (k' : Int) = (k' : Int) := wrap_nat (by unfold maxLen; omega)
      have hqc := Hcells.out k' q hq
      obtain ⟨a2, ha2, hal2, hcs2⟩ := hqc
      injection ha2 with ha2
      subst ha2
      have hqsz := (Hb.out q (List.mem_of_getElem? hq)).1
      have hqx : ∀ W, Below w.heap.size w W → W.cell? (a.add (k' * 5)) = some (.string q.p) := fun W hW => by
        have := hcs2 0 _ (show (entC q)[0]? = some (.string q.p) from rfl)
        rw [add_zero'] at this
        unfold World.cell? at this ⊢
        rw [hW.block _ (by rw [add_block]; omega)]
        exact this
      have Hqx := Lib.hid hqx
      have hcmp := fun W => compare_any q.p e.p W (by omega) (by have := Hsz.out.1; omega)
      have hfo : foreNo (L.take k) e = if q.path = e.path then 11 else if 0 < compareP q.path e.path then 1 else 0 := fore_some h1' hlast
      have hceq : q.path = e.path ↔ compareP q.path e.path = 0 := compareP_zero.symm
      rw [show compareP q.p.data.toList e.p.data.toList = compareP q.path e.path from rfl] at hcmp
      generalize compareP q.path e.path = cv at *
      have Hcmp := Lib.hid hcmp
      have Hlast := Lib.hid hlast
      clear hcmp hlast hqx hcs2 h1 h1' hk0 hk'
      have hq3 : ∀ W, Below w2.heap.size w2 W → W.cell? (a.add (k' * 5)) = some (.string q.p) := fun W hW => Hqx.out W (Hbel.out W hW)
      have Hq3 := Lib.hid hq3
      clear hq3
      by_cases hcv0 : cv = 0
      · have hone : oneNo (L.take k) e = 11 := one_fore (by rw [hfo, if_pos (hceq.2 hcv0)]; decide) (by rw [hfo, if_pos (hceq.2 hcv0)])
        have Hstop := Lib.hid (check_stop Hek.out Hc.out (by rw [hone]; decide))
        rw [hone] at Hstop
        have Hnz := Lib.hid (show (11 : Nat) ≠ 0 by decide)
        have b1 : (cv == 0) = true := by simp [hcv0]
        clear hone hfo hceq
        go_upto_region 7 with (first
          | (refine wpList_load_at rfl _ _ rfl (a.add (k * 5)) rfl (entC e) _ Hcw.out Tryz.underlying33 rfl (by kernel_rfl) ?_)
          | (refine wpList_store_row rfl _ _ _ rfl wr.heap.size (entC e).toArray rfl rfl 33 _ HB0.out (by kernel_rfl) rfl (by kernel_rfl) ?_; rw [← Hw2.out])
          | (refine wpList_load_row rfl _ _ rfl wr.heap.size rfl 33 (entC e).toArray (0, 0) _ HB2.out Tryz.underlying33 rfl (by kernel_rfl) ?_)
          | (go_at_call 20; refine H1.out.mono ?_; rintro r w3 ⟨rfl, hb3⟩
             have HB3 := Lib.hid (hb3)
             have hx3 := Hat.out w3 hb3
             obtain ⟨x0, xp⟩ := hx3
             have Hrow3 := Lib.hid (Hrow.out w3 hb3)
             have HT3 := Lib.hid (Htree.out w3 hb3)
             have HBel3 := Lib.hid (Hbel.out w3 hb3)
             have xq := Hq3.out w3 hb3
             clear hb3 H1
             rw [HE1.out]))
        go_quiet (first | (go_at_call 16; exact Calls.quiet_of (Hcmp.out _)))
        go_wp2
        have hta := assertNo
        go_quiet (fail)
        go_wp2
        go_ret2
        exact buildR_err Hstop.out Hnz.out rfl (below_drewN (below_drewN HBel3.out _) _)
      by_cases hcv : 0 < cv
      · have hone : oneNo (L.take k) e = 1 := one_fore (by rw [hfo, if_neg (fun h => by have := hceq.1 h; omega), if_pos hcv]; decide) (by rw [hfo, if_neg (fun h => by have := hceq.1 h; omega), if_pos hcv])
        have Hstop := Lib.hid (check_stop Hek.out Hc.out (by rw [hone]; decide))
        rw [hone] at Hstop
        have Hnz := Lib.hid (show (1 : Nat) ≠ 0 by decide)
        have b1 : (cv == 0) = false := by simp; omega
        have b2 : (0 : Int) < cv := hcv
        clear hone hfo hceq
        go_upto_region 7 with (first
          | (refine wpList_load_at rfl _ _ rfl (a.add (k * 5)) rfl (entC e) _ Hcw.out Tryz.underlying33 rfl (by kernel_rfl) ?_)
          | (refine wpList_store_row rfl _ _ _ rfl wr.heap.size (entC e).toArray rfl rfl 33 _ HB0.out (by kernel_rfl) rfl (by kernel_rfl) ?_; rw [← Hw2.out])
          | (refine wpList_load_row rfl _ _ rfl wr.heap.size rfl 33 (entC e).toArray (0, 0) _ HB2.out Tryz.underlying33 rfl (by kernel_rfl) ?_)
          | (go_at_call 20; refine H1.out.mono ?_; rintro r w3 ⟨rfl, hb3⟩
             have HB3 := Lib.hid (hb3)
             have hx3 := Hat.out w3 hb3
             obtain ⟨x0, xp⟩ := hx3
             have Hrow3 := Lib.hid (Hrow.out w3 hb3)
             have HT3 := Lib.hid (Htree.out w3 hb3)
             have HBel3 := Lib.hid (Hbel.out w3 hb3)
             have xq := Hq3.out w3 hb3
             clear hb3 H1
             rw [HE1.out]))
        go_quiet (first | (go_at_call 16; exact Calls.quiet_of (Hcmp.out _)))
        go_wp2
        have hta := assertNo
        go_quiet (fail)
        go_wp2
        go_ret2
        exact buildR_err Hstop.out Hnz.out rfl (below_drewN (below_drewN HBel3.out _) _)
      have Hfore := Lib.hid (show foreNo (L.take k) e = 0 by rw [hfo, if_neg (fun h => hcv0 (hceq.1 h)), if_neg hcv])
      have b1 : (cv == 0) = false := by simpa using hcv0
      have b2 : ¬ (0 : Int) < cv := hcv
      clear hcv hcv0 hfo hceq
      go_upto_region 7 with (first
        | (refine wpList_load_at rfl _ _ rfl (a.add (k * 5)) rfl (entC e) _ Hcw.out Tryz.underlying33 rfl (by kernel_rfl) ?_)
        | (refine wpList_store_row rfl _ _ _ rfl wr.heap.size (entC e).toArray rfl rfl 33 _ HB0.out (by kernel_rfl) rfl (by kernel_rfl) ?_; rw [← Hw2.out])
        | (refine wpList_load_row rfl _ _ rfl wr.heap.size rfl 33 (entC e).toArray (0, 0) _ HB2.out Tryz.underlying33 rfl (by kernel_rfl) ?_)
        | (go_at_call 20; refine H1.out.mono ?_; rintro r w3 ⟨rfl, hb3⟩
           have HB3 := Lib.hid (hb3)
           have hx3 := Hat.out w3 hb3
           obtain ⟨x0, xp⟩ := hx3
           have Hrow3 := Lib.hid (Hrow.out w3 hb3)
           have HT3 := Lib.hid (Htree.out w3 hb3)
           have HBel3 := Lib.hid (Hbel.out w3 hb3)
           have xq := Hq3.out w3 hb3
           clear hb3 H1
           rw [HE1.out]))
      go_quiet (first | (go_at_call 16; exact Calls.quiet_of (Hcmp.out _)))
      go_upto_region 12 with fail
      have HT3d := Lib.hid (HT3.out.drewN nq)
      have HB3d := Lib.hid (below_drewN HBel3.out nq)
      have Hrow3d := Lib.hid (row_drewN Hrow3.out nq)
      by_cases hu : upNo (ents nd) e.p.data.toList = 0
      · obtain ⟨o, ho⟩ : ∃ o, findO nd (parent e.p.data.toList) = some o := up_find HTr.out.wf hu
        have hdir := fun W (hW : TreeAt W T rt rm w.heap.size nd) => dir_any e.p W hW Hsz.out.1
        unfold dirV at hdir
        rw [if_pos hu, ho, spotP_some, hu, show errV 0 = .nilIface from rfl] at hdir
        have Hdir := Lib.hid hdir
        have Ho := Lib.hid ho
        have Hu := Lib.hid hu
        clear hdir ho hu
        by_cases hf : 4096 ≤ (ents nd).length ∨ 16777216 < bytesE (ents nd) + e.d.size
        · have hone : oneNo (L.take k) e = 5 := one_full Hfore.out (He.out ▸ Hu.out) (He.out ▸ hf)
          have Hstop := Lib.hid (check_stop Hek.out Hc.out (by rw [hone]; decide))
          rw [hone] at Hstop
          have Hnz := Lib.hid (show (5 : Nat) ≠ 0 by decide)
          have hful := fun W (hW : TreeAt W T rt rm w.heap.size nd) => full_any e W hW Hsz.out.2
          rw [if_pos hf, show errV 5 = .iface 65 (.int .i64 5) from rfl] at hful
          have Hful := Lib.hid hful
          clear hf hone hful
          go_wp2_with (first
            | (go_at_call 21; refine (Hdir.out _ HT3d.out).mono ?_; rintro r w4 ⟨rfl, hs4⟩
               have HT4 := Lib.hid (HT3d.out.same' hs4)
               have HB4 := Lib.hid (below_of_same HB3d.out hs4)
               have Hrow4 := Lib.hid (row_same Hrow3d.out hs4)
               clear hs4 Hdir)
            | (refine wpList_load_row rfl _ _ rfl wr.heap.size rfl 33 (entC e).toArray (0, 0) _ Hrow4.out Tryz.underlying33 rfl (by kernel_rfl) ?_)
            | (go_at_call 22; refine (Hful.out _ HT4.out).mono ?_; rintro r w5 ⟨rfl, hb5⟩
               have HT5 := Lib.hid (HT4.out.below hb5 (Nat.le_refl _))
               have HB5 := Lib.hid (HB4.out.trans (hb5.mono HB4.out.size))
               have Hrow5 := Lib.hid ((hb5.block _ (heap_lt Hrow4.out)).trans Hrow4.out)
               clear hb5 Hful Hrow4))
          have hta := assertNo
          go_quiet (fail)
          go_wp2
          go_ret2
          exact buildR_err Hstop.out Hnz.out rfl (below_drewN HB5.out _)
        · have hone : oneNo (L.take k) e = 0 := one_good Hfore.out (He.out ▸ Hu.out) (He.out ▸ hf)
          have hful := fun W (hW : TreeAt W T rt rm w.heap.size nd) => full_any e W hW Hsz.out.2
          rw [if_neg hf, show errV 0 = .nilIface from rfl] at hful
          have hgood : Good (ents nd ++ [e]) := HTr.out.good.add (by rw [He.out]; exact hone)
          have hset := fun W (hW : TreeAt W T rt rm w.heap.size nd) => set_last_any e o W hW hgood Ho.out Hsz.out.1 Hsz.out.2
          have Hful := Lib.hid hful
          have Hset := Lib.hid hset
          have Hone := Lib.hid hone
          clear hf hone hful hset hgood
          go_wp2_with (first
            | (go_at_call 21; refine (Hdir.out _ HT3d.out).mono ?_; rintro r w4 ⟨rfl, hs4⟩
               have HT4 := Lib.hid (HT3d.out.same' hs4)
               have HB4 := Lib.hid (below_of_same HB3d.out hs4)
               have Hrow4 := Lib.hid (row_same Hrow3d.out hs4)
               clear hs4 Hdir)
            | (refine wpList_load_row rfl _ _ rfl wr.heap.size rfl 33 (entC e).toArray (0, 0) _ Hrow4.out Tryz.underlying33 rfl (by kernel_rfl) ?_)
            | (go_at_call 22; refine (Hful.out _ HT4.out).mono ?_; rintro r w5 ⟨rfl, hb5⟩
               have HT5 := Lib.hid (HT4.out.below hb5 (Nat.le_refl _))
               have HB5 := Lib.hid (HB4.out.trans (hb5.mono HB4.out.size))
               have Hrow5 := Lib.hid ((hb5.block _ (heap_lt Hrow4.out)).trans Hrow4.out)
               clear hb5 Hful Hrow4)
            | (refine wpList_load_row rfl _ _ rfl wr.heap.size rfl 33 (entC e).toArray (0, 0) _ Hrow5.out Tryz.underlying33 rfl (by kernel_rfl) ?_)
            | (go_at_call 23; refine (Hset.out _ HT5.out).mono ?_; rintro r w6 ⟨rfl, y, hy, ht6, h1, h2, h3, h4, h5⟩
               have HT6 := Lib.hid ht6
               have Hy := Lib.hid hy
               have HB6 := Lib.hid (below_set HB5.out HT5.out h1 h2 h3 h4 h5)
               clear hy ht6 h1 h2 h3 h4 h5 Hset))
          go_roundw
          case rel => exact ⟨k + 1, _, by go_num, by omega, HT6.out, by rw [ents_append, He.out, Hy.out, take_step Hek.out], check_step Hek.out Hc.out Hone.out, HB6.out⟩
          case measure => simp [intOf]; omega
      · have hone : oneNo (L.take k) e = upNo (ents nd) e.p.data.toList := by rw [He.out]; exact one_up Hfore.out (by rw [← He.out]; exact hu)
        have Hstop := Lib.hid (check_stop Hek.out Hc.out (by rw [hone]; exact hu))
        rw [hone] at Hstop
        have hdir := fun W (hW : TreeAt W T rt rm w.heap.size nd) => dir_any e.p W hW Hsz.out.1
        unfold dirV at hdir
        rw [if_neg hu, errV_pos hu] at hdir
        have Hdir := Lib.hid hdir
        have Hnz := Lib.hid hu
        generalize upNo (ents nd) e.p.data.toList = N at *
        clear hone hdir hu
        go_wp2_with (first
          | (go_at_call 21; refine (Hdir.out _ HT3d.out).mono ?_; rintro r w4 ⟨rfl, hs4⟩
             have HT4 := Lib.hid (HT3d.out.same' hs4)
             have HB4 := Lib.hid (below_of_same HB3d.out hs4)
             have Hrow4 := Lib.hid (row_same Hrow3d.out hs4)
             clear hs4 Hdir))
        have hta := assertNo
        go_quiet (fail)
        go_wp2
        go_ret2
        exact buildR_err Hstop.out Hnz.out rfl (below_drewN HB4.out _)
    · obtain rfl : k = n := by omega
      have hce := hc
      rw [Hn.out] at hce
      have Hres := Lib.hid (check_end hce)
      have He := Lib.hid (show ents nd = L by rw [he, Hn.out, List.take_length])
      have HTr := Lib.hid ht
      have Hbr := Lib.hid hbr
      clear he hc hce ht hbr
      go_wp2
      go_ret2
      exact ⟨fun _ => ⟨T, rt, rm, nd, rfl, HTr.out, He.out⟩, fun x => absurd (by rw [Hres.out]) x, Hbr.out⟩
end Go.Proofs.YtfanfkogogijpaaGreatDoor
