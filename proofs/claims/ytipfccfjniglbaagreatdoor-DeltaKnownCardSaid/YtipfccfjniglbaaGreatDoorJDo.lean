/- Joined: what these texts prove stands at the head of each part: DSet, DDoGone, DDoLay, DDoRest, DDo, DApply, DBack. -/
import Derived.Test.YtipfccfjniglbaaGreatDoorApEntries
import Derived.Test.YtipfccfjniglbaaGreatDoorJSlices
import Derived.Test.YtipfccfjniglbaaGreatDoorJPlain
import Derived.Test.YtipfccfjniglbaaGreatDoorDFind
import Derived.Test.YtipfccfjniglbaaGreatDoorJSame
import Derived.Test.YtipfccfjniglbaaGreatDoorJDiff
set_option linter.unusedSimpArgs false
set_option linter.unusedVariables false
namespace Go.Proofs.YtipfccfjniglbaaGreatDoor
section
open Go.RowKit Go.Maps Go.Shelf
open Go.Lib hiding intOf size_eq
theorem rowE_set {w : World} {base n g cap i : Nat} {L : List Ent} (h : RowE w base (.slice (some ⟨g, 0, none⟩) n cap) L) (hn : n = L.length) (hi : i < L.length) (u : Ent) :
    RowE (w.setCells g (i * 5) (entC u)) base (.slice (some ⟨g, 0, none⟩) n cap) (L.set i u) ∧ w.there g (i * 5) 5 ∧ Below base w (w.setCells g (i * 5) (entC u)) := by
  subst hn
  have h2 : ApEntries.RowE w base (.slice (some ⟨g, 0, none⟩) L.length cap) L.length L := ⟨h, fun h0 => by omega⟩
  obtain ⟨h3, h4⟩ := h2.set hi u
  obtain ⟨hb, cur, hc⟩ := h2.block (b := g) rfl
  have hgl := (Array.getElem?_eq_some_iff.1 hc).1
  have hl : (L.set i u).length = L.length := List.length_set
  refine ⟨by unfold RowE; rw [hl]; exact h3.1, h4, ?_⟩
  have hg := ApEntries.grown_setCells g (entC u) (i * 5) w
  exact ⟨hg.os, hg.tape, hg.output, hg.size, fun k hk => hg.block k (by omega) (by intro e; injection e with e; omega)⟩
end
end Go.Proofs.YtipfccfjniglbaaGreatDoor
namespace Go.Proofs.YtipfccfjniglbaaGreatDoor
section
open Go.RowKit Go.Maps Go.Shelf
open Go.Lib hiding intOf size_eq
/-- what doing one change leaves -/
structure DoneR (base : Nat) (L : List Ent) (c : Chg) (w : World) (r : Ending) (w' : World) : Prop where
  below : Below base w w'
  err : ∀ n, doneL L c = .error n → r = .returned (.tuple #[.slice none 0 0, errV n])
  ok : ∀ L', doneL L c = .ok L' → ∃ v', r = .returned (.tuple #[v', .nilIface]) ∧ RowE w' base v' L'
theorem DoneR.bad {base : Nat} {L : List Ent} {c : Chg} {w w' : World} {r : Ending} {n : Nat} (h : doneL L c = .error n) (hb : Below base w w') (hr : r = .returned (.tuple #[.slice none 0 0, errV n])) : DoneR base L c w r w' :=
  ⟨hb, fun m hm => by rw [h] at hm; injection hm with hm; subst hm; exact hr, fun L' hL => by rw [h] at hL; cases hL⟩
theorem DoneR.good {base : Nat} {L L' : List Ent} {c : Chg} {w w' : World} {r : Ending} {v' : Value} (h : doneL L c = .ok L') (hb : Below base w w') (hr : r = .returned (.tuple #[v', .nilIface])) (hw : RowE w' base v' L') : DoneR base L c w r w' :=
  ⟨hb, fun m hm => by rw [h] at hm; (cases hm), fun M hM => by rw [h] at hM; injection hM with hM; subst hM; exact ⟨v', hr, hw⟩⟩
theorem chg_cells {w : World} {b : Nat} {c : Chg} (h : w.heap[b]? = some (.cells (chgC c).toArray 54 (0, 0))) : w.cell? ⟨b, 0, none⟩ = some (.string c.p) ∧ w.cell? ⟨b, 1, none⟩ = some (.bool c.g) ∧ w.cell? ⟨b, 2, none⟩ = some (.string c.e.p) ∧ w.cell? ⟨b, 3, none⟩ = some (.int .i64 c.e.k) :=
  ⟨block_cell (j := 0) h rfl, block_cell (j := 1) h rfl, block_cell (j := 2) h rfl, block_cell (j := 3) h rfl⟩
theorem still_skipD {P : Program} {ops : Array Oper} {w : World} {Q : Act → Prop} {a : Act} {o : Oper} {rest : List Oper} (hw : Region.wanted o (yielded ops a.tmps) = false) (h : wpStill P ops w Q rest (a.put o.dst undef)) : wpStill P ops w Q (o :: rest) a :=
  wpStill_step fun K hK => by rw [hw]; exact hK _ h
attribute [local irreducible] wpStill
set_option maxRecDepth 100000 in
set_option maxHeartbeats 4000000 in
theorem do_gone {w : World} {base : Nat} {v : Value} {L : List Ent} (c : Chg) (hg : c.g = true) (h : RowE w base v L) (hbase : base ≤ w.heap.size) (hi : Inc L) (hs : ∀ x ∈ L, x.p.size < 4611686018427387904) (hp : c.p.size < 4611686018427387904) (hl : L.length < 1099511627776) :
    Calls Tryz.prog 51 #[v, chgV c] w (DoneR base L c w) := by
  have hR := h
  obtain ⟨w0, hw0⟩ : ∃ x, x = w.alloc (.cells (chgC c).toArray 54) := ⟨_, rfl⟩
  have hr0 : RowE w0 base v L := by rw [hw0]; exact h.alloc _
  have hb0 : Below base w w0 := by rw [hw0]; exact (Below.refl _ _).alloc hbase _
  have hs0 : w0.heap.size = w.heap.size + 1 := by rw [hw0]; simp
  have hcb : w0.heap[w.heap.size]? = some (.cells (chgC c).toArray 54 (0, 0)) := by rw [hw0]; exact World.alloc_heap_new w _
  have hcell : ∀ W, Below w0.heap.size w0 W → W.cell? ⟨w.heap.size, 0, none⟩ = some (.string c.p) ∧ W.cell? ⟨w.heap.size, 1, none⟩ = some (.bool true) := fun W hW => by
    have := chg_cells ((hW.block w.heap.size (by omega)).trans hcb)
    rw [hg] at this
    exact ⟨this.1, this.2.1⟩
  have hf := dfind_any v L c.p w0 hr0.ents hi hs hp hl
  have hd := done_gone (L := L) hi hg
  have hcut : ∀ k, hasL L c.p.data.toList = true → c.path ≠ [] → posL L c.p.data.toList + 1 ≤ k → k ≤ L.length → (∀ t x, posL L c.p.data.toList < t → t < k → L[t]? = some x → belowP c.path x.path = true) → (∀ x, L[k]? = some x → belowP c.path x.path = false) → withoutL L c.path = L.take (posL L c.p.data.toList) ++ L.drop k :=
    fun k h1 h2 h3 h4 h5 h6 => without_cut h2 hi h1 h3 h4 h5 h6
  have hpos := fun h => has_pos (L := L) (p := c.p.data.toList) h
  have hpath : c.path = c.p.data.toList := rfl
  have hentsW : ∀ W, Below w0.heap.size w0 W → RowE W base v L := fun W hW => row_belowE hr0 hW
  have hpe : c.p.data.toList = [] → c.p = ⟨#[]⟩ := fun h => ba_ext h
  obtain ⟨o, cap, rfl, hlc, hcm, hcells⟩ := hr0.ents
  obtain ⟨n, hn⟩ : ∃ n, n = L.length := ⟨_, rfl⟩
  rw [← hn] at hlc hl hcut hpos hf hentsW ⊢
  have hcellL : ∀ W, Below w0.heap.size w0 W → ∀ k x, L[k]? = some x → ∃ a, o = some a ∧ W.cell? (a.add (k * 5)) = some (.string x.p) := fun W hW k x hx => by
    obtain ⟨a, ha, hal, hc⟩ := hcells k x hx
    refine ⟨a, ha, ?_⟩
    have := hc 0 _ rfl
    rw [show (a.add (k * 5)).add 0 = a.add (k * 5) from if_pos rfl] at this
    unfold World.cell? at this ⊢
    rw [hW.block _ (by rw [add_block]; exact hal)]
    exact this
  rw [hpath] at hd hcut
  generalize hP : posL L c.p.data.toList = i at *
  generalize hH : hasL L c.p.data.toList = t at *
  have Hw0 := Lib.hid hw0
  have Hb0 := Lib.hid hb0
  have Hcell := Lib.hid hcell
  have Hf := Lib.hid hf
  have Hd := Lib.hid hd
  have Hcut := Lib.hid hcut
  have Hpos := Lib.hid hpos
  have HW := Lib.hid hentsW
  have HcL := Lib.hid hcellL
  have Hn := Lib.hid hn
  have Hs0 := Lib.hid hs0
  have Hpe := Lib.hid hpe
  have Hsx := Lib.hid hs
  obtain ⟨cp, hcp⟩ : ∃ x, x = c.p := ⟨_, rfl⟩
  unfold chgV
  rw [hg]
  rw [← hcp] at Hcell Hf Hd Hcut Hpe hp ⊢
  have hchg : #[Value.string cp, Value.bool true, Value.string c.e.p, Value.int .i64 c.e.k, Value.int .i64 c.e.m, Value.string c.e.d, Value.string c.e.l] = (chgC c).toArray := by rw [hcp, ← hg]; rfl
  have Hchg := Lib.hid hchg
  have Hcp := Lib.hid hcp
  clear hP hH hw0 hb0 hcell hf hd hcut hpos hentsW hcellL hn hs0 hpe hs hcells hpath hcb hr0 h hR hcp hchg hg
  have hcl0 := (Hcell.out w0 (Below.refl _ _)).1
  have hcl1 := (Hcell.out w0 (Below.refl _ _)).2
  by_cases he : cp.data.toList = []
  · obtain rfl := Hpe.out he
    rw [if_pos he] at Hd
    clear he Hcut HcL
    go_enter Tryz.func51, Tryz.ntmps51
    go_upto_region 1 with fail
    rw [Hchg.out, ← Hw0.out]
    clear hcl0 hcl1
    have hcl0 := (Hcell.out w0 (Below.refl _ _)).1
    go_wp2_with (go_at_call 79; refine Hf.out.mono ?_; rintro e w1 ⟨rfl, hb1⟩
                 have HB1 := Lib.hid hb1
                 have h10 := (Hcell.out w1 hb1).1
                 have h11 := (Hcell.out w1 hb1).2
                 clear hb1 hcl0)
    go_ret2
    exact DoneR.bad Hd.out (Hb0.out.trans (HB1.out.mono (by have := Hs0.out; omega))) rfl
  · have b0 := emptyB_f he
    rw [if_neg he] at Hd
    cases t with
    | false =>
      rw [if_neg (by decide)] at Hd
      clear Hcut HcL
      go_enter Tryz.func51, Tryz.ntmps51
      go_upto_region 1 with fail
      rw [Hchg.out, ← Hw0.out]
      go_wp2_with (go_at_call 79; refine Hf.out.mono ?_; rintro e w1 ⟨rfl, hb1⟩
                   have HB1 := Lib.hid hb1
                   have h10 := (Hcell.out w1 hb1).1
                   have h11 := (Hcell.out w1 hb1).2
                   clear hb1 hcl0 hcl1)
      go_ret2
      exact DoneR.bad Hd.out (Hb0.out.trans (HB1.out.mono (by have := Hs0.out; omega))) rfl
    | true =>
      rw [if_pos rfl] at Hd
      have hin := Hpos.out rfl
      have Hhe := Lib.hid he
      clear he
      go_enter Tryz.func51, Tryz.ntmps51
      go_upto_region 1 with fail
      rw [Hchg.out, ← Hw0.out]
      go_wp2_with (go_at_call 79; refine Hf.out.mono ?_; rintro e w1 ⟨rfl, hb1⟩
                   have HB1 := Lib.hid hb1
                   have h10 := (Hcell.out w1 hb1).1
                   have h11 := (Hcell.out w1 hb1).2
                   clear hb1 hcl0 hcl1)
      go_loopw [8] (fun ev wr => ∃ (k : Nat), ev = .int .i64 (k : Int) ∧ i + 1 ≤ k ∧ k ≤ n ∧ Below w0.heap.size w0 wr ∧ ∀ t x, i < t → t < k → L[t]? = some x → belowP cp.data.toList x.path = true) (fun ev _ => n - (intOf ev).toNat)
      case atStart => exact ⟨i + 1, by go_num, Nat.le_refl _, by omega, HB1.out, fun t x h1 h2 _ => by omega⟩
      case round =>
        obtain ⟨k, rfl, hk1, hk2, hbr, hall⟩ := hrel
        have hr10 := (Hcell.out wr hbr).1
        have Hbr := Lib.hid hbr
        have Hall := Lib.hid hall
        clear hall hbr h10 h11
        by_cases hlt : k < n
        · obtain ⟨x, hxk⟩ : ∃ x, L[k]? = some x := ⟨_, List.getElem?_eq_getElem (by rw [← Hn.out]; exact hlt)⟩
          obtain ⟨a, rfl, hca⟩ := HcL.out wr Hbr.out k x hxk
          have hbel := fun W => below_any cp x.p W hp (Hsx.out x (List.mem_of_getElem? hxk))
          obtain ⟨q, hq⟩ : ∃ q, q = belowP cp.data.toList x.p.data.toList := ⟨_, rfl⟩
          rw [← hq] at hbel
          have Hbel := Lib.hid hbel
          have Hq := Lib.hid hq
          have Hxk := Lib.hid hxk
          clear hbel hq hxk
          go_upto_region 8 with fail
          have hbz := below_drew Hbr.out
          have hcz := (Hcell.out wr.drew hbz).1
          have hca2 : wr.drew.cell? (a.add (k * 5)) = some (.string x.p) := hca
          refine gregion_named (by kernel_rfl) (by kernel_rfl) ?_
          intro wz hz
          rw [← hz] at hbz hcz hca2
          clear hz hca hr10
          have hkI : (k : Int) < (n : Int) := by omega
          have Hcall := Lib.hid (flopT (Hbel.out wz))
          have Hbz := Lib.hid hbz
          clear hbz
          iterate 12 still_step
          still_call Hcall.out
          iterate 1 still_step
          refine wpStill_nil ?_
          cases q with
          | true =>
            go_wp2_with fail
            go_roundw
            case rel =>
              refine ⟨k + 1, by go_num, by omega, by omega, Hbz.out, fun t y h1 h2 h3 => ?_⟩
              by_cases htk : t = k
              · subst htk
                rw [Hxk.out] at h3
                injection h3 with h3
                subst h3
                exact Hq.out.symm
              · exact Hall.out t y h1 (by omega) h3
            case measure => simp [intOf]; omega
          | false =>
            have hw := Hcut.out k trivial Hhe.out (by omega) (by omega) Hall.out (fun y hy => by rw [Hxk.out] at hy; injection hy with hy; subst hy; exact Hq.out.symm)
            have Hww := Lib.hid hw
            clear hw
            have hdel := fun W (hW : Below w0.heap.size w0 W) => delete_any (w := W) (base := base) (i := i) (j := k) (HW.out W hW) (by omega) (by rw [← Hn.out]; omega) (by rw [← Hn.out]; exact hl)
            have Hdel := Lib.hid hdel
            clear hdel
            go_wp2_with (go_at_call 80; refine (Hdel.out _ Hbz.out).mono ?_; rintro e w2 ⟨v', rfl, hrow2, hb2⟩
                         have HR2 := Lib.hid hrow2
                         have HB2 := Lib.hid hb2
                         clear hrow2 hb2)
            go_ret2
            rw [← Hww.out] at HR2
            exact DoneR.good Hd.out ((Hb0.out.trans (Hbz.out.mono (by have := Hs0.out; omega))).trans HB2.out) rfl HR2.out
        · obtain rfl : k = n := by omega
          have hw := Hcut.out k trivial Hhe.out (by omega) (by omega) Hall.out (fun y hy => by have := (List.getElem?_eq_some_iff.1 hy).1; rw [← Hn.out] at this; omega)
          have Hww := Lib.hid hw
          clear hw
          have hdel := fun W (hW : Below w0.heap.size w0 W) => delete_any (w := W) (base := base) (i := i) (j := k) (HW.out W hW) (by omega) (by rw [← Hn.out]; omega) (by rw [← Hn.out]; exact hl)
          have Hdel := Lib.hid hdel
          clear hdel
          go_upto_region 8 with fail
          have hbz := below_drew Hbr.out
          refine gregion_named (by kernel_rfl) (by kernel_rfl) ?_
          intro wz hz
          rw [← hz] at hbz
          clear hz hr10
          have hkI : ¬ (k : Int) < (k : Int) := by omega
          have Hbz := Lib.hid hbz
          clear hbz
          iterate 5 still_step
          iterate 8 (refine still_skipD (by rfl) ?_; simp only [Act.put, List.setIfInBounds_toArray, List.set_cons_zero, List.set_cons_succ])
          iterate 1 still_step
          refine wpStill_nil ?_
          go_wp2_with (go_at_call 80; refine (Hdel.out _ Hbz.out).mono ?_; rintro e w2 ⟨v', rfl, hrow2, hb2⟩
                       have HR2 := Lib.hid hrow2
                       have HB2 := Lib.hid hb2
                       clear hrow2 hb2)
          go_ret2
          rw [← Hww.out] at HR2
          exact DoneR.good Hd.out ((Hb0.out.trans (Hbz.out.mono (by have := Hs0.out; omega))).trans HB2.out) rfl HR2.out
end
end Go.Proofs.YtipfccfjniglbaaGreatDoor
namespace Go.Proofs.YtipfccfjniglbaaGreatDoor
section
open Go.RowKit Go.Maps Go.Shelf
open Go.Lib hiding intOf size_eq
theorem chg_cells7 {w : World} {b : Nat} {c : Chg} (h : w.heap[b]? = some (.cells (chgC c).toArray 54 (0, 0))) :
    w.cell? ⟨b, 0, none⟩ = some (.string c.p) ∧ w.cell? ⟨b, 1, none⟩ = some (.bool c.g) ∧ w.cell? ⟨b, 2, none⟩ = some (.string c.e.p) ∧ w.cell? ⟨b, 3, none⟩ = some (.int .i64 c.e.k) ∧ w.rangeAt b 2 (entC c.e) := by
  have h1 := chg_cells h
  refine ⟨h1.1, h1.2.1, h1.2.2.1, h1.2.2.2, fun j v hv => ?_⟩
  have hj : j < 5 := (List.getElem?_eq_some_iff.1 hv).1
  refine block_cell (j := 2 + j) h ?_
  rw [← hv]
  match j, hj with
  | 0, _ => rfl
  | 1, _ => rfl
  | 2, _ => rfl
  | 3, _ => rfl
  | 4, _ => rfl
/-- where do stands -/
structure DoAt (base : Nat) (v : Value) (L : List Ent) (c : Chg) (w W : World) : Prop where
  row : RowE W base v L
  c0 : W.cell? ⟨w.heap.size, 0, none⟩ = some (.string c.p)
  c1 : W.cell? ⟨w.heap.size, 1, none⟩ = some (.bool c.g)
  c2 : W.cell? ⟨w.heap.size, 2, none⟩ = some (.string c.e.p)
  c3 : W.cell? ⟨w.heap.size, 3, none⟩ = some (.int .i64 c.e.k)
  r2 : W.rangeAt w.heap.size 2 (entC c.e)
  below : Below base w W
  size : w.heap.size < W.heap.size
theorem DoAt.start {base : Nat} {v : Value} {L : List Ent} {c : Chg} {w : World} (h : RowE w base v L) (hb : base ≤ w.heap.size) : DoAt base v L c w (w.alloc (.cells (chgC c).toArray 54)) := by
  have h7 := chg_cells7 (c := c) (World.alloc_heap_new w (.cells (chgC c).toArray 54))
  exact ⟨h.alloc _, h7.1, h7.2.1, h7.2.2.1, h7.2.2.2.1, h7.2.2.2.2, (Below.refl _ _).alloc hb _, by simp⟩
theorem DoAt.step {base : Nat} {v : Value} {L : List Ent} {c : Chg} {w W W' : World} (h : DoAt base v L c w W) (hb : base ≤ w.heap.size) (hw : Below W.heap.size W W') : DoAt base v L c w W' := by
  have hs := h.size
  have hc : ∀ j u, W.cell? ⟨w.heap.size, j, none⟩ = some u → W'.cell? ⟨w.heap.size, j, none⟩ = some u := fun j u hu => by
    unfold World.cell? at hu ⊢
    rw [hw.block _ h.size]
    exact hu
  exact ⟨row_belowE h.row hw, hc _ _ h.c0, hc _ _ h.c1, hc _ _ h.c2, hc _ _ h.c3, fun j u hj => hc _ _ (h.r2 j u hj), h.below.trans (hw.mono (by omega)), by have := hw.size; omega⟩
theorem DoAt.kind {base : Nat} {o : Option Addr} {n cap : Nat} {L : List Ent} {c : Chg} {w W : World} (h : DoAt base (.slice o n cap) L c w W) {k : Nat} {x : Ent} (hx : L[k]? = some x) : ∃ g, o = some ⟨g, 0, none⟩ ∧ W.cell? ⟨g, k * 5 + 1, none⟩ = some (.int .i64 x.k) := by
  have hr := h.row.ents
  rcases h.row.2 with ⟨e, h0⟩ | ⟨g, cap', cur, e, _⟩
  · have := (List.getElem?_eq_some_iff.1 hx).1; omega
  · injection e with e1 e2 e3
    subst e1
    obtain ⟨o2, c2, e4, _, _, hc⟩ := hr
    injection e4 with e5 e6 e7
    obtain ⟨a, ha, _, hcc⟩ := hc k x hx
    rw [← e5] at ha
    injection ha with ha
    subst ha
    refine ⟨g, rfl, ?_⟩
    have := hcc 1 _ rfl
    rw [Addr.add_mid, Addr.add_mid, Nat.zero_add] at this
    exact this
theorem DoAt.bad {base : Nat} {v : Value} {L : List Ent} {c : Chg} {w W : World} {r : Ending} {n : Nat} (h : DoAt base v L c w W) (hn : doneL L c = .error n) (hr : r = .returned (.tuple #[.slice none 0 0, errV n])) : DoneR base L c w r W := DoneR.bad hn h.below hr
/-- the errors of a change that lays -/
theorem done_arg {L : List Ent} {c : Chg} (hg : c.g = false) (h : c.e.path ≠ c.path) : doneL L c = .error 1 := by
  unfold doneL
  rw [if_neg (by rw [hg]; decide), if_pos h]
theorem done_self {L : List Ent} {c : Chg} (hg : c.g = false) (h : c.e.path = c.path) (h0 : itselfNo c.e ≠ 0) : doneL L c = .error (itselfNo c.e) := by
  unfold doneL
  rw [if_neg (by rw [hg]; decide), if_neg (fun x => x h), if_pos h0]
theorem done_up {L : List Ent} {c : Chg} (hg : c.g = false) (h : c.e.path = c.path) (h0 : itselfNo c.e = 0) (h1 : upNo L c.path ≠ 0) : doneL L c = .error (upNo L c.path) := by
  unfold doneL
  rw [if_neg (by rw [hg]; decide), if_neg (fun x => x h), if_neg (fun x => x h0), if_pos h1]
set_option maxRecDepth 100000 in
set_option maxHeartbeats 8000000 in
theorem do_arg {w : World} {base : Nat} {v : Value} {L : List Ent} (c : Chg) (hg : c.g = false) (h : RowE w base v L) (hbase : base ≤ w.heap.size) (hi : Inc L) (hs : ∀ x ∈ L, x.p.size < 4611686018427387904) (hp : c.p.size < 1152921504606846976) (hd : c.e.d.size < 1152921504606846976) (hk : c.e.l.size < 1152921504606846976) (hl : L.length < 1099511627776) (hne : c.e.path ≠ c.path) :
    Calls Tryz.prog 51 #[v, chgV c] w (DoneR base L c w) := by
  have hst := DoAt.start (c := c) h hbase
  obtain ⟨w0, hw0⟩ : ∃ x, x = w.alloc (.cells (chgC c).toArray 54) := ⟨_, rfl⟩
  rw [← hw0] at hst
  have hf := dfind_any v L c.p w0 hst.row.ents hi hs (by omega) hl
  have hstep : ∀ W W', DoAt base v L c w W → Below W.heap.size W W' → DoAt base v L c w W' := fun W W' a b => a.step hbase b
  have hchg : #[Value.string c.p, Value.bool c.g, Value.string c.e.p, Value.int .i64 c.e.k, Value.int .i64 c.e.m, Value.string c.e.d, Value.string c.e.l] = (chgC c).toArray := rfl
  rw [hg] at hchg
  have hbad := fun W (hW : DoAt base v L c w W) => hW.bad (r := .returned (.tuple #[.slice none 0 0, errV 1])) (done_arg hg hne) rfl
  have hq : (c.e.p.toList == c.p.toList) = false := by
    rw [toList_data, toList_data]
    exact beq_eq_false_iff_ne.2 hne
  obtain ⟨o, cap, rfl, hlc, hcm, hcells⟩ := h.ents
  obtain ⟨n, hn⟩ : ∃ n, n = L.length := ⟨_, rfl⟩
  rw [← hn] at hlc hl hf
  generalize posL L c.p.data.toList = i at *
  generalize hasL L c.p.data.toList = t at *
  rw [← hn] at hst hstep hbad ⊢
  have Hw0 := Lib.hid hw0
  have Hst := Lib.hid hst
  have Hf := Lib.hid hf
  have Hstep := Lib.hid hstep
  have Hchg := Lib.hid hchg
  have Hbad := Lib.hid hbad
  have HG := Lib.hid hg
  unfold chgV
  rw [hg]
  clear hn hw0 hst hf hstep hchg hbad hcells h hi hs hne hg
  go_enter Tryz.func51, Tryz.ntmps51
  go_upto_region 1 with fail
  rw [Hchg.out, ← Hw0.out]
  have h00 := Hst.out.c0
  go_wp2_with (go_at_call 79; refine Hf.out.mono ?_; rintro e w1 ⟨rfl, hb1⟩
               have H1 := Lib.hid (Hstep.out _ _ Hst.out hb1)
               have h10 := H1.out.c0
               have h11 := H1.out.c1
               rw [HG.out] at h11
               have h12 := H1.out.c2
               clear hb1 h00)
  go_ret2
  exact Hbad.out _ H1.out
set_option maxRecDepth 100000 in
set_option maxHeartbeats 8000000 in
theorem do_self {w : World} {base : Nat} {v : Value} {L : List Ent} (c : Chg) (hg : c.g = false) (h : RowE w base v L) (hbase : base ≤ w.heap.size) (hi : Inc L) (hs : ∀ x ∈ L, x.p.size < 4611686018427387904) (hp : c.p.size < 1152921504606846976) (hd : c.e.d.size < 1152921504606846976) (hk : c.e.l.size < 1152921504606846976) (hl : L.length < 1099511627776) (hpq : c.e.path = c.path) (h0 : itselfNo c.e ≠ 0) :
    Calls Tryz.prog 51 #[v, chgV c] w (DoneR base L c w) := by
  have hst := DoAt.start (c := c) h hbase
  obtain ⟨w0, hw0⟩ : ∃ x, x = w.alloc (.cells (chgC c).toArray 54) := ⟨_, rfl⟩
  rw [← hw0] at hst
  have hf := dfind_any v L c.p w0 hst.row.ents hi hs (by omega) hl
  have hstep : ∀ W W', DoAt base v L c w W → Below W.heap.size W W' → DoAt base v L c w W' := fun W W' a b => a.step hbase b
  have hchg : #[Value.string c.p, Value.bool c.g, Value.string c.e.p, Value.int .i64 c.e.k, Value.int .i64 c.e.m, Value.string c.e.d, Value.string c.e.l] = (chgC c).toArray := rfl
  rw [hg] at hchg
  have hbad := fun W (hW : DoAt base v L c w W) m (hm : m = itselfNo c.e) => hW.bad (r := .returned (.tuple #[.slice none 0 0, errV m])) (n := m) (by rw [hm]; exact done_self hg hpq h0) rfl
  have hpe : c.e.p = c.p := ba_ext hpq
  obtain ⟨o, cap, rfl, hlc, hcm, hcells⟩ := h.ents
  obtain ⟨n, hn⟩ : ∃ n, n = L.length := ⟨_, rfl⟩
  rw [← hn] at hlc hl hf
  rw [← hn] at hst hstep hbad ⊢
  obtain ⟨ln, hln⟩ : ∃ x, x = bs (lastName c.p.data.toList) := ⟨_, rfl⟩
  have hlast := fun W => last_any c.p W (by omega)
  rw [← hln] at hlast
  have hls : ln.size < 1152921504606846976 := by
    rw [hln, bs_size]
    have : (lastName c.p.data.toList).length ≤ c.p.data.toList.length := by unfold lastName; simp
    rw [← Lib.size_eq] at this
    omega
  have hpr : probeE c.e c.p = ⟨ln, c.e.k, c.e.m, c.e.d, c.e.l⟩ := by unfold probeE; rw [← hln]
  have hput := probe_put c.e c.p
  have hpno := probe_no hpq
  have hchk := fun W => check_any c.p W hp
  unfold probeNo at hpno
  rw [hpr] at hput hpno
  have hpa : ∀ (T rt rm B : Nat) (W : World), TreeAt W T rt rm B [] → Calls Tryz.prog 83 #[.pointer (some ⟨T, 0, none⟩), .agg #[.string ln, .int .i64 c.e.k, .int .i64 c.e.m, .string c.e.d, .string c.e.l]] W fun r W' => r = .returned (errV (itselfNo ⟨ln, c.e.k, c.e.m, c.e.d, c.e.l⟩)) ∧ Below B W W' := fun T rt rm B W hT =>
    (put_any ⟨ln, c.e.k, c.e.m, c.e.d, c.e.l⟩ W hT hls hk hd).mono fun r W' h => by
      obtain ⟨h1, nd', _, _, h4⟩ := h
      refine ⟨?_, h4.below hT⟩
      rw [h1, ← hput]
      rfl
  rw [← hpno] at hbad h0
  clear hpno
  generalize itselfNo ⟨ln, c.e.k, c.e.m, c.e.d, c.e.l⟩ = z at *
  generalize posL L c.p.data.toList = i at *
  generalize hasL L c.p.data.toList = t at *
  generalize checkNo c.p.data.toList = q at *
  have Hw0 := Lib.hid hw0
  have Hst := Lib.hid hst
  have Hf := Lib.hid hf
  have Hstep := Lib.hid hstep
  have Hchg := Lib.hid hchg
  have HG := Lib.hid hg
  have Hpe := Lib.hid hpe
  have Hlast := Lib.hid hlast
  have Hpa := Lib.hid hpa
  have Hchk := Lib.hid hchk
  have Hn := Lib.hid hn
  unfold chgV
  rw [hg]
  have Hbad := Lib.hid hbad
  have H0 := Lib.hid h0
  clear hn hw0 hst hf hstep hchg hcells h hi hs hg hpe hln hlast hpr hput hpa hchk hpq hbad h0
  by_cases hz : z = 0
  · subst hz
    have hq : q ≠ 0 := fun e => H0.out (by rw [e]; simp)
    rw [show errV 0 = .nilIface from rfl] at Hpa
    have Hchk2 := Hchk
    rw [errV_pos hq] at Hchk Hchk2
    have Hq := Lib.hid hq
    clear hq
    go_enter Tryz.func51, Tryz.ntmps51
    go_upto_region 1 with fail
    rw [Hchg.out, ← Hw0.out]
    have h00 := Hst.out.c0
    go_wp2_with (first
      | (go_at_call 79; refine Hf.out.mono ?_; rintro e w1 ⟨rfl, hb1⟩
         have H1 := Lib.hid (Hstep.out _ _ Hst.out hb1)
         have h10 := H1.out.c0
         have h11 := H1.out.c1
         rw [HG.out] at h11
         have h12 := H1.out.c2
         rw [Hpe.out] at h12
         have h20 := (show ((w1.alloc (.cells #[.string c.e.p, .int .i64 c.e.k, .int .i64 c.e.m, .string c.e.d, .string c.e.l] 52)).cell? ⟨w.heap.size, 0, none⟩ = some (.string c.p)) from (Hstep.out _ _ H1.out ((Below.refl _ _).alloc (Nat.le_refl _) _)).c0)
         clear hb1 h00)
      | (refine wpList_load_mid rfl _ _ rfl w.heap.size 2 rfl [.string c.e.p, .int .i64 c.e.k, .int .i64 c.e.m, .string c.e.d, .string c.e.l] _ H1.out.r2 Tryz.underlying52 rfl (by kernel_rfl) ?_)
      | (go_at_call 81; refine (Hlast.out _).mono ?_; rintro e w2 ⟨rfl, rfl⟩))
    obtain ⟨w3, hw3⟩ : ∃ x, x = w1.alloc (.cells #[.string ln, .int .i64 c.e.k, .int .i64 c.e.m, .string c.e.d, .string c.e.l] 52) := ⟨_, rfl⟩
    have hb3 : w3.heap[w1.heap.size]? = some (.cells #[.string ln, .int .i64 c.e.k, .int .i64 c.e.m, .string c.e.d, .string c.e.l] 52 (0, 0)) := by rw [hw3]; exact World.alloc_heap_new w1 _
    have H3 := Lib.hid (Hstep.out _ _ H1.out (show Below w1.heap.size w1 w3 by rw [hw3]; exact (Below.refl _ _).alloc (Nat.le_refl _) _))
    have hab : w1.heap.size < w3.heap.size := by rw [hw3]; simp
    rw [← hw3]
    clear hw3 h10 h11 h12 h20 H1
    generalize w1.heap.size = ab at *
    have hS : ∀ W, Below w3.heap.size w3 W → W.cell? ⟨ab, 0, none⟩ = some (.string ln) ∧ W.cell? ⟨ab, 1, none⟩ = some (.int .i64 c.e.k) ∧ W.cell? ⟨ab, 2, none⟩ = some (.int .i64 c.e.m) ∧ W.cell? ⟨ab, 3, none⟩ = some (.string c.e.d) ∧ W.cell? ⟨ab, 4, none⟩ = some (.string c.e.l) := fun W hW => by
      have hb := (hW.block ab hab).trans hb3
      exact ⟨block_cell (j := 0) hb rfl, block_cell (j := 1) hb rfl, block_cell (j := 2) hb rfl, block_cell (j := 3) hb rfl, block_cell (j := 4) hb rfl⟩
    have hsd := hS w3.drew (below_drew (Below.refl _ _))
    have HS := Lib.hid hS
    clear hS hb3
    go_region_held3 (fun W => W.cell? ⟨ab, 0, none⟩ = some (.string ln) ∧ W.cell? ⟨ab, 1, none⟩ = some (.int .i64 c.e.k) ∧ W.cell? ⟨ab, 2, none⟩ = some (.int .i64 c.e.m) ∧ W.cell? ⟨ab, 3, none⟩ = some (.string c.e.d) ∧ W.cell? ⟨ab, 4, none⟩ = some (.string c.e.l)) (first | assumption | go_keep)
      (first
      | (go_at_call 82; refine (new_any _).mono ?_; rintro r w4 ⟨rfl, ht4, hb4⟩
         have hs4 := HS.out w4 (below_drew (Below.refl _ _) |>.trans hb4)
         have HT4 := Lib.hid ht4
         have HB4 := Lib.hid hb4
         clear ht4 hb4 hsd)
      | (go_at_call 83; refine (Hpa.out _ _ _ _ _ HT4.out).mono ?_; rintro r w5 ⟨rfl, hb5⟩
         have H5 := Lib.hid (Hstep.out _ _ H3.out ((below_drew (Below.refl _ _)).trans (HB4.out.trans hb5)))
         have h50 := H5.out.c0
         have hs5 := HS.out w5 ((below_drew (Below.refl _ _)).trans (HB4.out.trans hb5))
         clear hb5 HB4 HT4 hs4))
    go_wp2_with (first
      | (go_at_call 84; first
        | (refine (Hchk.out w5).mono ?_; rintro r w6 ⟨rfl, hb6⟩
           have H6 := Lib.hid (Hstep.out _ _ H5.out hb6)
           have h60 := H6.out.c0
           clear hb6 Hchk)
        | (refine (Hchk2.out w6).mono ?_; rintro r w7 ⟨rfl, hb7⟩
           have H7 := Lib.hid (Hstep.out _ _ H6.out hb7)
           clear hb7))
      | (go_at_call 58; refine (is_nil 14 _).mono ?_; rintro r w8 ⟨rfl, rfl⟩))
    go_ret2
    have := Hbad.out _ H7.out q (by rw [if_pos ⟨Hq.out, by decide⟩])
    rw [errV_pos Hq.out] at this
    exact this
  · rw [errV_pos hz] at Hpa
    have Hz := Lib.hid hz
    clear hz
    by_cases hq : q = 0
    · subst hq
      rw [show errV 0 = .nilIface from rfl] at Hchk
      go_enter Tryz.func51, Tryz.ntmps51
      go_upto_region 1 with fail
      rw [Hchg.out, ← Hw0.out]
      have h00 := Hst.out.c0
      go_wp2_with (first
        | (go_at_call 79; refine Hf.out.mono ?_; rintro e w1 ⟨rfl, hb1⟩
           have H1 := Lib.hid (Hstep.out _ _ Hst.out hb1)
           have h10 := H1.out.c0
           have h11 := H1.out.c1
           rw [HG.out] at h11
           have h12 := H1.out.c2
           rw [Hpe.out] at h12
           have h20 := (show ((w1.alloc (.cells #[.string c.e.p, .int .i64 c.e.k, .int .i64 c.e.m, .string c.e.d, .string c.e.l] 52)).cell? ⟨w.heap.size, 0, none⟩ = some (.string c.p)) from (Hstep.out _ _ H1.out ((Below.refl _ _).alloc (Nat.le_refl _) _)).c0)
           clear hb1 h00)
        | (refine wpList_load_mid rfl _ _ rfl w.heap.size 2 rfl [.string c.e.p, .int .i64 c.e.k, .int .i64 c.e.m, .string c.e.d, .string c.e.l] _ H1.out.r2 Tryz.underlying52 rfl (by kernel_rfl) ?_)
        | (go_at_call 81; refine (Hlast.out _).mono ?_; rintro e w2 ⟨rfl, rfl⟩))
      obtain ⟨w3, hw3⟩ : ∃ x, x = w1.alloc (.cells #[.string ln, .int .i64 c.e.k, .int .i64 c.e.m, .string c.e.d, .string c.e.l] 52) := ⟨_, rfl⟩
      have hb3 : w3.heap[w1.heap.size]? = some (.cells #[.string ln, .int .i64 c.e.k, .int .i64 c.e.m, .string c.e.d, .string c.e.l] 52 (0, 0)) := by rw [hw3]; exact World.alloc_heap_new w1 _
      have H3 := Lib.hid (Hstep.out _ _ H1.out (show Below w1.heap.size w1 w3 by rw [hw3]; exact (Below.refl _ _).alloc (Nat.le_refl _) _))
      have hab : w1.heap.size < w3.heap.size := by rw [hw3]; simp
      rw [← hw3]
      clear hw3 h10 h11 h12 h20 H1
      generalize w1.heap.size = ab at *
      have hS : ∀ W, Below w3.heap.size w3 W → W.cell? ⟨ab, 0, none⟩ = some (.string ln) ∧ W.cell? ⟨ab, 1, none⟩ = some (.int .i64 c.e.k) ∧ W.cell? ⟨ab, 2, none⟩ = some (.int .i64 c.e.m) ∧ W.cell? ⟨ab, 3, none⟩ = some (.string c.e.d) ∧ W.cell? ⟨ab, 4, none⟩ = some (.string c.e.l) := fun W hW => by
        have hb := (hW.block ab hab).trans hb3
        exact ⟨block_cell (j := 0) hb rfl, block_cell (j := 1) hb rfl, block_cell (j := 2) hb rfl, block_cell (j := 3) hb rfl, block_cell (j := 4) hb rfl⟩
      have hsd := hS w3.drew (below_drew (Below.refl _ _))
      have HS := Lib.hid hS
      clear hS hb3
      go_region_held3 (fun W => W.cell? ⟨ab, 0, none⟩ = some (.string ln) ∧ W.cell? ⟨ab, 1, none⟩ = some (.int .i64 c.e.k) ∧ W.cell? ⟨ab, 2, none⟩ = some (.int .i64 c.e.m) ∧ W.cell? ⟨ab, 3, none⟩ = some (.string c.e.d) ∧ W.cell? ⟨ab, 4, none⟩ = some (.string c.e.l)) (first | assumption | go_keep)
        (first
        | (go_at_call 82; refine (new_any _).mono ?_; rintro r w4 ⟨rfl, ht4, hb4⟩
           have hs4 := HS.out w4 (below_drew (Below.refl _ _) |>.trans hb4)
           have HT4 := Lib.hid ht4
           have HB4 := Lib.hid hb4
           clear ht4 hb4 hsd)
        | (go_at_call 83; refine (Hpa.out _ _ _ _ _ HT4.out).mono ?_; rintro r w5 ⟨rfl, hb5⟩
           have H5 := Lib.hid (Hstep.out _ _ H3.out ((below_drew (Below.refl _ _)).trans (HB4.out.trans hb5)))
           have h50 := H5.out.c0
           have hs5 := HS.out w5 ((below_drew (Below.refl _ _)).trans (HB4.out.trans hb5))
           clear hb5 HB4 HT4 hs4))
      go_wp2_with (go_at_call 84; refine (Hchk.out w5).mono ?_; rintro r w6 ⟨rfl, hb6⟩
                   have H6 := Lib.hid (Hstep.out _ _ H5.out hb6)
                   clear hb6)
      go_ret2
      have := Hbad.out _ H6.out z (by rw [if_neg (fun x => x.1 rfl)])
      rw [errV_pos Hz.out] at this
      exact this
    · rw [errV_pos hq] at Hchk
      have Hq := Lib.hid hq
      clear hq
      by_cases h14 : z = 14
      · subst h14
        go_enter Tryz.func51, Tryz.ntmps51
        go_upto_region 1 with fail
        rw [Hchg.out, ← Hw0.out]
        have h00 := Hst.out.c0
        go_wp2_with (first
          | (go_at_call 79; refine Hf.out.mono ?_; rintro e w1 ⟨rfl, hb1⟩
             have H1 := Lib.hid (Hstep.out _ _ Hst.out hb1)
             have h10 := H1.out.c0
             have h11 := H1.out.c1
             rw [HG.out] at h11
             have h12 := H1.out.c2
             rw [Hpe.out] at h12
             have h20 := (show ((w1.alloc (.cells #[.string c.e.p, .int .i64 c.e.k, .int .i64 c.e.m, .string c.e.d, .string c.e.l] 52)).cell? ⟨w.heap.size, 0, none⟩ = some (.string c.p)) from (Hstep.out _ _ H1.out ((Below.refl _ _).alloc (Nat.le_refl _) _)).c0)
             clear hb1 h00)
          | (refine wpList_load_mid rfl _ _ rfl w.heap.size 2 rfl [.string c.e.p, .int .i64 c.e.k, .int .i64 c.e.m, .string c.e.d, .string c.e.l] _ H1.out.r2 Tryz.underlying52 rfl (by kernel_rfl) ?_)
          | (go_at_call 81; refine (Hlast.out _).mono ?_; rintro e w2 ⟨rfl, rfl⟩))
        obtain ⟨w3, hw3⟩ : ∃ x, x = w1.alloc (.cells #[.string ln, .int .i64 c.e.k, .int .i64 c.e.m, .string c.e.d, .string c.e.l] 52) := ⟨_, rfl⟩
        have hb3 : w3.heap[w1.heap.size]? = some (.cells #[.string ln, .int .i64 c.e.k, .int .i64 c.e.m, .string c.e.d, .string c.e.l] 52 (0, 0)) := by rw [hw3]; exact World.alloc_heap_new w1 _
        have H3 := Lib.hid (Hstep.out _ _ H1.out (show Below w1.heap.size w1 w3 by rw [hw3]; exact (Below.refl _ _).alloc (Nat.le_refl _) _))
        have hab : w1.heap.size < w3.heap.size := by rw [hw3]; simp
        rw [← hw3]
        clear hw3 h10 h11 h12 h20 H1
        generalize w1.heap.size = ab at *
        have hS : ∀ W, Below w3.heap.size w3 W → W.cell? ⟨ab, 0, none⟩ = some (.string ln) ∧ W.cell? ⟨ab, 1, none⟩ = some (.int .i64 c.e.k) ∧ W.cell? ⟨ab, 2, none⟩ = some (.int .i64 c.e.m) ∧ W.cell? ⟨ab, 3, none⟩ = some (.string c.e.d) ∧ W.cell? ⟨ab, 4, none⟩ = some (.string c.e.l) := fun W hW => by
          have hb := (hW.block ab hab).trans hb3
          exact ⟨block_cell (j := 0) hb rfl, block_cell (j := 1) hb rfl, block_cell (j := 2) hb rfl, block_cell (j := 3) hb rfl, block_cell (j := 4) hb rfl⟩
        have hsd := hS w3.drew (below_drew (Below.refl _ _))
        have HS := Lib.hid hS
        clear hS hb3
        go_region_held3 (fun W => W.cell? ⟨ab, 0, none⟩ = some (.string ln) ∧ W.cell? ⟨ab, 1, none⟩ = some (.int .i64 c.e.k) ∧ W.cell? ⟨ab, 2, none⟩ = some (.int .i64 c.e.m) ∧ W.cell? ⟨ab, 3, none⟩ = some (.string c.e.d) ∧ W.cell? ⟨ab, 4, none⟩ = some (.string c.e.l)) (first | assumption | go_keep)
          (first
          | (go_at_call 82; refine (new_any _).mono ?_; rintro r w4 ⟨rfl, ht4, hb4⟩
             have hs4 := HS.out w4 (below_drew (Below.refl _ _) |>.trans hb4)
             have HT4 := Lib.hid ht4
             have HB4 := Lib.hid hb4
             clear ht4 hb4 hsd)
          | (go_at_call 83; refine (Hpa.out _ _ _ _ _ HT4.out).mono ?_; rintro r w5 ⟨rfl, hb5⟩
             have H5 := Lib.hid (Hstep.out _ _ H3.out ((below_drew (Below.refl _ _)).trans (HB4.out.trans hb5)))
             have h50 := H5.out.c0
             have hs5 := HS.out w5 ((below_drew (Below.refl _ _)).trans (HB4.out.trans hb5))
             clear hb5 HB4 HT4 hs4))
        go_wp2_with (first
          | (go_at_call 84; refine (Hchk.out w5).mono ?_; rintro r w6 ⟨rfl, hb6⟩
             have H6 := Lib.hid (Hstep.out _ _ H5.out hb6)
             clear hb6)
          | (go_at_call 58; refine (is_num 14 14 _).mono ?_; rintro r w8 ⟨rfl, rfl⟩))
        go_ret2
        have := Hbad.out _ H6.out 14 (by rw [if_neg (fun x => x.2 rfl)])
        rw [errV_pos (by decide)] at this
        exact this
      · have hzi : ((z : Int) == 14) = false := by simp; omega
        have H14 := Lib.hid h14
        clear h14
        go_enter Tryz.func51, Tryz.ntmps51
        go_upto_region 1 with fail
        rw [Hchg.out, ← Hw0.out]
        have h00 := Hst.out.c0
        go_wp2_with (first
          | (go_at_call 79; refine Hf.out.mono ?_; rintro e w1 ⟨rfl, hb1⟩
             have H1 := Lib.hid (Hstep.out _ _ Hst.out hb1)
             have h10 := H1.out.c0
             have h11 := H1.out.c1
             rw [HG.out] at h11
             have h12 := H1.out.c2
             rw [Hpe.out] at h12
             have h20 := (show ((w1.alloc (.cells #[.string c.e.p, .int .i64 c.e.k, .int .i64 c.e.m, .string c.e.d, .string c.e.l] 52)).cell? ⟨w.heap.size, 0, none⟩ = some (.string c.p)) from (Hstep.out _ _ H1.out ((Below.refl _ _).alloc (Nat.le_refl _) _)).c0)
             clear hb1 h00)
          | (refine wpList_load_mid rfl _ _ rfl w.heap.size 2 rfl [.string c.e.p, .int .i64 c.e.k, .int .i64 c.e.m, .string c.e.d, .string c.e.l] _ H1.out.r2 Tryz.underlying52 rfl (by kernel_rfl) ?_)
          | (go_at_call 81; refine (Hlast.out _).mono ?_; rintro e w2 ⟨rfl, rfl⟩))
        obtain ⟨w3, hw3⟩ : ∃ x, x = w1.alloc (.cells #[.string ln, .int .i64 c.e.k, .int .i64 c.e.m, .string c.e.d, .string c.e.l] 52) := ⟨_, rfl⟩
        have hb3 : w3.heap[w1.heap.size]? = some (.cells #[.string ln, .int .i64 c.e.k, .int .i64 c.e.m, .string c.e.d, .string c.e.l] 52 (0, 0)) := by rw [hw3]; exact World.alloc_heap_new w1 _
        have H3 := Lib.hid (Hstep.out _ _ H1.out (show Below w1.heap.size w1 w3 by rw [hw3]; exact (Below.refl _ _).alloc (Nat.le_refl _) _))
        have hab : w1.heap.size < w3.heap.size := by rw [hw3]; simp
        rw [← hw3]
        clear hw3 h10 h11 h12 h20 H1
        generalize w1.heap.size = ab at *
        have hS : ∀ W, Below w3.heap.size w3 W → W.cell? ⟨ab, 0, none⟩ = some (.string ln) ∧ W.cell? ⟨ab, 1, none⟩ = some (.int .i64 c.e.k) ∧ W.cell? ⟨ab, 2, none⟩ = some (.int .i64 c.e.m) ∧ W.cell? ⟨ab, 3, none⟩ = some (.string c.e.d) ∧ W.cell? ⟨ab, 4, none⟩ = some (.string c.e.l) := fun W hW => by
          have hb := (hW.block ab hab).trans hb3
          exact ⟨block_cell (j := 0) hb rfl, block_cell (j := 1) hb rfl, block_cell (j := 2) hb rfl, block_cell (j := 3) hb rfl, block_cell (j := 4) hb rfl⟩
        have hsd := hS w3.drew (below_drew (Below.refl _ _))
        have HS := Lib.hid hS
        clear hS hb3
        go_region_held3 (fun W => W.cell? ⟨ab, 0, none⟩ = some (.string ln) ∧ W.cell? ⟨ab, 1, none⟩ = some (.int .i64 c.e.k) ∧ W.cell? ⟨ab, 2, none⟩ = some (.int .i64 c.e.m) ∧ W.cell? ⟨ab, 3, none⟩ = some (.string c.e.d) ∧ W.cell? ⟨ab, 4, none⟩ = some (.string c.e.l)) (first | assumption | go_keep)
          (first
          | (go_at_call 82; refine (new_any _).mono ?_; rintro r w4 ⟨rfl, ht4, hb4⟩
             have hs4 := HS.out w4 (below_drew (Below.refl _ _) |>.trans hb4)
             have HT4 := Lib.hid ht4
             have HB4 := Lib.hid hb4
             clear ht4 hb4 hsd)
          | (go_at_call 83; refine (Hpa.out _ _ _ _ _ HT4.out).mono ?_; rintro r w5 ⟨rfl, hb5⟩
             have H5 := Lib.hid (Hstep.out _ _ H3.out ((below_drew (Below.refl _ _)).trans (HB4.out.trans hb5)))
             have h50 := H5.out.c0
             have hs5 := HS.out w5 ((below_drew (Below.refl _ _)).trans (HB4.out.trans hb5))
             clear hb5 HB4 HT4 hs4))
        go_wp2_with (first
          | (go_at_call 84; refine (Hchk.out w5).mono ?_; rintro r w6 ⟨rfl, hb6⟩
             have H6 := Lib.hid (Hstep.out _ _ H5.out hb6)
             clear hb6)
          | (go_at_call 58; refine (is_num z 14 _).mono ?_; rintro r w8 ⟨rfl, rfl⟩))
        go_ret2
        have := Hbad.out _ H6.out q (by rw [if_pos ⟨Hq.out, H14.out⟩])
        rw [errV_pos Hq.out] at this
        exact this
end
end Go.Proofs.YtipfccfjniglbaaGreatDoor
namespace Go.Proofs.YtipfccfjniglbaaGreatDoor
section
open Go.RowKit Go.Maps Go.Shelf
open Go.Lib hiding intOf size_eq
attribute [local irreducible] wpStill
theorem DoAt.kindg {base g n cap : Nat} {L : List Ent} {c : Chg} {w W : World} (h : DoAt base (.slice (some ⟨g, 0, none⟩) n cap) L c w W) {k : Nat} {x : Ent} (hx : L[k]? = some x) : W.cell? ⟨g, k * 5 + 1, none⟩ = some (.int .i64 x.k) := by
  obtain ⟨g2, e, h2⟩ := h.kind hx
  injection e with e
  injection e with e
  rw [e]
  exact h2
set_option maxRecDepth 100000 in
set_option maxHeartbeats 8000000 in
theorem do_rest {w : World} {base : Nat} {v : Value} {L : List Ent} (c : Chg) (hg : c.g = false) (h : RowE w base v L) (hbase : base ≤ w.heap.size) (hi : Inc L) (hs : ∀ x ∈ L, x.p.size < 4611686018427387904) (hp : c.p.size < 1152921504606846976) (hd : c.e.d.size < 1152921504606846976) (hk : c.e.l.size < 1152921504606846976) (hl : L.length < 1099511627776) (hpq : c.e.path = c.path) (h0 : itselfNo c.e = 0) :
    Calls Tryz.prog 51 #[v, chgV c] w (DoneR base L c w) := by
  have hst := DoAt.start (c := c) h hbase
  obtain ⟨w0, hw0⟩ : ∃ x, x = w.alloc (.cells (chgC c).toArray 54) := ⟨_, rfl⟩
  rw [← hw0] at hst
  have hf := dfind_any v L c.p w0 hst.row.ents hi hs (by omega) hl
  have hstep : ∀ W W', DoAt base v L c w W → Below W.heap.size W W' → DoAt base v L c w W' := fun W W' a b => a.step hbase b
  have hchg : #[Value.string c.p, Value.bool c.g, Value.string c.e.p, Value.int .i64 c.e.k, Value.int .i64 c.e.m, Value.string c.e.d, Value.string c.e.l] = (chgC c).toArray := rfl
  rw [hg] at hchg
  have hpe : c.e.p = c.p := ba_ext hpq
  obtain ⟨o, cap, rfl, hlc, hcm, hcells⟩ := h.ents
  obtain ⟨n, hn⟩ : ∃ n, n = L.length := ⟨_, rfl⟩
  rw [← hn] at hlc hl hf
  rw [← hn] at hst hstep ⊢
  obtain ⟨ln, hln⟩ : ∃ x, x = bs (lastName c.p.data.toList) := ⟨_, rfl⟩
  have hlast := fun W => last_any c.p W (by omega)
  rw [← hln] at hlast
  have hls : ln.size < 1152921504606846976 := by
    rw [hln, bs_size]
    have : (lastName c.p.data.toList).length ≤ c.p.data.toList.length := by unfold lastName; simp
    rw [← Lib.size_eq] at this
    omega
  have hpr : probeE c.e c.p = ⟨ln, c.e.k, c.e.m, c.e.d, c.e.l⟩ := by unfold probeE; rw [← hln]
  have hput := probe_put c.e c.p
  have hpno := probe_no hpq
  have hchk := fun W => check_any c.p W hp
  unfold probeNo at hpno
  rw [hpr] at hput hpno
  have hpa : ∀ (T rt rm B : Nat) (W : World), TreeAt W T rt rm B [] → Calls Tryz.prog 83 #[.pointer (some ⟨T, 0, none⟩), .agg #[.string ln, .int .i64 c.e.k, .int .i64 c.e.m, .string c.e.d, .string c.e.l]] W fun r W' => r = .returned (errV (itselfNo ⟨ln, c.e.k, c.e.m, c.e.d, c.e.l⟩)) ∧ Below B W W' := fun T rt rm B W hT =>
    (put_any ⟨ln, c.e.k, c.e.m, c.e.d, c.e.l⟩ W hT hls hk hd).mono fun r W' h => by
      obtain ⟨h1, nd', _, _, h4⟩ := h
      refine ⟨?_, h4.below hT⟩
      rw [h1, ← hput]
      rfl
  have hq0 : checkNo c.p.data.toList = 0 := by have := itselfNo_check h0; rw [hpq] at this; exact this
  have hz0 : itselfNo ⟨ln, c.e.k, c.e.m, c.e.d, c.e.l⟩ = 0 := by rw [if_neg (fun x => x.1 hq0)] at hpno; rw [hpno]; exact h0
  rw [hz0, show errV 0 = .nilIface from rfl] at hpa
  rw [hq0, show errV 0 = .nilIface from rfl] at hchk
  obtain ⟨up, hup⟩ : ∃ x, x = bs (parent c.p.data.toList) := ⟨_, rfl⟩
  have hpar := fun W => parent_any c.p W (by omega)
  rw [← hup] at hpar
  have hupl : up.data.toList = parent c.p.data.toList := by rw [hup]; rfl
  have hups : up.size < 4611686018427387904 := by
    rw [hup, bs_size]
    have : (parent c.p.data.toList).length ≤ c.p.data.toList.length := by unfold parent; simp; omega
    rw [← Lib.size_eq] at this
    omega
  have hf2 := fun W (hW : DoAt base (.slice o n cap) L c w W) => dfind_any (.slice o n cap) L up W hW.row.ents hi hs hups (by rw [← hn]; exact hl)
  have hlay1 : upNo L c.p.data.toList = 0 → hasL L c.p.data.toList = false → doneL L c = .ok (L.take (posL L c.p.data.toList) ++ c.e :: L.drop (posL L c.p.data.toList)) := fun hu => (done_lay hi hg hpq h0 hu).1
  have hlay2 : upNo L c.p.data.toList = 0 → ∀ x, hasL L c.p.data.toList = true → L[posL L c.p.data.toList]? = some x → doneL L c = if alike x c.e = true then .ok (L.set (posL L c.p.data.toList) c.e) else .error 14 := fun hu => (done_lay hi hg hpq h0 hu).2
  have hup0 : up.data.toList = [] → upNo L c.p.data.toList = 0 := fun h => by unfold upNo; rw [hupl] at h; rw [if_pos h]
  have hup1 : up.data.toList ≠ [] → upNo L c.p.data.toList = if hasL L up.data.toList = true then (match L[posL L up.data.toList]? with | some x => if x.k = 1 then 0 else 13 | none => 10) else 10 := fun h => by
    rw [hupl]
    rw [hupl] at h
    exact up_pos hi h
  have hupe : up.data.toList = [] → up = ⟨#[]⟩ := fun h => ba_ext h
  have herr : upNo L c.p.data.toList ≠ 0 → doneL L c = .error (upNo L c.p.data.toList) := fun h => done_up (L := L) hg hpq h0 h
  have hpl : posL L c.p.data.toList ≤ n := by rw [hn]; exact posL_le _ _
  have hps : hasL L c.p.data.toList = true → posL L c.p.data.toList < n := fun h => by rw [hn]; exact has_pos h
  have hps2 : hasL L up.data.toList = true → posL L up.data.toList < n := fun h => by rw [hn]; exact has_pos h
  have hbad := fun W (hW : DoAt base (.slice o n cap) L c w W) m (hm : doneL L c = .error m) => hW.bad (r := .returned (.tuple #[.slice none 0 0, errV m])) (n := m) hm rfl
  have hins := fun W (hW : DoAt base (.slice o n cap) L c w W) => insert_any (w := W.alloc (.cells #[.string c.e.p, .int .i64 c.e.k, .int .i64 c.e.m, .string c.e.d, .string c.e.l] 52)) (base := base) (q := W.heap.size) (i := posL L c.p.data.toList) (v := .slice o n cap) c.e (hW.row.alloc _) (by rw [World.size_alloc]; have := hW.size; omega) (fun e => by have := World.ownsRow.lt hW.row _ e; omega) (World.alloc_heap_new W _) (posL_le _ _) (by rw [← hn]; exact hl)
  have hget : ∀ k, k < n → ∃ x, L[k]? = some x := fun k hk => ⟨_, List.getElem?_eq_getElem (by rw [← hn]; exact hk)⟩
  clear hpno hq0 hz0
  generalize posL L up.data.toList = j at *
  generalize hasL L up.data.toList = s at *
  generalize upNo L c.p.data.toList = u at *
  generalize posL L c.p.data.toList = i at *
  generalize hasL L c.p.data.toList = t at *
  have Hw0 := Lib.hid hw0
  have Hst := Lib.hid hst
  have Hf := Lib.hid hf
  have Hstep := Lib.hid hstep
  have Hchg := Lib.hid hchg
  have HG := Lib.hid hg
  have Hpe := Lib.hid hpe
  have Hlast := Lib.hid hlast
  have Hpa := Lib.hid hpa
  have Hchk := Lib.hid hchk
  have Hn := Lib.hid hn
  unfold chgV
  rw [hg]
  have Hpar := Lib.hid hpar
  have Hf2 := Lib.hid hf2
  have Hlay1 := Lib.hid hlay1
  have Hlay2 := Lib.hid hlay2
  have Hup0 := Lib.hid hup0
  have Hup1 := Lib.hid hup1
  have Herr := Lib.hid herr
  have Hps := Lib.hid hps
  have Hps2 := Lib.hid hps2
  have Hbad := Lib.hid hbad
  have Hins := Lib.hid hins
  have Hupe := Lib.hid hupe
  have Hget := Lib.hid hget
  clear hn hw0 hst hf hstep hchg hcells h hi hs hg hpe hln hlast hpr hput hpa hchk hpq h0 hup hpar hupl hups hf2 hlay1 hlay2 hup0 hup1 herr hps hps2 hbad hins hupe hget
  by_cases he : up.data.toList = []
  · obtain rfl := Hupe.out he
    have hu : u = 0 := Hup0.out he
    clear he
    cases t with
    | false =>
      go_enter Tryz.func51, Tryz.ntmps51
      go_upto_region 1 with fail
      rw [Hchg.out, ← Hw0.out]
      have h00 := Hst.out.c0
      go_wp2_with (first
        | (go_at_call 79; refine Hf.out.mono ?_; rintro e w1 ⟨rfl, hb1⟩
           have H1 := Lib.hid (Hstep.out _ _ Hst.out hb1)
           have h10 := H1.out.c0
           have h11 := H1.out.c1
           rw [HG.out] at h11
           have h12 := H1.out.c2
           rw [Hpe.out] at h12
           have h20 := (show ((w1.alloc (.cells #[.string c.e.p, .int .i64 c.e.k, .int .i64 c.e.m, .string c.e.d, .string c.e.l] 52)).cell? ⟨w.heap.size, 0, none⟩ = some (.string c.p)) from (Hstep.out _ _ H1.out ((Below.refl _ _).alloc (Nat.le_refl _) _)).c0)
           clear hb1 h00)
        | (refine wpList_load_mid rfl _ _ rfl w.heap.size 2 rfl [.string c.e.p, .int .i64 c.e.k, .int .i64 c.e.m, .string c.e.d, .string c.e.l] _ H1.out.r2 Tryz.underlying52 rfl (by kernel_rfl) ?_)
        | (go_at_call 81; refine (Hlast.out _).mono ?_; rintro e w2 ⟨rfl, rfl⟩))
      obtain ⟨w3, hw3⟩ : ∃ x, x = w1.alloc (.cells #[.string ln, .int .i64 c.e.k, .int .i64 c.e.m, .string c.e.d, .string c.e.l] 52) := ⟨_, rfl⟩
      have hb3 : w3.heap[w1.heap.size]? = some (.cells #[.string ln, .int .i64 c.e.k, .int .i64 c.e.m, .string c.e.d, .string c.e.l] 52 (0, 0)) := by rw [hw3]; exact World.alloc_heap_new w1 _
      have H3 := Lib.hid (Hstep.out _ _ H1.out (show Below w1.heap.size w1 w3 by rw [hw3]; exact (Below.refl _ _).alloc (Nat.le_refl _) _))
      have hab : w1.heap.size < w3.heap.size := by rw [hw3]; simp
      rw [← hw3]
      clear hw3 h10 h11 h12 h20 H1
      generalize w1.heap.size = ab at *
      have hS : ∀ W, Below w3.heap.size w3 W → W.cell? ⟨ab, 0, none⟩ = some (.string ln) ∧ W.cell? ⟨ab, 1, none⟩ = some (.int .i64 c.e.k) ∧ W.cell? ⟨ab, 2, none⟩ = some (.int .i64 c.e.m) ∧ W.cell? ⟨ab, 3, none⟩ = some (.string c.e.d) ∧ W.cell? ⟨ab, 4, none⟩ = some (.string c.e.l) := fun W hW => by
        have hb := (hW.block ab hab).trans hb3
        exact ⟨block_cell (j := 0) hb rfl, block_cell (j := 1) hb rfl, block_cell (j := 2) hb rfl, block_cell (j := 3) hb rfl, block_cell (j := 4) hb rfl⟩
      have hsd := hS w3.drew (below_drew (Below.refl _ _))
      have HS := Lib.hid hS
      clear hS hb3
      go_region_held3 (fun W => W.cell? ⟨ab, 0, none⟩ = some (.string ln) ∧ W.cell? ⟨ab, 1, none⟩ = some (.int .i64 c.e.k) ∧ W.cell? ⟨ab, 2, none⟩ = some (.int .i64 c.e.m) ∧ W.cell? ⟨ab, 3, none⟩ = some (.string c.e.d) ∧ W.cell? ⟨ab, 4, none⟩ = some (.string c.e.l)) (first | assumption | go_keep)
        (first
        | (go_at_call 82; refine (new_any _).mono ?_; rintro r w4 ⟨rfl, ht4, hb4⟩
           have hs4 := HS.out w4 (below_drew (Below.refl _ _) |>.trans hb4)
           have HT4 := Lib.hid ht4
           have HB4 := Lib.hid hb4
           clear ht4 hb4 hsd)
        | (go_at_call 83; refine (Hpa.out _ _ _ _ _ HT4.out).mono ?_; rintro r w5 ⟨rfl, hb5⟩
           have H5 := Lib.hid (Hstep.out _ _ H3.out ((below_drew (Below.refl _ _)).trans (HB4.out.trans hb5)))
           have h50 := H5.out.c0
           have hs5 := HS.out w5 ((below_drew (Below.refl _ _)).trans (HB4.out.trans hb5))
           clear hb5 HB4 HT4 hs4))
      go_wp2_with (first
        | (go_at_call 84; refine (Hchk.out w5).mono ?_; rintro r w6 ⟨rfl, hb6⟩
           have H6 := Lib.hid (Hstep.out _ _ H5.out hb6)
           have h60 := H6.out.c0
           clear hb6)
        | (go_at_call 85; refine (Hpar.out _).mono ?_; rintro r w7 ⟨rfl, rfl⟩)
        | (refine wpList_load_mid rfl _ _ rfl w.heap.size 2 rfl [.string c.e.p, .int .i64 c.e.k, .int .i64 c.e.m, .string c.e.d, .string c.e.l] _ H6.out.r2 Tryz.underlying52 rfl (by kernel_rfl) ?_)
        | (go_at_call 86; refine (Hins.out w6 H6.out).mono ?_; rintro r w9 ⟨v', rfl, hr9, hb9⟩
           have R9 := Lib.hid hr9
           have B9 := Lib.hid hb9
           clear hr9 hb9))
      go_ret2
      exact DoneR.good (Hlay1.out (by assumption) trivial) ((H6.out.below.alloc (Nat.le_of_lt (Nat.lt_of_le_of_lt hbase H6.out.size)) _).trans B9.out) rfl R9.out
    | true =>
      obtain ⟨x, hx⟩ := Hget.out i (Hps.out rfl)
      have Hx := Lib.hid hx
      have hin := Hps.out rfl
      obtain ⟨g, rfl, hk0⟩ := Hst.out.kind hx
      clear hk0 hx
      go_enter Tryz.func51, Tryz.ntmps51
      go_upto_region 1 with fail
      rw [Hchg.out, ← Hw0.out]
      have h00 := Hst.out.c0
      go_wp2_with (first
        | (go_at_call 79; refine Hf.out.mono ?_; rintro e w1 ⟨rfl, hb1⟩
           have H1 := Lib.hid (Hstep.out _ _ Hst.out hb1)
           have h10 := H1.out.c0
           have h11 := H1.out.c1
           rw [HG.out] at h11
           have h12 := H1.out.c2
           rw [Hpe.out] at h12
           have h20 := (show ((w1.alloc (.cells #[.string c.e.p, .int .i64 c.e.k, .int .i64 c.e.m, .string c.e.d, .string c.e.l] 52)).cell? ⟨w.heap.size, 0, none⟩ = some (.string c.p)) from (Hstep.out _ _ H1.out ((Below.refl _ _).alloc (Nat.le_refl _) _)).c0)
           clear hb1 h00)
        | (refine wpList_load_mid rfl _ _ rfl w.heap.size 2 rfl [.string c.e.p, .int .i64 c.e.k, .int .i64 c.e.m, .string c.e.d, .string c.e.l] _ H1.out.r2 Tryz.underlying52 rfl (by kernel_rfl) ?_)
        | (go_at_call 81; refine (Hlast.out _).mono ?_; rintro e w2 ⟨rfl, rfl⟩))
      obtain ⟨w3, hw3⟩ : ∃ x, x = w1.alloc (.cells #[.string ln, .int .i64 c.e.k, .int .i64 c.e.m, .string c.e.d, .string c.e.l] 52) := ⟨_, rfl⟩
      have hb3 : w3.heap[w1.heap.size]? = some (.cells #[.string ln, .int .i64 c.e.k, .int .i64 c.e.m, .string c.e.d, .string c.e.l] 52 (0, 0)) := by rw [hw3]; exact World.alloc_heap_new w1 _
      have H3 := Lib.hid (Hstep.out _ _ H1.out (show Below w1.heap.size w1 w3 by rw [hw3]; exact (Below.refl _ _).alloc (Nat.le_refl _) _))
      have hab : w1.heap.size < w3.heap.size := by rw [hw3]; simp
      rw [← hw3]
      clear hw3 h10 h11 h12 h20 H1
      generalize w1.heap.size = ab at *
      have hS : ∀ W, Below w3.heap.size w3 W → W.cell? ⟨ab, 0, none⟩ = some (.string ln) ∧ W.cell? ⟨ab, 1, none⟩ = some (.int .i64 c.e.k) ∧ W.cell? ⟨ab, 2, none⟩ = some (.int .i64 c.e.m) ∧ W.cell? ⟨ab, 3, none⟩ = some (.string c.e.d) ∧ W.cell? ⟨ab, 4, none⟩ = some (.string c.e.l) := fun W hW => by
        have hb := (hW.block ab hab).trans hb3
        exact ⟨block_cell (j := 0) hb rfl, block_cell (j := 1) hb rfl, block_cell (j := 2) hb rfl, block_cell (j := 3) hb rfl, block_cell (j := 4) hb rfl⟩
      have hsd := hS w3.drew (below_drew (Below.refl _ _))
      have HS := Lib.hid hS
      clear hS hb3
      go_region_held3 (fun W => W.cell? ⟨ab, 0, none⟩ = some (.string ln) ∧ W.cell? ⟨ab, 1, none⟩ = some (.int .i64 c.e.k) ∧ W.cell? ⟨ab, 2, none⟩ = some (.int .i64 c.e.m) ∧ W.cell? ⟨ab, 3, none⟩ = some (.string c.e.d) ∧ W.cell? ⟨ab, 4, none⟩ = some (.string c.e.l)) (first | assumption | go_keep)
        (first
        | (go_at_call 82; refine (new_any _).mono ?_; rintro r w4 ⟨rfl, ht4, hb4⟩
           have hs4 := HS.out w4 (below_drew (Below.refl _ _) |>.trans hb4)
           have HT4 := Lib.hid ht4
           have HB4 := Lib.hid hb4
           clear ht4 hb4 hsd)
        | (go_at_call 83; refine (Hpa.out _ _ _ _ _ HT4.out).mono ?_; rintro r w5 ⟨rfl, hb5⟩
           have H5 := Lib.hid (Hstep.out _ _ H3.out ((below_drew (Below.refl _ _)).trans (HB4.out.trans hb5)))
           have h50 := H5.out.c0
           have hs5 := HS.out w5 ((below_drew (Below.refl _ _)).trans (HB4.out.trans hb5))
           clear hb5 HB4 HT4 hs4))
      obtain ⟨bx, hbx⟩ : ∃ b, (x.k == 1) = b := ⟨_, rfl⟩
      obtain ⟨bc, hbc⟩ : ∃ b, (c.e.k == 1) = b := ⟨_, rfl⟩
      have hal : alike x c.e = (bx == bc) := by
        have hb : ∀ z : Int, (z == 1) = decide (z = 1) := fun z => by by_cases h : z = 1 <;> simp [h]
        rw [← hbx, ← hbc, hb, hb]
        rfl
      have Hal := Lib.hid hal
      clear hal
      cases bx
      · cases bc
        · have hr := Hlay2.out (by assumption) x (by first | rfl | trivial) Hx.out
          rw [Hal.out] at hr
          have HR := Lib.hid (hr.trans (if_pos rfl))
          clear hr
          go_wp2_with (first
            | (go_at_call 84; refine (Hchk.out w5).mono ?_; rintro r w6 ⟨rfl, hb6⟩
               have H6 := Lib.hid (Hstep.out _ _ H5.out hb6)
               have h60 := H6.out.c0
               clear hb6)
            | (go_at_call 85; refine (Hpar.out _).mono ?_; rintro r w7 ⟨rfl, rfl⟩))
          refine gregion_named (by kernel_rfl) (by kernel_rfl) ?_
          intro wz hz
          have HQ := Lib.hid (Hstep.out _ _ H6.out (show Below w6.heap.size w6 wz by rw [hz]; exact below_drew (Below.refl _ _)))
          have hq1 := HQ.out.kindg Hx.out
          have hq3 := HQ.out.c3
          have ST := Lib.hid (rowE_set (w := wz) HQ.out.row Hn.out (by rw [← Hn.out]; exact hin) c.e)
          clear hz
          iterate 11 still_step
          refine wpStill_nil ?_
          go_wp2_with (first
            | (refine wpList_load_mid rfl _ _ rfl w.heap.size 2 rfl [.string c.e.p, .int .i64 c.e.k, .int .i64 c.e.m, .string c.e.d, .string c.e.l] _ HQ.out.r2 Tryz.underlying52 rfl (by kernel_rfl) ?_)
            | (refine wpList_store_mid rfl _ _ _ rfl g (i * 5) #[.string c.e.p, .int .i64 c.e.k, .int .i64 c.e.m, .string c.e.d, .string c.e.l] rfl rfl ST.out.2.1 (by kernel_rfl) (by simp [Value.oneCell']) ?_))
          go_ret2
          exact DoneR.good HR.out (HQ.out.below.trans ST.out.2.2) rfl ST.out.1
        · have hr := Hlay2.out (by assumption) x (by first | rfl | trivial) Hx.out
          rw [Hal.out] at hr
          have HR := Lib.hid (hr.trans (if_neg (by decide)))
          clear hr
          go_wp2_with (first
            | (go_at_call 84; refine (Hchk.out w5).mono ?_; rintro r w6 ⟨rfl, hb6⟩
               have H6 := Lib.hid (Hstep.out _ _ H5.out hb6)
               have h60 := H6.out.c0
               clear hb6)
            | (go_at_call 85; refine (Hpar.out _).mono ?_; rintro r w7 ⟨rfl, rfl⟩))
          refine gregion_named (by kernel_rfl) (by kernel_rfl) ?_
          intro wz hz
          have HQ := Lib.hid (Hstep.out _ _ H6.out (show Below w6.heap.size w6 wz by rw [hz]; exact below_drew (Below.refl _ _)))
          have hq1 := HQ.out.kindg Hx.out
          have hq3 := HQ.out.c3
          have ST := Lib.hid (rowE_set (w := wz) HQ.out.row Hn.out (by rw [← Hn.out]; exact hin) c.e)
          clear hz
          iterate 11 still_step
          refine wpStill_nil ?_
          go_wp2
          go_ret2
          exact Hbad.out _ HQ.out 14 HR.out
      · cases bc
        · have hr := Hlay2.out (by assumption) x (by first | rfl | trivial) Hx.out
          rw [Hal.out] at hr
          have HR := Lib.hid (hr.trans (if_neg (by decide)))
          clear hr
          go_wp2_with (first
            | (go_at_call 84; refine (Hchk.out w5).mono ?_; rintro r w6 ⟨rfl, hb6⟩
               have H6 := Lib.hid (Hstep.out _ _ H5.out hb6)
               have h60 := H6.out.c0
               clear hb6)
            | (go_at_call 85; refine (Hpar.out _).mono ?_; rintro r w7 ⟨rfl, rfl⟩))
          refine gregion_named (by kernel_rfl) (by kernel_rfl) ?_
          intro wz hz
          have HQ := Lib.hid (Hstep.out _ _ H6.out (show Below w6.heap.size w6 wz by rw [hz]; exact below_drew (Below.refl _ _)))
          have hq1 := HQ.out.kindg Hx.out
          have hq3 := HQ.out.c3
          have ST := Lib.hid (rowE_set (w := wz) HQ.out.row Hn.out (by rw [← Hn.out]; exact hin) c.e)
          clear hz
          iterate 11 still_step
          refine wpStill_nil ?_
          go_wp2
          go_ret2
          exact Hbad.out _ HQ.out 14 HR.out
        · have hr := Hlay2.out (by assumption) x (by first | rfl | trivial) Hx.out
          rw [Hal.out] at hr
          have HR := Lib.hid (hr.trans (if_pos rfl))
          clear hr
          go_wp2_with (first
            | (go_at_call 84; refine (Hchk.out w5).mono ?_; rintro r w6 ⟨rfl, hb6⟩
               have H6 := Lib.hid (Hstep.out _ _ H5.out hb6)
               have h60 := H6.out.c0
               clear hb6)
            | (go_at_call 85; refine (Hpar.out _).mono ?_; rintro r w7 ⟨rfl, rfl⟩))
          refine gregion_named (by kernel_rfl) (by kernel_rfl) ?_
          intro wz hz
          have HQ := Lib.hid (Hstep.out _ _ H6.out (show Below w6.heap.size w6 wz by rw [hz]; exact below_drew (Below.refl _ _)))
          have hq1 := HQ.out.kindg Hx.out
          have hq3 := HQ.out.c3
          have ST := Lib.hid (rowE_set (w := wz) HQ.out.row Hn.out (by rw [← Hn.out]; exact hin) c.e)
          clear hz
          iterate 11 still_step
          refine wpStill_nil ?_
          go_wp2_with (first
            | (refine wpList_load_mid rfl _ _ rfl w.heap.size 2 rfl [.string c.e.p, .int .i64 c.e.k, .int .i64 c.e.m, .string c.e.d, .string c.e.l] _ HQ.out.r2 Tryz.underlying52 rfl (by kernel_rfl) ?_)
            | (refine wpList_store_mid rfl _ _ _ rfl g (i * 5) #[.string c.e.p, .int .i64 c.e.k, .int .i64 c.e.m, .string c.e.d, .string c.e.l] rfl rfl ST.out.2.1 (by kernel_rfl) (by simp [Value.oneCell']) ?_))
          go_ret2
          exact DoneR.good HR.out (HQ.out.below.trans ST.out.2.2) rfl ST.out.1
  · have b0 := emptyB_f he
    have hu := Hup1.out he
    clear he
    cases s with
    | false =>
      rw [if_neg (by decide)] at hu
      subst hu
      have HR := Lib.hid (Herr.out (by decide))
      go_enter Tryz.func51, Tryz.ntmps51
      go_upto_region 1 with fail
      rw [Hchg.out, ← Hw0.out]
      have h00 := Hst.out.c0
      go_wp2_with (first
        | (go_at_call 79; refine Hf.out.mono ?_; rintro e w1 ⟨rfl, hb1⟩
           have H1 := Lib.hid (Hstep.out _ _ Hst.out hb1)
           have h10 := H1.out.c0
           have h11 := H1.out.c1
           rw [HG.out] at h11
           have h12 := H1.out.c2
           rw [Hpe.out] at h12
           have h20 := (show ((w1.alloc (.cells #[.string c.e.p, .int .i64 c.e.k, .int .i64 c.e.m, .string c.e.d, .string c.e.l] 52)).cell? ⟨w.heap.size, 0, none⟩ = some (.string c.p)) from (Hstep.out _ _ H1.out ((Below.refl _ _).alloc (Nat.le_refl _) _)).c0)
           clear hb1 h00)
        | (refine wpList_load_mid rfl _ _ rfl w.heap.size 2 rfl [.string c.e.p, .int .i64 c.e.k, .int .i64 c.e.m, .string c.e.d, .string c.e.l] _ H1.out.r2 Tryz.underlying52 rfl (by kernel_rfl) ?_)
        | (go_at_call 81; refine (Hlast.out _).mono ?_; rintro e w2 ⟨rfl, rfl⟩))
      obtain ⟨w3, hw3⟩ : ∃ x, x = w1.alloc (.cells #[.string ln, .int .i64 c.e.k, .int .i64 c.e.m, .string c.e.d, .string c.e.l] 52) := ⟨_, rfl⟩
      have hb3 : w3.heap[w1.heap.size]? = some (.cells #[.string ln, .int .i64 c.e.k, .int .i64 c.e.m, .string c.e.d, .string c.e.l] 52 (0, 0)) := by rw [hw3]; exact World.alloc_heap_new w1 _
      have H3 := Lib.hid (Hstep.out _ _ H1.out (show Below w1.heap.size w1 w3 by rw [hw3]; exact (Below.refl _ _).alloc (Nat.le_refl _) _))
      have hab : w1.heap.size < w3.heap.size := by rw [hw3]; simp
      rw [← hw3]
      clear hw3 h10 h11 h12 h20 H1
      generalize w1.heap.size = ab at *
      have hS : ∀ W, Below w3.heap.size w3 W → W.cell? ⟨ab, 0, none⟩ = some (.string ln) ∧ W.cell? ⟨ab, 1, none⟩ = some (.int .i64 c.e.k) ∧ W.cell? ⟨ab, 2, none⟩ = some (.int .i64 c.e.m) ∧ W.cell? ⟨ab, 3, none⟩ = some (.string c.e.d) ∧ W.cell? ⟨ab, 4, none⟩ = some (.string c.e.l) := fun W hW => by
        have hb := (hW.block ab hab).trans hb3
        exact ⟨block_cell (j := 0) hb rfl, block_cell (j := 1) hb rfl, block_cell (j := 2) hb rfl, block_cell (j := 3) hb rfl, block_cell (j := 4) hb rfl⟩
      have hsd := hS w3.drew (below_drew (Below.refl _ _))
      have HS := Lib.hid hS
      clear hS hb3
      go_region_held3 (fun W => W.cell? ⟨ab, 0, none⟩ = some (.string ln) ∧ W.cell? ⟨ab, 1, none⟩ = some (.int .i64 c.e.k) ∧ W.cell? ⟨ab, 2, none⟩ = some (.int .i64 c.e.m) ∧ W.cell? ⟨ab, 3, none⟩ = some (.string c.e.d) ∧ W.cell? ⟨ab, 4, none⟩ = some (.string c.e.l)) (first | assumption | go_keep)
        (first
        | (go_at_call 82; refine (new_any _).mono ?_; rintro r w4 ⟨rfl, ht4, hb4⟩
           have hs4 := HS.out w4 (below_drew (Below.refl _ _) |>.trans hb4)
           have HT4 := Lib.hid ht4
           have HB4 := Lib.hid hb4
           clear ht4 hb4 hsd)
        | (go_at_call 83; refine (Hpa.out _ _ _ _ _ HT4.out).mono ?_; rintro r w5 ⟨rfl, hb5⟩
           have H5 := Lib.hid (Hstep.out _ _ H3.out ((below_drew (Below.refl _ _)).trans (HB4.out.trans hb5)))
           have h50 := H5.out.c0
           have hs5 := HS.out w5 ((below_drew (Below.refl _ _)).trans (HB4.out.trans hb5))
           clear hb5 HB4 HT4 hs4))
      go_wp2_with (first
        | (go_at_call 84; refine (Hchk.out w5).mono ?_; rintro r w6 ⟨rfl, hb6⟩
           have H6 := Lib.hid (Hstep.out _ _ H5.out hb6)
           have h60 := H6.out.c0
           clear hb6)
        | (go_at_call 85; refine (Hpar.out _).mono ?_; rintro r w7 ⟨rfl, rfl⟩)
        | (go_at_call 79; refine (Hf2.out w6 H6.out).mono ?_; rintro r w8 ⟨rfl, hb8⟩
           have H8 := Lib.hid (Hstep.out _ _ H6.out hb8)
           clear hb8))
      go_ret2
      exact Hbad.out _ H8.out 10 HR.out
    | true =>
      obtain ⟨y, hy⟩ := Hget.out j (Hps2.out rfl)
      have Hy := Lib.hid hy
      have hjn := Hps2.out rfl
      rw [if_pos rfl, hy] at hu
      obtain ⟨g, rfl, hk0⟩ := Hst.out.kind hy
      clear hk0 hy
      by_cases hyk : y.k = 1
      · have hyb : (y.k == 1) = true := by simp [hyk]
        simp only [hyk, if_pos] at hu
        cases t with
        | false =>
          go_enter Tryz.func51, Tryz.ntmps51
          go_upto_region 1 with fail
          rw [Hchg.out, ← Hw0.out]
          have h00 := Hst.out.c0
          go_wp2_with (first
            | (go_at_call 79; refine Hf.out.mono ?_; rintro e w1 ⟨rfl, hb1⟩
               have H1 := Lib.hid (Hstep.out _ _ Hst.out hb1)
               have h10 := H1.out.c0
               have h11 := H1.out.c1
               rw [HG.out] at h11
               have h12 := H1.out.c2
               rw [Hpe.out] at h12
               have h20 := (show ((w1.alloc (.cells #[.string c.e.p, .int .i64 c.e.k, .int .i64 c.e.m, .string c.e.d, .string c.e.l] 52)).cell? ⟨w.heap.size, 0, none⟩ = some (.string c.p)) from (Hstep.out _ _ H1.out ((Below.refl _ _).alloc (Nat.le_refl _) _)).c0)
               clear hb1 h00)
            | (refine wpList_load_mid rfl _ _ rfl w.heap.size 2 rfl [.string c.e.p, .int .i64 c.e.k, .int .i64 c.e.m, .string c.e.d, .string c.e.l] _ H1.out.r2 Tryz.underlying52 rfl (by kernel_rfl) ?_)
            | (go_at_call 81; refine (Hlast.out _).mono ?_; rintro e w2 ⟨rfl, rfl⟩))
          obtain ⟨w3, hw3⟩ : ∃ x, x = w1.alloc (.cells #[.string ln, .int .i64 c.e.k, .int .i64 c.e.m, .string c.e.d, .string c.e.l] 52) := ⟨_, rfl⟩
          have hb3 : w3.heap[w1.heap.size]? = some (.cells #[.string ln, .int .i64 c.e.k, .int .i64 c.e.m, .string c.e.d, .string c.e.l] 52 (0, 0)) := by rw [hw3]; exact World.alloc_heap_new w1 _
          have H3 := Lib.hid (Hstep.out _ _ H1.out (show Below w1.heap.size w1 w3 by rw [hw3]; exact (Below.refl _ _).alloc (Nat.le_refl _) _))
          have hab : w1.heap.size < w3.heap.size := by rw [hw3]; simp
          rw [← hw3]
          clear hw3 h10 h11 h12 h20 H1
          generalize w1.heap.size = ab at *
          have hS : ∀ W, Below w3.heap.size w3 W → W.cell? ⟨ab, 0, none⟩ = some (.string ln) ∧ W.cell? ⟨ab, 1, none⟩ = some (.int .i64 c.e.k) ∧ W.cell? ⟨ab, 2, none⟩ = some (.int .i64 c.e.m) ∧ W.cell? ⟨ab, 3, none⟩ = some (.string c.e.d) ∧ W.cell? ⟨ab, 4, none⟩ = some (.string c.e.l) := fun W hW => by
            have hb := (hW.block ab hab).trans hb3
            exact ⟨block_cell (j := 0) hb rfl, block_cell (j := 1) hb rfl, block_cell (j := 2) hb rfl, block_cell (j := 3) hb rfl, block_cell (j := 4) hb rfl⟩
          have hsd := hS w3.drew (below_drew (Below.refl _ _))
          have HS := Lib.hid hS
          clear hS hb3
          go_region_held3 (fun W => W.cell? ⟨ab, 0, none⟩ = some (.string ln) ∧ W.cell? ⟨ab, 1, none⟩ = some (.int .i64 c.e.k) ∧ W.cell? ⟨ab, 2, none⟩ = some (.int .i64 c.e.m) ∧ W.cell? ⟨ab, 3, none⟩ = some (.string c.e.d) ∧ W.cell? ⟨ab, 4, none⟩ = some (.string c.e.l)) (first | assumption | go_keep)
            (first
            | (go_at_call 82; refine (new_any _).mono ?_; rintro r w4 ⟨rfl, ht4, hb4⟩
               have hs4 := HS.out w4 (below_drew (Below.refl _ _) |>.trans hb4)
               have HT4 := Lib.hid ht4
               have HB4 := Lib.hid hb4
               clear ht4 hb4 hsd)
            | (go_at_call 83; refine (Hpa.out _ _ _ _ _ HT4.out).mono ?_; rintro r w5 ⟨rfl, hb5⟩
               have H5 := Lib.hid (Hstep.out _ _ H3.out ((below_drew (Below.refl _ _)).trans (HB4.out.trans hb5)))
               have h50 := H5.out.c0
               have hs5 := HS.out w5 ((below_drew (Below.refl _ _)).trans (HB4.out.trans hb5))
               clear hb5 HB4 HT4 hs4))
          go_wp2_with (first
            | (go_at_call 84; refine (Hchk.out w5).mono ?_; rintro r w6 ⟨rfl, hb6⟩
               have H6 := Lib.hid (Hstep.out _ _ H5.out hb6)
               have h60 := H6.out.c0
               clear hb6)
            | (go_at_call 85; refine (Hpar.out _).mono ?_; rintro r w7 ⟨rfl, rfl⟩)
            | (go_at_call 79; refine (Hf2.out w6 H6.out).mono ?_; rintro r w8 ⟨rfl, hb8⟩
               have H8 := Lib.hid (Hstep.out _ _ H6.out hb8)
               have h8k := H8.out.kindg Hy.out
               clear hb8)
            | (refine wpList_load_mid rfl _ _ rfl w.heap.size 2 rfl [.string c.e.p, .int .i64 c.e.k, .int .i64 c.e.m, .string c.e.d, .string c.e.l] _ H8.out.r2 Tryz.underlying52 rfl (by kernel_rfl) ?_)
            | (go_at_call 86; refine (Hins.out w8 H8.out).mono ?_; rintro r w9 ⟨v', rfl, hr9, hb9⟩
               have R9 := Lib.hid hr9
               have B9 := Lib.hid hb9
               clear hr9 hb9))
          go_ret2
          exact DoneR.good (Hlay1.out (by assumption) trivial) ((H8.out.below.alloc (Nat.le_of_lt (Nat.lt_of_le_of_lt hbase H8.out.size)) _).trans B9.out) rfl R9.out
        | true =>
          obtain ⟨x, hx⟩ := Hget.out i (Hps.out rfl)
          have Hx := Lib.hid hx
          have hin := Hps.out rfl
          clear hx
          go_enter Tryz.func51, Tryz.ntmps51
          go_upto_region 1 with fail
          rw [Hchg.out, ← Hw0.out]
          have h00 := Hst.out.c0
          go_wp2_with (first
            | (go_at_call 79; refine Hf.out.mono ?_; rintro e w1 ⟨rfl, hb1⟩
               have H1 := Lib.hid (Hstep.out _ _ Hst.out hb1)
               have h10 := H1.out.c0
               have h11 := H1.out.c1
               rw [HG.out] at h11
               have h12 := H1.out.c2
               rw [Hpe.out] at h12
               have h20 := (show ((w1.alloc (.cells #[.string c.e.p, .int .i64 c.e.k, .int .i64 c.e.m, .string c.e.d, .string c.e.l] 52)).cell? ⟨w.heap.size, 0, none⟩ = some (.string c.p)) from (Hstep.out _ _ H1.out ((Below.refl _ _).alloc (Nat.le_refl _) _)).c0)
               clear hb1 h00)
            | (refine wpList_load_mid rfl _ _ rfl w.heap.size 2 rfl [.string c.e.p, .int .i64 c.e.k, .int .i64 c.e.m, .string c.e.d, .string c.e.l] _ H1.out.r2 Tryz.underlying52 rfl (by kernel_rfl) ?_)
            | (go_at_call 81; refine (Hlast.out _).mono ?_; rintro e w2 ⟨rfl, rfl⟩))
          obtain ⟨w3, hw3⟩ : ∃ x, x = w1.alloc (.cells #[.string ln, .int .i64 c.e.k, .int .i64 c.e.m, .string c.e.d, .string c.e.l] 52) := ⟨_, rfl⟩
          have hb3 : w3.heap[w1.heap.size]? = some (.cells #[.string ln, .int .i64 c.e.k, .int .i64 c.e.m, .string c.e.d, .string c.e.l] 52 (0, 0)) := by rw [hw3]; exact World.alloc_heap_new w1 _
          have H3 := Lib.hid (Hstep.out _ _ H1.out (show Below w1.heap.size w1 w3 by rw [hw3]; exact (Below.refl _ _).alloc (Nat.le_refl _) _))
          have hab : w1.heap.size < w3.heap.size := by rw [hw3]; simp
          rw [← hw3]
          clear hw3 h10 h11 h12 h20 H1
          generalize w1.heap.size = ab at *
          have hS : ∀ W, Below w3.heap.size w3 W → W.cell? ⟨ab, 0, none⟩ = some (.string ln) ∧ W.cell? ⟨ab, 1, none⟩ = some (.int .i64 c.e.k) ∧ W.cell? ⟨ab, 2, none⟩ = some (.int .i64 c.e.m) ∧ W.cell? ⟨ab, 3, none⟩ = some (.string c.e.d) ∧ W.cell? ⟨ab, 4, none⟩ = some (.string c.e.l) := fun W hW => by
            have hb := (hW.block ab hab).trans hb3
            exact ⟨block_cell (j := 0) hb rfl, block_cell (j := 1) hb rfl, block_cell (j := 2) hb rfl, block_cell (j := 3) hb rfl, block_cell (j := 4) hb rfl⟩
          have hsd := hS w3.drew (below_drew (Below.refl _ _))
          have HS := Lib.hid hS
          clear hS hb3
          go_region_held3 (fun W => W.cell? ⟨ab, 0, none⟩ = some (.string ln) ∧ W.cell? ⟨ab, 1, none⟩ = some (.int .i64 c.e.k) ∧ W.cell? ⟨ab, 2, none⟩ = some (.int .i64 c.e.m) ∧ W.cell? ⟨ab, 3, none⟩ = some (.string c.e.d) ∧ W.cell? ⟨ab, 4, none⟩ = some (.string c.e.l)) (first | assumption | go_keep)
            (first
            | (go_at_call 82; refine (new_any _).mono ?_; rintro r w4 ⟨rfl, ht4, hb4⟩
               have hs4 := HS.out w4 (below_drew (Below.refl _ _) |>.trans hb4)
               have HT4 := Lib.hid ht4
               have HB4 := Lib.hid hb4
               clear ht4 hb4 hsd)
            | (go_at_call 83; refine (Hpa.out _ _ _ _ _ HT4.out).mono ?_; rintro r w5 ⟨rfl, hb5⟩
               have H5 := Lib.hid (Hstep.out _ _ H3.out ((below_drew (Below.refl _ _)).trans (HB4.out.trans hb5)))
               have h50 := H5.out.c0
               have hs5 := HS.out w5 ((below_drew (Below.refl _ _)).trans (HB4.out.trans hb5))
               clear hb5 HB4 HT4 hs4))
          obtain ⟨bx, hbx⟩ : ∃ b, (x.k == 1) = b := ⟨_, rfl⟩
          obtain ⟨bc, hbc⟩ : ∃ b, (c.e.k == 1) = b := ⟨_, rfl⟩
          have hal : alike x c.e = (bx == bc) := by
            have hb : ∀ z : Int, (z == 1) = decide (z = 1) := fun z => by by_cases h : z = 1 <;> simp [h]
            rw [← hbx, ← hbc, hb, hb]
            rfl
          have Hal := Lib.hid hal
          clear hal
          cases bx
          · cases bc
            · have hr := Hlay2.out (by assumption) x (by first | rfl | trivial) Hx.out
              rw [Hal.out] at hr
              have HR := Lib.hid (hr.trans (if_pos rfl))
              clear hr
              go_wp2_with (first
                | (go_at_call 84; refine (Hchk.out w5).mono ?_; rintro r w6 ⟨rfl, hb6⟩
                   have H6 := Lib.hid (Hstep.out _ _ H5.out hb6)
                   have h60 := H6.out.c0
                   clear hb6)
                | (go_at_call 85; refine (Hpar.out _).mono ?_; rintro r w7 ⟨rfl, rfl⟩)
                | (go_at_call 79; refine (Hf2.out w6 H6.out).mono ?_; rintro r w8 ⟨rfl, hb8⟩
                   have H8 := Lib.hid (Hstep.out _ _ H6.out hb8)
                   have h8k := H8.out.kindg Hy.out
                   clear hb8))
              refine gregion_named (by kernel_rfl) (by kernel_rfl) ?_
              intro wz hz
              have HQ := Lib.hid (Hstep.out _ _ H8.out (show Below w8.heap.size w8 wz by rw [hz]; exact below_drew (Below.refl _ _)))
              have hq1 := HQ.out.kindg Hx.out
              have hq3 := HQ.out.c3
              have ST := Lib.hid (rowE_set (w := wz) HQ.out.row Hn.out (by rw [← Hn.out]; exact hin) c.e)
              clear hz
              iterate 11 still_step
              refine wpStill_nil ?_
              go_wp2_with (first
                | (refine wpList_load_mid rfl _ _ rfl w.heap.size 2 rfl [.string c.e.p, .int .i64 c.e.k, .int .i64 c.e.m, .string c.e.d, .string c.e.l] _ HQ.out.r2 Tryz.underlying52 rfl (by kernel_rfl) ?_)
                | (refine wpList_store_mid rfl _ _ _ rfl g (i * 5) #[.string c.e.p, .int .i64 c.e.k, .int .i64 c.e.m, .string c.e.d, .string c.e.l] rfl rfl ST.out.2.1 (by kernel_rfl) (by simp [Value.oneCell']) ?_))
              go_ret2
              exact DoneR.good HR.out (HQ.out.below.trans ST.out.2.2) rfl ST.out.1
            · have hr := Hlay2.out (by assumption) x (by first | rfl | trivial) Hx.out
              rw [Hal.out] at hr
              have HR := Lib.hid (hr.trans (if_neg (by decide)))
              clear hr
              go_wp2_with (first
                | (go_at_call 84; refine (Hchk.out w5).mono ?_; rintro r w6 ⟨rfl, hb6⟩
                   have H6 := Lib.hid (Hstep.out _ _ H5.out hb6)
                   have h60 := H6.out.c0
                   clear hb6)
                | (go_at_call 85; refine (Hpar.out _).mono ?_; rintro r w7 ⟨rfl, rfl⟩)
                | (go_at_call 79; refine (Hf2.out w6 H6.out).mono ?_; rintro r w8 ⟨rfl, hb8⟩
                   have H8 := Lib.hid (Hstep.out _ _ H6.out hb8)
                   have h8k := H8.out.kindg Hy.out
                   clear hb8))
              refine gregion_named (by kernel_rfl) (by kernel_rfl) ?_
              intro wz hz
              have HQ := Lib.hid (Hstep.out _ _ H8.out (show Below w8.heap.size w8 wz by rw [hz]; exact below_drew (Below.refl _ _)))
              have hq1 := HQ.out.kindg Hx.out
              have hq3 := HQ.out.c3
              have ST := Lib.hid (rowE_set (w := wz) HQ.out.row Hn.out (by rw [← Hn.out]; exact hin) c.e)
              clear hz
              iterate 11 still_step
              refine wpStill_nil ?_
              go_wp2
              go_ret2
              exact Hbad.out _ HQ.out 14 HR.out
          · cases bc
            · have hr := Hlay2.out (by assumption) x (by first | rfl | trivial) Hx.out
              rw [Hal.out] at hr
              have HR := Lib.hid (hr.trans (if_neg (by decide)))
              clear hr
              go_wp2_with (first
                | (go_at_call 84; refine (Hchk.out w5).mono ?_; rintro r w6 ⟨rfl, hb6⟩
                   have H6 := Lib.hid (Hstep.out _ _ H5.out hb6)
                   have h60 := H6.out.c0
                   clear hb6)
                | (go_at_call 85; refine (Hpar.out _).mono ?_; rintro r w7 ⟨rfl, rfl⟩)
                | (go_at_call 79; refine (Hf2.out w6 H6.out).mono ?_; rintro r w8 ⟨rfl, hb8⟩
                   have H8 := Lib.hid (Hstep.out _ _ H6.out hb8)
                   have h8k := H8.out.kindg Hy.out
                   clear hb8))
              refine gregion_named (by kernel_rfl) (by kernel_rfl) ?_
              intro wz hz
              have HQ := Lib.hid (Hstep.out _ _ H8.out (show Below w8.heap.size w8 wz by rw [hz]; exact below_drew (Below.refl _ _)))
              have hq1 := HQ.out.kindg Hx.out
              have hq3 := HQ.out.c3
              have ST := Lib.hid (rowE_set (w := wz) HQ.out.row Hn.out (by rw [← Hn.out]; exact hin) c.e)
              clear hz
              iterate 11 still_step
              refine wpStill_nil ?_
              go_wp2
              go_ret2
              exact Hbad.out _ HQ.out 14 HR.out
            · have hr := Hlay2.out (by assumption) x (by first | rfl | trivial) Hx.out
              rw [Hal.out] at hr
              have HR := Lib.hid (hr.trans (if_pos rfl))
              clear hr
              go_wp2_with (first
                | (go_at_call 84; refine (Hchk.out w5).mono ?_; rintro r w6 ⟨rfl, hb6⟩
                   have H6 := Lib.hid (Hstep.out _ _ H5.out hb6)
                   have h60 := H6.out.c0
                   clear hb6)
                | (go_at_call 85; refine (Hpar.out _).mono ?_; rintro r w7 ⟨rfl, rfl⟩)
                | (go_at_call 79; refine (Hf2.out w6 H6.out).mono ?_; rintro r w8 ⟨rfl, hb8⟩
                   have H8 := Lib.hid (Hstep.out _ _ H6.out hb8)
                   have h8k := H8.out.kindg Hy.out
                   clear hb8))
              refine gregion_named (by kernel_rfl) (by kernel_rfl) ?_
              intro wz hz
              have HQ := Lib.hid (Hstep.out _ _ H8.out (show Below w8.heap.size w8 wz by rw [hz]; exact below_drew (Below.refl _ _)))
              have hq1 := HQ.out.kindg Hx.out
              have hq3 := HQ.out.c3
              have ST := Lib.hid (rowE_set (w := wz) HQ.out.row Hn.out (by rw [← Hn.out]; exact hin) c.e)
              clear hz
              iterate 11 still_step
              refine wpStill_nil ?_
              go_wp2_with (first
                | (refine wpList_load_mid rfl _ _ rfl w.heap.size 2 rfl [.string c.e.p, .int .i64 c.e.k, .int .i64 c.e.m, .string c.e.d, .string c.e.l] _ HQ.out.r2 Tryz.underlying52 rfl (by kernel_rfl) ?_)
                | (refine wpList_store_mid rfl _ _ _ rfl g (i * 5) #[.string c.e.p, .int .i64 c.e.k, .int .i64 c.e.m, .string c.e.d, .string c.e.l] rfl rfl ST.out.2.1 (by kernel_rfl) (by simp [Value.oneCell']) ?_))
              go_ret2
              exact DoneR.good HR.out (HQ.out.below.trans ST.out.2.2) rfl ST.out.1
      · have hyb : (y.k == 1) = false := by simpa using hyk
        simp only [hyk, if_neg, not_false_eq_true] at hu
        have hu2 : u = 13 := hu
        subst hu2
        have HR := Lib.hid (Herr.out (by decide))
        go_enter Tryz.func51, Tryz.ntmps51
        go_upto_region 1 with fail
        rw [Hchg.out, ← Hw0.out]
        have h00 := Hst.out.c0
        go_wp2_with (first
          | (go_at_call 79; refine Hf.out.mono ?_; rintro e w1 ⟨rfl, hb1⟩
             have H1 := Lib.hid (Hstep.out _ _ Hst.out hb1)
             have h10 := H1.out.c0
             have h11 := H1.out.c1
             rw [HG.out] at h11
             have h12 := H1.out.c2
             rw [Hpe.out] at h12
             have h20 := (show ((w1.alloc (.cells #[.string c.e.p, .int .i64 c.e.k, .int .i64 c.e.m, .string c.e.d, .string c.e.l] 52)).cell? ⟨w.heap.size, 0, none⟩ = some (.string c.p)) from (Hstep.out _ _ H1.out ((Below.refl _ _).alloc (Nat.le_refl _) _)).c0)
             clear hb1 h00)
          | (refine wpList_load_mid rfl _ _ rfl w.heap.size 2 rfl [.string c.e.p, .int .i64 c.e.k, .int .i64 c.e.m, .string c.e.d, .string c.e.l] _ H1.out.r2 Tryz.underlying52 rfl (by kernel_rfl) ?_)
          | (go_at_call 81; refine (Hlast.out _).mono ?_; rintro e w2 ⟨rfl, rfl⟩))
        obtain ⟨w3, hw3⟩ : ∃ x, x = w1.alloc (.cells #[.string ln, .int .i64 c.e.k, .int .i64 c.e.m, .string c.e.d, .string c.e.l] 52) := ⟨_, rfl⟩
        have hb3 : w3.heap[w1.heap.size]? = some (.cells #[.string ln, .int .i64 c.e.k, .int .i64 c.e.m, .string c.e.d, .string c.e.l] 52 (0, 0)) := by rw [hw3]; exact World.alloc_heap_new w1 _
        have H3 := Lib.hid (Hstep.out _ _ H1.out (show Below w1.heap.size w1 w3 by rw [hw3]; exact (Below.refl _ _).alloc (Nat.le_refl _) _))
        have hab : w1.heap.size < w3.heap.size := by rw [hw3]; simp
        rw [← hw3]
        clear hw3 h10 h11 h12 h20 H1
        generalize w1.heap.size = ab at *
        have hS : ∀ W, Below w3.heap.size w3 W → W.cell? ⟨ab, 0, none⟩ = some (.string ln) ∧ W.cell? ⟨ab, 1, none⟩ = some (.int .i64 c.e.k) ∧ W.cell? ⟨ab, 2, none⟩ = some (.int .i64 c.e.m) ∧ W.cell? ⟨ab, 3, none⟩ = some (.string c.e.d) ∧ W.cell? ⟨ab, 4, none⟩ = some (.string c.e.l) := fun W hW => by
          have hb := (hW.block ab hab).trans hb3
          exact ⟨block_cell (j := 0) hb rfl, block_cell (j := 1) hb rfl, block_cell (j := 2) hb rfl, block_cell (j := 3) hb rfl, block_cell (j := 4) hb rfl⟩
        have hsd := hS w3.drew (below_drew (Below.refl _ _))
        have HS := Lib.hid hS
        clear hS hb3
        go_region_held3 (fun W => W.cell? ⟨ab, 0, none⟩ = some (.string ln) ∧ W.cell? ⟨ab, 1, none⟩ = some (.int .i64 c.e.k) ∧ W.cell? ⟨ab, 2, none⟩ = some (.int .i64 c.e.m) ∧ W.cell? ⟨ab, 3, none⟩ = some (.string c.e.d) ∧ W.cell? ⟨ab, 4, none⟩ = some (.string c.e.l)) (first | assumption | go_keep)
          (first
          | (go_at_call 82; refine (new_any _).mono ?_; rintro r w4 ⟨rfl, ht4, hb4⟩
             have hs4 := HS.out w4 (below_drew (Below.refl _ _) |>.trans hb4)
             have HT4 := Lib.hid ht4
             have HB4 := Lib.hid hb4
             clear ht4 hb4 hsd)
          | (go_at_call 83; refine (Hpa.out _ _ _ _ _ HT4.out).mono ?_; rintro r w5 ⟨rfl, hb5⟩
             have H5 := Lib.hid (Hstep.out _ _ H3.out ((below_drew (Below.refl _ _)).trans (HB4.out.trans hb5)))
             have h50 := H5.out.c0
             have hs5 := HS.out w5 ((below_drew (Below.refl _ _)).trans (HB4.out.trans hb5))
             clear hb5 HB4 HT4 hs4))
        go_wp2_with (first
          | (go_at_call 84; refine (Hchk.out w5).mono ?_; rintro r w6 ⟨rfl, hb6⟩
             have H6 := Lib.hid (Hstep.out _ _ H5.out hb6)
             have h60 := H6.out.c0
             clear hb6)
          | (go_at_call 85; refine (Hpar.out _).mono ?_; rintro r w7 ⟨rfl, rfl⟩)
          | (go_at_call 79; refine (Hf2.out w6 H6.out).mono ?_; rintro r w8 ⟨rfl, hb8⟩
             have H8 := Lib.hid (Hstep.out _ _ H6.out hb8)
             have h8k := H8.out.kindg Hy.out
             clear hb8))
        go_ret2
        exact Hbad.out _ H8.out 13 HR.out
end
end Go.Proofs.YtipfccfjniglbaaGreatDoor
namespace Go.Proofs.YtipfccfjniglbaaGreatDoor
section
open Go.RowKit Go.Maps Go.Shelf
open Go.Lib hiding intOf size_eq
theorem do_any {w : World} {base : Nat} {v : Value} {L : List Ent} (c : Chg) (h : RowE w base v L) (hbase : base ≤ w.heap.size) (hi : Inc L) (hs : ∀ x ∈ L, x.p.size < 4611686018427387904) (hp : c.p.size < 1152921504606846976) (hd : c.e.d.size < 1152921504606846976) (hk : c.e.l.size < 1152921504606846976) (hl : L.length < 1099511627776) :
    Calls Tryz.prog 51 #[v, chgV c] w (DoneR base L c w) := by
  cases hg : c.g with
  | true => exact do_gone c hg h hbase hi hs (by omega) hl
  | false =>
    by_cases hpq : c.e.path = c.path
    · by_cases h0 : itselfNo c.e = 0
      · exact do_rest c hg h hbase hi hs hp hd hk hl hpq h0
      · exact do_self c hg h hbase hi hs hp hd hk hl hpq h0
    · exact do_arg c hg h hbase hi hs hp hd hk hl hpq
/-- entries that are right by themselves are small -/
theorem itself_sizes {e : Ent} (h : itselfNo e = 0) : e.p.size ≤ 255 ∧ e.d.size ≤ 1048576 ∧ e.l.size ≤ 100 := by
  refine ⟨?_, itself_small h, ?_⟩
  · have := checkNo_small (itselfNo_check h)
    show e.p.size ≤ 255
    have h2 := Lib.size_eq e.p
    unfold Ent.path at this
    omega
  · unfold itselfNo at h
    have h2 := Lib.size_eq e.l
    split at h
    · cases h
    split at h
    · omega
    split at h
    · cases h
    split at h
    · cases h
    split at h
    · cases h
    split at h
    · cases h
    rename_i h1 h3 h4 h5 h6 h7
    by_cases hk : e.k = 3
    · have := fun x => h5 ⟨hk, .inr (.inl x)⟩
      omega
    · have hd : e.l.data.toList = [] := Classical.not_not.1 fun x => h7 (.inr ⟨hk, x⟩)
      rw [h2, hd]
      simp
theorem Pre.small {L : List Ent} (h : Pre L) : Small L := fun e he => by
  have := itself_sizes (h.it e he)
  omega
theorem doneL_len {L L' : List Ent} {c : Chg} (h : Pre L) (hd : doneL L c = .ok L') : L'.length ≤ L.length + 1 := by
  have hlaid : (laidL L c.e).length ≤ L.length + 1 := by
    cases hl : lookE L c.e.path with
    | none => have := laid_len_new (e := c.e) hl; omega
    | some x => have := laid_len_old (e := c.e) h.inc hl; omega
  unfold doneL at hd
  split at hd
  · split at hd
    · cases hd
    split at hd
    · cases hd
    injection hd with hd
    subst hd
    have : (withoutL L c.path).length ≤ L.length := List.length_filter_le _ _
    omega
  split at hd
  · cases hd
  split at hd
  · cases hd
  split at hd
  · cases hd
  split at hd
  · split at hd
    · injection hd with hd; subst hd; exact hlaid
    · cases hd
  · injection hd with hd; subst hd; exact hlaid
theorem Pre.bytes {L : List Ent} (h : Pre L) : bytesE L ≤ L.length * 1048576 := by
  have : ∀ l : List Ent, (∀ e ∈ l, itselfNo e = 0) → bytesE l ≤ l.length * 1048576 := by
    intro l
    induction l with
    | nil => intro _; simp [bytesE]
    | cons e r ih =>
      intro hr
      have h1 := ih fun x hx => hr x (List.mem_cons_of_mem _ hx)
      have h2 := itself_small (hr e (List.mem_cons_self ..))
      rw [bytesE_cons, List.length_cons]
      omega
  exact this L h.it
end
end Go.Proofs.YtipfccfjniglbaaGreatDoor
namespace Go.Proofs.YtipfccfjniglbaaGreatDoor
section
open Go.RowKit Go.Maps Go.Shelf
open Go.Lib hiding intOf size_eq
theorem go_good : ∀ (r seen : List Ent), Good seen → (checkGo seen r).1 = 0 → Good (seen ++ r)
  | [], seen, h, _ => by rw [List.append_nil]; exact h
  | e :: r, seen, h, hc => by
    unfold checkGo at hc
    split at hc
    · rename_i h1; exact absurd hc h1
    · rename_i h1
      have := go_good r (seen ++ [e]) (h.add (Classical.not_not.1 h1)) hc
      rwa [List.append_assoc] at this
theorem good_of_check {L : List Ent} (h : (checkL L).1 = 0) : Good L := go_good L [] good_nil h
theorem addpos3 (a : Addr) : a.add 3 = ⟨a.block, a.off + 3, none⟩ := by unfold Addr.add; rw [if_neg (by decide)]
theorem bytes_step3 {L : List Ent} {k : Nat} {e : Ent} (h : L[k]? = some e) : bytesE (L.take (k + 1)) = bytesE (L.take k) + e.d.size := by
  rw [gtakeS h, bytesE_append]
  simp [bytesE]
theorem bytes_take3 (L : List Ent) (k : Nat) : bytesE (L.take k) ≤ bytesE L := by
  conv => rhs; rw [← List.take_append_drop k L]
  rw [bytesE_append]
  omega
def SmallC (C : List Chg) : Prop := ∀ c ∈ C, c.p.size < 1152921504606846976 ∧ c.e.p.size < 1152921504606846976 ∧ c.e.d.size < 1152921504606846976 ∧ c.e.l.size < 1152921504606846976
/-- what Apply answers -/
structure ApplyR (base : Nat) (w' : World) (T : List Ent) (C : List Chg) (v e : Value) : Prop where
  err : ∀ n ln at_, applyL T C = .error (n, ln, at_) → v = .slice none 0 0 ∧ e = fltV (n : Int) (ln : Int) (at_ : Int)
  ok : ∀ L, applyL T C = .ok L → e = .nilIface ∧ RowE w' base v L
theorem ApplyR.bad {base : Nat} {w' : World} {T : List Ent} {C : List Chg} {n ln at_ : Nat} (h : applyL T C = .error (n, ln, at_)) : ApplyR base w' T C (.slice none 0 0) (fltV (n : Int) (ln : Int) (at_ : Int)) :=
  ⟨fun n2 l2 a2 h2 => by rw [h] at h2; injection h2 with h2; injection h2 with h3 h4; injection h4 with h4 h5; subst h3 h4 h5; exact ⟨rfl, rfl⟩, fun L hL => by rw [h] at hL; (cases hL)⟩
theorem ApplyR.good {base : Nat} {w' : World} {T L : List Ent} {C : List Chg} {v : Value} (h : applyL T C = .ok L) (hr : RowE w' base v L) : ApplyR base w' T C v .nilIface :=
  ⟨fun n2 l2 a2 h2 => by rw [h] at h2; (cases h2), fun M hM => by rw [h] at hM; injection hM with hM; subst hM; exact ⟨rfl, hr⟩⟩
theorem apply_check {T : List Ent} {C : List Chg} (h : (checkL T).1 ≠ 0) : applyL T C = .error ((checkL T).1, 0, (checkL T).2) := by unfold applyL; rw [if_pos h]
theorem apply_err {T : List Ent} {C : List Chg} {n i : Nat} (h : (checkL T).1 = 0) (hd : doL T C 0 = .error (n, i)) : applyL T C = .error (n, 1, i) := by unfold applyL; rw [if_neg (fun x => x h), hd]
theorem apply_end {T L : List Ent} {C : List Chg} (h : (checkL T).1 = 0) (hd : doL T C 0 = .ok L) : applyL T C = if 4096 < L.length ∨ 16777216 < bytesE L then .error (5, 1, C.length) else .ok L := by unfold applyL; rw [if_neg (fun x => x h), hd]
theorem doL_err {L : List Ent} {c : Chg} {r : List Chg} {n i : Nat} (h : doneL L c = .error n) : doL L (c :: r) i = .error (n, i) := by
  conv => lhs; unfold doL
  rw [h]
theorem drop_at {α : Type} {C : List α} {k : Nat} {c : α} (h : C[k]? = some c) : C.drop k = c :: C.drop (k + 1) := by
  rw [List.drop_eq_getElem_cons (List.getElem?_eq_some_iff.1 h).1, (List.getElem?_eq_some_iff.1 h).2]
set_option maxRecDepth 100000 in
set_option maxHeartbeats 8000000 in
theorem apply_any (va vl : Value) (T : List Ent) (C : List Chg) (w : World) (ha : EntsAt w va T) (hc : ChgsAt w vl C) (sa : Small T) (sc : SmallC C) (hlT : T.length ≤ 1048576) (hlC : C.length ≤ 1048576) (hg : Handle w) :
    Calls Tryz.prog 20 #[va, vl] w fun r w' => Below w.heap.size w w' ∧ ∃ v e, r = .returned (.tuple #[v, e]) ∧ ApplyR w.heap.size w' T C v e := by
  have h1 := tcheck_any va T w ha sa
  have H1 := Lib.hid h1
  clear h1
  by_cases ca : (checkL T).1 = 0
  · have eA : errT T = .nilIface := if_pos ca
    rw [eA] at H1
    have gT := good_of_check ca
    have pT := gT.pre
    have h2 : ∀ W, Below w.heap.size w W → _ := fun W hW => clone_any va T W (ha.below hW (Nat.le_refl _)) (by omega)
    have hE := fun L (h : doL T C 0 = .ok L) => apply_end ca h
    have hB := fun n i (h : doL T C 0 = .error (n, i)) => apply_err ca h
    have H2 := Lib.hid h2
    have HE := Lib.hid hE
    have HB := Lib.hid hB
    have PT := Lib.hid pT
    have Hg := Lib.hid hg
    have Sc := Lib.hid sc
    obtain ⟨o, cap, rfl, hlc, hcm, hcells⟩ := hc
    obtain ⟨m, hm⟩ : ∃ m, m = C.length := ⟨_, rfl⟩
    obtain ⟨n, hn⟩ : ∃ n, n = T.length := ⟨_, rfl⟩
    rw [← hm] at hlc hlC ⊢
    rw [← hn] at hlT
    have Hcells := Lib.hid hcells
    have Hm := Lib.hid hm
    have Hn := Lib.hid hn
    clear h2 hE hB pT gT hg sc hcells ha sa ca eA hm hn
    go_enter Tryz.func20, Tryz.ntmps20
    go_wp2_with (first
      | (go_at_call 26; refine H1.out.mono ?_; rintro r w1 ⟨rfl, hb1⟩; have HB1 := Lib.hid hb1; clear hb1 H1)
      | (go_at_call 50; refine (H2.out _ HB1.out).mono ?_; rintro r w2 ⟨v2, rfl, hr2, hb2⟩
         have HR2 := Lib.hid (ownsRow_base hr2 HB1.out.size)
         have HB2 := Lib.hid (HB1.out.trans (hb2.mono HB1.out.size))
         clear hb2 hr2 H2))
    go_loopw [7, 23] (fun ov iv wr => ∃ (k : Nat) (L : List Ent), iv = .int .i64 (k : Int) ∧ k ≤ m ∧ RowE wr w.heap.size ov L ∧ Pre L ∧ L.length ≤ n + k ∧ doL T C 0 = doL L (C.drop k) k ∧ Below w.heap.size w wr) (fun _ iv _ => m - (intOf iv).toNat)
    case atStart => exact ⟨0, T, rfl, Nat.zero_le _, HR2.out, PT.out, by rw [← Hn.out]; omega, rfl, HB2.out⟩
    case round =>
      obtain ⟨k, L, rfl, hk, hrow, hpre, hlen, hdo, hbr⟩ := hrel
      have hbs := hbr.size
      clear HR2 HB2
      by_cases hlt : k < m
      · obtain ⟨c, hck⟩ : ∃ c, C[k]? = some c := ⟨_, List.getElem?_eq_getElem (by rw [← Hm.out]; exact hlt)⟩
        obtain ⟨a, rfl, hal, hcs⟩ := Hcells.out k c hck
        obtain ⟨s1, s2, s3, s4⟩ := Sc.out c (List.mem_of_getElem? hck)
        rw [drop_at hck] at hdo
        have hcw : ∀ j x, (chgC c)[j]? = some x → wr.cell? ((a.add (k * 7)).add j) = some x := fun j x hx => by
          have := hcs j x hx
          unfold World.cell? at this ⊢
          rw [hbr.block _ (by rw [gadd_block, gadd_block]; omega)]
          exact this
        have hdoc := do_any (w := wr.alloc (.cells #[.string c.p, .bool c.g, .string c.e.p, .int .i64 c.e.k, .int .i64 c.e.m, .string c.e.d, .string c.e.l] 54)) (base := w.heap.size) c (hrow.alloc _) (by rw [World.size_alloc]; omega) hpre.inc hpre.small.p s1 s3 s4 (by omega)
        have hfl := fun nn (W : World) (hW : Below w.heap.size w W) => fault_num (nn : Int) 1 (k : Int) W (Hg.out.below hW (Nat.le_refl _))
        have hba : Below w.heap.size w (wr.alloc (.cells #[.string c.p, .bool c.g, .string c.e.p, .int .i64 c.e.k, .int .i64 c.e.m, .string c.e.d, .string c.e.l] 54)) := hbr.alloc hbs _
        have Hba := Lib.hid hba
        have Hcw := Lib.hid hcw
        have Hdoc := Lib.hid hdoc
        have Hfl := Lib.hid hfl
        have Hbr := Lib.hid hbr
        have Hpre := Lib.hid hpre
        have Hdo := Lib.hid hdo
        unfold chgV at Hdoc
        clear hcs hck hcw hdoc hfl hbr hrow hba hdo
        cases hd : doneL L c with
        | error nn =>
          have hn1 := doneL_err hd
          have hres := HB.out nn k (Hdo.out.trans (doL_err hd))
          have Hres := Lib.hid hres
          have hnn := errV_pos (show nn ≠ 0 by omega)
          have Hd := Lib.hid hd
          have Hnn := Lib.hid hnn
          clear hd hres hnn hpre Hpre Hdo
          go_wp2_with (first
            | (refine wpList_load_items rfl _ _ rfl (a.add (k * 7)) rfl [.string c.p, .bool c.g, .string c.e.p, .int .i64 c.e.k, .int .i64 c.e.m, .string c.e.d, .string c.e.l] _ Hcw.out Tryz.underlying54 rfl (by kernel_rfl) ?_)
            | (go_at_call 51; refine Hdoc.out.mono ?_; rintro r w3 hr3
               obtain rfl := hr3.err _ Hd.out
               have HB3 := Lib.hid (Hba.out.trans hr3.below)
               rw [Hnn.out]
               clear hr3)
            | (go_at_call 42; refine (Hfl.out nn _ HB3.out).mono ?_; rintro r w4 ⟨rfl, hb4⟩; have HB4 := Lib.hid (HB3.out.trans (hb4.mono HB3.out.size)); clear hb4))
          go_ret2
          exact ⟨HB4.out, _, _, rfl, ApplyR.bad Hres.out⟩
        | ok L' =>
          have hlen2 := doneL_len hpre hd
          have hpre2 := doneL_pre hpre hd
          have hdo2 := Hdo.out.trans (doL_cons hd)
          have Hd := Lib.hid hd
          have Hpre2 := Lib.hid hpre2
          have Hdo2 := Lib.hid hdo2
          clear hd hpre hpre2 hdo2 Hpre Hdo
          go_wp2_with (first
            | (refine wpList_load_items rfl _ _ rfl (a.add (k * 7)) rfl [.string c.p, .bool c.g, .string c.e.p, .int .i64 c.e.k, .int .i64 c.e.m, .string c.e.d, .string c.e.l] _ Hcw.out Tryz.underlying54 rfl (by kernel_rfl) ?_)
            | (go_at_call 51; refine Hdoc.out.mono ?_; rintro r w3 hr3
               obtain ⟨v3, rfl, hrow3⟩ := hr3.ok _ Hd.out
               have HB3 := Lib.hid (Hba.out.trans hr3.below)
               have HR3 := Lib.hid hrow3
               clear hr3 hrow3))
          go_roundw
          case rel => exact ⟨k + 1, L', by go_num, by omega, HR3.out, Hpre2.out, by omega, Hdo2.out, HB3.out⟩
          case measure => simp [intOf]; omega
      · obtain rfl : k = m := by omega
        have hend : doL T C 0 = .ok L := by rw [hdo, Hm.out, List.drop_length]; rfl
        have hres := HE.out L hend
        obtain ⟨oL, capL, rfl, hlcL, hcmL, hcellsL⟩ := hrow.ents
        obtain ⟨nL, hnL⟩ : ∃ nL, nL = L.length := ⟨_, rfl⟩
        have hbyt := hpre.bytes
        rw [← hnL] at hlcL hlen hbyt ⊢
        have hbL : bytesE L ≤ 4398046511104 := by omega
        have hfl := fun (W : World) (hW : Below w.heap.size w W) => fault_num 5 1 (k : Int) W (Hg.out.below hW (Nat.le_refl _))
        have hrowK : RowE wr w.heap.size (.slice oL nL capL) L := by rw [hnL]; exact hrow
        rw [← Hm.out] at hres
        have Hfl := Lib.hid hfl
        have Hres := Lib.hid hres
        have HcL := Lib.hid hcellsL
        have HnL := Lib.hid hnL
        have HbL := Lib.hid hbL
        have Hbr := Lib.hid hbr
        have Hrow := Lib.hid hrowK
        clear hend hres hcellsL hnL hbL hbr hrow hrowK hpre hdo hfl hbyt
        go_wp2_with fail
        obtain ⟨wo, hwo⟩ : ∃ x, x = wr := ⟨_, rfl⟩
        subst hwo
        go_loopw [11, 42] (fun sv iv wr => ∃ (i s : Nat), iv = .int .i64 (i : Int) ∧ sv = .int .i64 (s : Int) ∧ i ≤ nL ∧ s = bytesE (L.take i) ∧ Below wo.heap.size wo wr) (fun _ iv _ => nL - (intOf iv).toNat)
        case atStart => exact ⟨0, 0, rfl, rfl, Nat.zero_le _, rfl, Below.refl _ _⟩
        case round =>
          obtain ⟨i, s, rfl, rfl, hi, hs, hb⟩ := hrel
          have hbz := hb.size
          by_cases hilt : i < nL
          · obtain ⟨e, hek⟩ : ∃ e, L[i]? = some e := ⟨_, List.getElem?_eq_getElem (by rw [← HnL.out]; exact hilt)⟩
            obtain ⟨a, rfl, hal, hcs⟩ := HcL.out i e hek
            have hcw : ∀ j x, (entC e)[j]? = some x → wr.cell? ((a.add (i * 5)).add j) = some x := fun j x hx => by
              have := hcs j x hx
              unfold World.cell? at this ⊢
              rw [hb.block _ (by rw [gadd_block, gadd_block]; omega)]
              exact this
            have hst := bytes_step3 hek
            have hle := bytes_take3 L (i + 1)
            have hbb := HbL.out
            have hmd : s + e.d.size ≤ 4398046511104 := by rw [hs]; omega
            have Hst := Lib.hid (show s + e.d.size = bytesE (L.take (i + 1)) by rw [hst, hs])
            have Hcw := Lib.hid hcw
            have Hb := Lib.hid hb
            clear hst hle hbb hs hcs hek hcw hb
            go_wp2_with (refine wpList_load_items rfl _ _ rfl (a.add (i * 5)) rfl [.string e.p, .int .i64 e.k, .int .i64 e.m, .string e.d, .string e.l] _ Hcw.out Tryz.underlying52 rfl (by kernel_rfl) ?_)
            go_roundw
            case rel => exact ⟨i + 1, s + e.d.size, by go_num, by go_num, by omega, Hst.out, Hb.out.alloc (by omega) _⟩
            case measure => simp [intOf]; omega
          · obtain rfl : i = nL := by omega
            have hs2 : s = bytesE L := by rw [hs, HnL.out, List.take_length]
            have Hs := Lib.hid hs2
            have hsm : s ≤ 4398046511104 := by rw [hs2]; exact HbL.out
            have hr := Hres.out
            rw [← Hs.out, ← HnL.out] at hr
            have Hr := Lib.hid hr
            have Hb := Lib.hid hb
            clear hs hs2 hr hb
            have HBz := Lib.hid (Hbr.out.trans (Hb.out.mono Hbr.out.size))
            by_cases h1 : 4096 < i
            · go_wp2_with (go_at_call 42; refine (Hfl.out _ HBz.out).mono ?_; rintro r w4 ⟨rfl, hb4⟩; have HB4 := Lib.hid (HBz.out.trans (hb4.mono HBz.out.size)); clear hb4)
              go_ret2
              exact ⟨HB4.out, _, _, rfl, ApplyR.bad (Hr.out.trans (if_pos (.inl h1)))⟩
            · by_cases h2 : 16777216 < s
              · go_wp2_with (go_at_call 42; refine (Hfl.out _ HBz.out).mono ?_; rintro r w4 ⟨rfl, hb4⟩; have HB4 := Lib.hid (HBz.out.trans (hb4.mono HBz.out.size)); clear hb4)
                go_ret2
                exact ⟨HB4.out, _, _, rfl, ApplyR.bad (Hr.out.trans (if_pos (.inr h2)))⟩
              · go_wp2_with fail
                go_ret2
                exact ⟨HBz.out, _, _, rfl, ApplyR.good (Hr.out.trans (if_neg (by omega))) (row_belowE Hrow.out Hb.out)⟩
  · have eA : errT T = fltV ((checkL T).1 : Int) 0 ((checkL T).2 : Int) := if_neg ca
    rw [eA] at H1
    unfold fltV at H1
    have Hbad := Lib.hid (fun w' => ApplyR.bad (base := w.heap.size) (w' := w') (C := C) (apply_check (C := C) ca))
    clear ca ha sa sc hg
    obtain ⟨o, cap, rfl, hlc, hcm, hcells⟩ := hc
    clear hcells
    go_enter Tryz.func20, Tryz.ntmps20
    go_wp2_with (first
      | (go_at_call 26; refine H1.out.mono ?_; rintro r w1 ⟨rfl, hb1⟩; have HB1 := Lib.hid hb1; clear hb1 H1))
    go_ret2
    exact ⟨HB1.out, _, _, rfl, Hbad.out _⟩
end
end Go.Proofs.YtipfccfjniglbaaGreatDoor
namespace Go.Proofs.YtipfccfjniglbaaGreatDoor
section
open Go.RowKit Go.Maps Go.Shelf
open Go.Lib hiding intOf size_eq
/-- what Back answers -/
structure BackR (base : Nat) (w' : World) (T : List Ent) (C : List Chg) (v e : Value) : Prop where
  err : ∀ n ln at_, applyL T C = .error (n, ln, at_) → v = .slice none 0 0 ∧ e = fltV (n : Int) (ln : Int) (at_ : Int)
  ok : ∀ L, applyL T C = .ok L → e = .nilIface ∧ w'.ownsRow base 54 7 v (chgL L T).length ((chgL L T).flatMap chgC) ∧ (chgL L T = [] → v = .slice none 0 0)
set_option maxRecDepth 100000 in
set_option maxHeartbeats 8000000 in
theorem back_any (va vl : Value) (T : List Ent) (C : List Chg) (w : World) (ha : EntsAt w va T) (hc : ChgsAt w vl C) (sa : Small T) (sc : SmallC C) (hlT : T.length ≤ 1048576) (hlC : C.length ≤ 1048576) (hg : Handle w) :
    Calls Tryz.prog 25 #[va, vl] w fun r w' => Below w.heap.size w w' ∧ ∃ v e, r = .returned (.tuple #[v, e]) ∧ BackR w.heap.size w' T C v e := by
  have h1 := apply_any va vl T C w ha hc sa sc hlT hlC hg
  have H1 := Lib.hid h1
  clear h1
  cases hA : applyL T C with
  | error x =>
    obtain ⟨n, ln, at_⟩ := x
    have HA := Lib.hid hA
    have hfin : ∀ w', BackR w.heap.size w' T C (.slice none 0 0) (fltV (n : Int) (ln : Int) (at_ : Int)) := fun w' =>
      ⟨fun n2 l2 a2 h2 => by rw [hA] at h2; injection h2 with h2; injection h2 with h3 h4; injection h4 with h4 h5; subst h3 h4 h5; exact ⟨rfl, rfl⟩, fun L hL => by rw [hA] at hL; (cases hL)⟩
    have Hfin := Lib.hid hfin
    clear hA ha hc sa sc hg hfin
    unfold fltV at Hfin
    go_enter Tryz.func25, Tryz.ntmps25
    go_wp2_with (go_at_call 20; refine H1.out.mono ?_; rintro r w1 ⟨hb1, v, e, rfl, hr⟩
                 obtain ⟨rfl, rfl⟩ := hr.err _ _ _ HA.out
                 unfold fltV
                 have HB1 := Lib.hid hb1
                 clear hb1 hr)
    go_ret2
    exact ⟨HB1.out, _, _, rfl, Hfin.out _⟩
  | ok L =>
    obtain ⟨gT, gL⟩ := applyL_good (fun h => good_of_check h) hA
    have hch := fun (v : Value) (W : World) (hv : EntsAt W v L) (hW : Below w.heap.size w W) => changesN_any v va L T W hv (ha.below hW (Nat.le_refl _)) gL.pre.small.p sa.p (by have := gL.len; omega)
    have hfin : ∀ v w', w'.ownsRow w.heap.size 54 7 v (chgL L T).length ((chgL L T).flatMap chgC) ∧ (chgL L T = [] → v = .slice none 0 0) → BackR w.heap.size w' T C v .nilIface := fun v w' hr =>
      ⟨fun n2 l2 a2 h2 => by rw [hA] at h2; (cases h2), fun M hM => by rw [hA] at hM; injection hM with hM; subst hM; exact ⟨rfl, hr⟩⟩
    have HA := Lib.hid hA
    have Hch := Lib.hid hch
    have Hfin := Lib.hid hfin
    clear hA ha hc sa sc hg hch gT gL hfin
    go_enter Tryz.func25, Tryz.ntmps25
    go_wp2_with (first
      | (go_at_call 20; refine H1.out.mono ?_; rintro r w1 ⟨hb1, v, e, rfl, hr⟩
         obtain ⟨rfl, hrow⟩ := hr.ok _ HA.out
         have HB1 := Lib.hid hb1
         have HR := Lib.hid hrow
         clear hb1 hr hrow)
      | (go_at_call 43; refine (Hch.out _ _ HR.out.ents HB1.out).mono ?_; rintro r w2 ⟨v2, rfl, hr2, hz2, hb2⟩
         have HR2 := Lib.hid (And.intro (ownsRow_base hr2 HB1.out.size) hz2)
         have HB2 := Lib.hid (HB1.out.trans (hb2.mono HB1.out.size))
         clear hr2 hb2 hz2))
    go_ret2
    exact ⟨HB2.out, _, _, rfl, Hfin.out _ _ HR2.out⟩
end
end Go.Proofs.YtipfccfjniglbaaGreatDoor
