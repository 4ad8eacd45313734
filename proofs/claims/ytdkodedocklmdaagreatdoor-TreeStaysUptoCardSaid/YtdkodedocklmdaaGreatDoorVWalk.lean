/- The walk of TreeStays. -/
import Derived.Test.YtdkodedocklmdaaGreatDoorVList
import Derived.Test.YtdkodedocklmdaaGreatDoorUWorks
import Derived.Test.YtdkodedocklmdaaGreatDoorSWay
import Derived.Deep.RegionHeld3
set_option linter.unusedSimpArgs false
set_option linter.unusedVariables false
namespace Go.Proofs.YtdkodedocklmdaaGreatDoor
open Go.RowKit Go.Maps Go.Shelf
open Go.Lib hiding intOf size_eq
theorem step_load_guard {P : Program} {w : World} {ops : Array Oper} {o : Oper} {a : Act} {K : Act → World → Prop} {Q : Exit → Act → World → Prop} {X : Prop} (hw : Region.wanted o (yielded ops a.tmps) = true) (ty : TypeId) (x : Operand) (ho : o.op = .load ty x)
    (p : Addr) (hx : a.eval x = .pointer (some p)) (cs : List Value) (d : TypeDesc) (hc : ∀ j v, cs[j]? = some v → w.cell? (p.add j) = some v)
    (hu : P.underlying ty = some d) (hd : (match d with | .struct _ | .array _ _ => true | _ => false) = true) (hi : (P.info? ty).map (·.size) = some cs.length)
    (h : K (a.put o.dst (.agg cs.toArray)) w) : if Region.wanted o (yielded ops a.tmps) = true then Oper.wp P o a w K Q else X := by
  rw [if_pos hw]
  exact wp_load_at ty x ho p hx cs d hc hu hd hi h
/-- a list that lies beside a tree -/
structure WasAt (W : World) (T rt rm : Nat) (nd : List Nd) (v : Value) (L : List Ent) : Prop where
  ents : EntsAt W v L
  off : ∀ a n cap, v = .slice (some a) n cap → a.block < W.heap.size ∧ ¬ IsBlk T rt rm nd a.block
theorem WasAt.below {W W' : World} {T rt rm : Nat} {nd : List Nd} {v : Value} {L : List Ent} (h : WasAt W T rt rm nd v L) (hb : Below W.heap.size W W') : WasAt W' T rt rm nd v L :=
  ⟨h.ents.below hb (Nat.le_refl _), fun a n cap e => ⟨Nat.lt_of_lt_of_le (h.off a n cap e).1 hb.size, (h.off a n cap e).2⟩⟩
theorem WasAt.turned {W W' : World} {T rt rm : Nat} {nd nd' : List Nd} {v : Value} {L : List Ent} (h : WasAt W T rt rm nd v L) (ht : Turned T rt rm nd nd' W W') : WasAt W' T rt rm nd' v L := by
  obtain ⟨⟨o, cap, rfl, h2, h3, h4⟩, h5⟩ := h
  refine ⟨⟨o, cap, rfl, h2, h3, fun i e he => ?_⟩, fun a n c e => ?_⟩
  · obtain ⟨a, rfl, hl, hc⟩ := h4 i e he
    obtain ⟨q1, q2⟩ := h5 a _ _ rfl
    refine ⟨a, rfl, Nat.lt_of_lt_of_le hl ht.size, fun j x hx => ?_⟩
    have := hc j x hx
    unfold World.cell? at this ⊢
    rw [add_block, add_block] at this ⊢
    rw [ht.keep _ q1 q2]
    exact this
  · obtain ⟨q1, q2⟩ := h5 a n c e
    refine ⟨Nat.lt_of_lt_of_le q1 ht.size, fun hx => ?_⟩
    rcases ht.blk _ hx with hx | hx
    · exact q2 hx
    · omega
theorem WasAt.of_row {W W' : World} {T rt rm base : Nat} {nd : List Nd} {v : Value} {L : List Ent} (ht : TreeAt W T rt rm base nd) (hr : W'.ownsRow W.heap.size 38 5 v L.length (L.flatMap entC)) : WasAt W' T rt rm nd v L := by
  refine ⟨ents_of_row hr, fun a n cap e => ?_⟩
  obtain ⟨_, hr⟩ := hr
  rcases hr with ⟨e2, _⟩ | ⟨g, cap2, cur, e2, hb, hg, _⟩
  · rw [e2] at e; cases e
  · rw [e2] at e
    injection e with e
    injection e with e
    subst e
    exact ⟨heap_lt hg, fun hx => by have := ht.lt hx; simp only [] at this; omega⟩
/-- a step that lies in a block of its own -/
def StpObj (W : World) (b : Nat) (s : Stp) : Prop := W.heap[b]? = some (.cells (stpC s).toArray 40 (0, 0))
theorem StpObj.cells {W : World} {b : Nat} {s : Stp} (h : StpObj W b s) : W.cell? ⟨b, 0, none⟩ = some (.int .i64 s.d) ∧ W.cell? ⟨b, 2, none⟩ = some (.string s.e.p) ∧ W.cell? ⟨b, 7, none⟩ = some (.string s.p) ∧ W.rangeAt b 2 (entC s.e) := by
  unfold StpObj at h
  refine ⟨?_, ?_, ?_, fun j v hj => ?_⟩
  · unfold World.cell?; rw [h]; rfl
  · unfold World.cell?; rw [h]; rfl
  · unfold World.cell?; rw [h]; rfl
  · unfold World.cell?; rw [h]
    have hl : j < 5 := (List.getElem?_eq_some_iff.1 hj).1
    have : (stpC s).toArray[2 + j]? = (entC s.e)[j]? := by
      rcases (by omega : j = 0 ∨ j = 1 ∨ j = 2 ∨ j = 3 ∨ j = 4) with rfl | rfl | rfl | rfl | rfl <;> rfl
    exact this.trans hj
theorem StpObj.below {W W' : World} {b : Nat} {s : Stp} (h : StpObj W b s) (hb : Below W.heap.size W W') : StpObj W' b s := (hb.block b (heap_lt h)).trans h
theorem StpObj.turned {W W' : World} {T rt rm b : Nat} {nd nd' : List Nd} {s : Stp} (h : StpObj W b s) (ht : Turned T rt rm nd nd' W W') (hn : ¬ IsBlk T rt rm nd b) : StpObj W' b s := (ht.keep b (heap_lt h) hn).trans h
/-- where a step stands: the tree, the list from before, the step -/
structure Mid (w W : World) (T rt rm : Nat) (nd : List Nd) (v : Value) (L : List Ent) (b : Nat) (s : Stp) : Prop where
  tree : TreeAt W T rt rm w.heap.size nd
  was : WasAt W T rt rm nd v L
  obj : StpObj W b s
  bel : Below w.heap.size w W
theorem Mid.below {w W W' : World} {T rt rm : Nat} {nd : List Nd} {v : Value} {L : List Ent} {b : Nat} {s : Stp} (h : Mid w W T rt rm nd v L b s) (hb : Below W.heap.size W W') : Mid w W' T rt rm nd v L b s :=
  ⟨h.tree.below hb (Nat.le_refl _), h.was.below hb, h.obj.below hb, h.bel.trans (hb.mono h.bel.size)⟩
theorem below_of_same0 {W W' : World} (hs : Same W W') : Below W.heap.size W W' := by
  obtain ⟨q, rfl⟩ := hs
  exact below_drewN (Below.refl _ _) q
/- what a step does, plain -/
def stN (L : List Ent) (s : Stp) : Nat := if s.d = 0 ∨ s.d = 5 then putNo L s.e else takeNo L s.p.data.toList
def stG (L : List Ent) (s : Stp) : Nat := if s.d = 0 ∨ s.d = 5 then 0 else takeN L s.p.data.toList
def stL (L : List Ent) (s : Stp) : List Ent := if s.d = 0 ∨ s.d = 5 then putL L s.e else takeL L s.p.data.toList
theorem st_err {L : List Ent} {s : Stp} (h : stN L s ≠ 0) : stL L s = L ∧ stG L s = 0 := by
  unfold stN at h
  unfold stL stG
  by_cases hp : s.d = 0 ∨ s.d = 5
  · rw [if_pos hp] at h ⊢
    rw [if_pos hp]
    unfold putL
    rw [if_neg h]
    exact ⟨rfl, rfl⟩
  · rw [if_neg hp] at h ⊢
    rw [if_neg hp]
    unfold takeL takeN
    rw [if_neg h, if_neg h]
    exact ⟨rfl, rfl⟩
theorem st_put {L : List Ent} {s : Stp} (hL : Good L) (h : stN L s = 0) (hp : s.d = 0 ∨ s.d = 5) : stG L s = 0 ∧ lookE (stL L s) s.e.path = some s.e ∧ butL (stL L s) s.e.path = butL L s.e.path := by
  unfold stN at h
  unfold stL stG
  rw [if_pos hp] at h ⊢
  rw [if_pos hp]
  unfold putL
  rw [if_pos h]
  exact ⟨rfl, put_look hL, but_laid L s.e⟩
theorem st_take {L : List Ent} {s : Stp} (h : stN L s = 0) (hp : ¬ (s.d = 0 ∨ s.d = 5)) : stL L s = withoutL L s.p.data.toList ∧ stG L s = L.length - (withoutL L s.p.data.toList).length ∧ (withoutL L s.p.data.toList).length < L.length := by
  unfold stN at h
  unfold stL stG
  rw [if_neg hp] at h ⊢
  rw [if_neg hp]
  unfold takeL takeN
  rw [if_pos h, if_pos h]
  exact ⟨rfl, rfl, take_ok h⟩
theorem Good.small {L : List Ent} (h : Good L) : Small L := fun e he => by
  have h1 := h.it e he
  have h2 := checkNo_small (itselfNo_check h1)
  have h3 := itselfNo_data h1
  have h4 : e.l.size ≤ 100 := by
    unfold itselfNo at h1
    split at h1
    · cases h1
    split at h1
    · omega
    split at h1
    · cases h1
    split at h1
    · cases h1
    rename_i hl
    split at h1
    · cases h1
    split at h1
    · cases h1
    rename_i hf
    by_cases hk : e.k = 3
    · by_cases hs : 100 < e.l.size
      · exact absurd ⟨hk, .inr (.inl hs)⟩ hl
      · omega
    · have : e.l.data.toList = [] := by
        by_cases hd : e.l.data.toList = []
        · exact hd
        · exact absurd (.inr ⟨hk, hd⟩) hf
      have : e.l.size = 0 := by
        show e.l.data.toList.length = 0
        rw [this]; rfl
      omega
  have h5 : e.p.size ≤ 255 := h2
  exact ⟨Nat.lt_of_le_of_lt h5 (by decide), Nat.lt_of_le_of_lt h3 (by decide), Nat.lt_of_le_of_lt h4 (by decide)⟩
theorem lt_of_cell0 {W : World} {a : Addr} {v : Value} (h : W.cell? a = some v) : a.block < W.heap.size := World.block_lt_of_cell? W a h
theorem stpC_one (s : Stp) : (stpC s).toArray.all (·.oneCell') = true := by simp [stpC, Value.oneCell']
set_option maxRecDepth 100000 in
set_option maxHeartbeats 4000000 in
theorem treeStays_any (v : Value) (L : List Stp) (w : World) (h : StepsAt w v L) (hS : ∀ x ∈ L, x.e.p.size ≤ 1048576 ∧ x.e.d.size ≤ 1048576 ∧ x.e.l.size ≤ 1048576 ∧ x.p.size ≤ 1048576) (hl : L.length ≤ 1048576) (hg : Handle w) :
    Calls Tryz.prog 4 #[v] w fun r w' => r = .returned (.bool true) ∧ Below w.heap.size w w' := by
  obtain ⟨o, cap, rfl, hlc, hcm, hcells⟩ := h
  obtain ⟨n, hn⟩ : ∃ n, n = L.length := ⟨_, rfl⟩
  rw [← hn] at hlc hl ⊢
  have Hcells := Lib.hid hcells
  have HS := Lib.hid hS
  have Hn := Lib.hid hn
  have Hg := Lib.hid hg
  have HW := Lib.hid (fun W (hW : Below w.heap.size w W) => works07_any W (Hg.out.below hW (Nat.le_refl _)))
  clear hcells hS hn hg
  go_enter Tryz.func4, Tryz.ntmps4
  go_wp2_with (first
    | (go_at_call 17; refine (new_any _).mono ?_; rintro r w1 ⟨rfl, ht, hb1⟩
       have HT := Lib.hid ht
       have HB := Lib.hid hb1
       clear ht hb1)
    | (go_at_call 16; refine (HW.out w1 HB.out).mono ?_; rintro r w2 ⟨rfl, hb1⟩
       have HT2 := Lib.hid (HT.out.below hb1 (Nat.le_refl _))
       have HB2 := Lib.hid (HB.out.trans (hb1.mono HB.out.size))
       clear hb1 HT HB))
  have ht2 := HT2.out
  generalize w.heap.size + 2 = T at *
  generalize w.heap.size + 1 = rt at *
  obtain ⟨rm, hrm⟩ : ∃ x, x = w.heap.size := ⟨_, rfl⟩
  rw [show TreeAt w2 T rt w.heap.size w.heap.size [] = TreeAt w2 T rt rm w.heap.size [] by rw [hrm]] at ht2
  clear HT2 hrm
  have HT2 := Lib.hid ht2
  clear ht2
  go_loopw [4, 5, 6, 7, 8, 9, 10, 11, 12, 13, 14] (fun wv iv _ _ _ _ _ _ _ _ _ wr => ∃ (k : Nat) (nd : List Nd), iv = .int .i64 (k : Int) ∧ k ≤ n ∧ TreeAt wr T rt rm w.heap.size nd ∧ WasAt wr T rt rm nd wv (ents nd) ∧ Below w.heap.size w wr) (fun _ iv _ _ _ _ _ _ _ _ _ _ => n - (intOf iv).toNat)
  case atStart => exact ⟨0, [], rfl, Nat.zero_le _, HT2.out, ⟨⟨none, 0, rfl, Nat.le_refl _, by simp, fun i e he => by cases he⟩, fun a n cap e => by cases e⟩, HB2.out⟩
  case round =>
    obtain ⟨k, nd, rfl, hk, ht, hwas, hbr⟩ := hrel
    clear HT2 HB2
    obtain ⟨o0, cap0, rfl, hlc0, hcm0, _⟩ := id hwas.ents
    obtain ⟨n0, hn0⟩ : ∃ x, x = (ents nd).length := ⟨_, rfl⟩
    rw [← hn0] at hwas hlc0 ⊢
    have hn0l : n0 ≤ 4096 := by rw [hn0]; exact ht.good.len
    have Hn0 := Lib.hid hn0
    clear hn0
    by_cases hlt : k < n
    · obtain ⟨s, hek⟩ : ∃ e, L[k]? = some e := ⟨_, List.getElem?_eq_getElem (by rw [← Hn.out]; exact hlt)⟩
      obtain ⟨a, rfl, hal, hcs⟩ := Hcells.out k s hek
      have hsz := HS.out s (List.mem_of_getElem? hek)
      have hcw : ∀ j x, (stpC s)[j]? = some x → wr.cell? ((a.add (k * 9)).add j) = some x := fun j x hx => by
        have := hcs j x hx
        unfold World.cell? at this ⊢
        rw [hbr.block _ (by rw [add_block, add_block]; omega)]
        exact this
      obtain ⟨z, hz⟩ : ∃ z, z = wr.alloc (.cells #[.int .i64 0, .int .i64 0, .string ⟨#[]⟩, .int .i64 0, .int .i64 0, .string ⟨#[]⟩, .string ⟨#[]⟩, .string ⟨#[]⟩, .int .i64 0] 40) := ⟨_, rfl⟩
      obtain ⟨w2, hw2⟩ : ∃ x, x = (wr.alloc (.cells #[.int .i64 0, .int .i64 0, .string ⟨#[]⟩, .int .i64 0, .int .i64 0, .string ⟨#[]⟩, .string ⟨#[]⟩, .string ⟨#[]⟩, .int .i64 0] 40)).setRow wr.heap.size (stpC s).toArray := ⟨_, rfl⟩
      have hb0 := World.alloc_heap_new wr (.cells #[.int .i64 0, .int .i64 0, .string ⟨#[]⟩, .int .i64 0, .int .i64 0, .string ⟨#[]⟩, .string ⟨#[]⟩, .string ⟨#[]⟩, .int .i64 0] 40)
      have hobj : StpObj w2 wr.heap.size s := by rw [hw2]; exact setRow_at hb0
      have hk2 : Below wr.heap.size wr w2 := by
        have hb := (Below.refl wr.heap.size wr).alloc (Nat.le_refl _) (.cells #[.int .i64 0, .int .i64 0, .string ⟨#[]⟩, .int .i64 0, .int .i64 0, .string ⟨#[]⟩, .string ⟨#[]⟩, .string ⟨#[]⟩, .int .i64 0] 40)
        rw [hw2]
        exact ⟨hb.os, hb.tape, hb.output, by simp, fun j hj => (setRow_other _ wr.heap.size j _ (by omega)).trans (hb.block j hj)⟩
      have hnb : ¬ IsBlk T rt rm nd wr.heap.size := fun hx => absurd (ht.lt hx) (Nat.lt_irrefl _)
      have hT2 : TreeAt w2 T rt rm w.heap.size nd := ht.below hk2 (Nat.le_refl _)
      have hW2 := hwas.below hk2
      have hB2 : Below w.heap.size w w2 := hbr.trans (hk2.mono hbr.size)
      have HW2 := Lib.hid hw2
      have HB0 := Lib.hid hb0
      have Hcw := Lib.hid hcw
      have Hone := Lib.hid (stpC_one s)
      have HO2 := Lib.hid hobj
      have HNB := Lib.hid hnb
      have HT2 := Lib.hid hT2
      have HA2 := Lib.hid hW2
      have HB2 := Lib.hid hB2
      have hgood := ht.good
      have HG := Lib.hid hgood
      clear hcw hz z hw2 hb0 hobj hk2 hnb hT2 hW2 hB2 ht hwas hbr hcs hek hal hgood
      generalize hbb : wr.heap.size = b at *
      go_upto_block 2 with (first
        | (refine wpList_load_at rfl _ _ rfl (a.add (k * 9)) rfl (stpC s) _ Hcw.out Tryz.underlying40 rfl (by kernel_rfl) ?_)
        | (refine wpList_store_row rfl _ _ _ rfl b (stpC s).toArray rfl rfl 40 _ HB0.out (by kernel_rfl) rfl Hone.out ?_; rw [← HW2.out]; obtain ⟨x0, x2, x7, x5⟩ := HO2.out.cells; have HR5 := Lib.hid x5; clear x5))
      go_cut [7, 8] (fun gv ev wx => ∃ nd', gv = .int .i64 ((stG (ents nd) s : Nat) : Int) ∧ ev = errV (stN (ents nd) s) ∧ ents nd' = stL (ents nd) s ∧ TreeAt wx T rt rm w.heap.size nd' ∧ Turned T rt rm nd nd' w2 wx)
      case first =>
        by_cases hp : s.d = 0 ∨ s.d = 5
        · have hput := put_any s.e w2 HT2.out (Nat.lt_of_le_of_lt hsz.1 (by decide)) (Nat.lt_of_le_of_lt hsz.2.2.1 (by decide)) (Nat.lt_of_le_of_lt hsz.2.1 (by decide))
          have hR : ∀ r W', PutR T rt rm w.heap.size nd s.e w2 r W' → ∃ ev nd', r = .returned ev ∧ (∃ nd', Value.int .i64 0 = .int .i64 ((stG (ents nd) s : Nat) : Int) ∧ ev = errV (stN (ents nd) s) ∧ ents nd' = stL (ents nd) s ∧ TreeAt W' T rt rm w.heap.size nd' ∧ Turned T rt rm nd nd' w2 W') := fun r W' ⟨h1, nd', h2, h3, h4⟩ => by
            refine ⟨_, nd', h1, nd', ?_, ?_, ?_, h3, h4⟩
            · unfold stG; rw [if_pos hp]; rfl
            · unfold stN; rw [if_pos hp]
            · unfold stL; rw [if_pos hp]; exact h2
          have Hput := Lib.hid (hput.mono hR)
          clear hput hR
          have hp2 : s.d = 0 ∨ (s.d ≠ 0 ∧ s.d = 5) := by omega
          clear hp
          rcases hp2 with h0 | ⟨h0, h5⟩
          · have b0 : (s.d == 0) = true := by simp [h0]
            clear h0
            go_wp2_with (first
              | (refine wpList_load_mid rfl _ _ rfl b 2 rfl (entC s.e) _ HR5.out Tryz.underlying38 rfl (by kernel_rfl) ?_)
              | (go_at_call 18; refine Hput.out.mono ?_; rintro r w3 ⟨ev, _, rfl, hfin⟩; have HF := Lib.hid hfin; clear hfin))
            go_meet
            exact HF.out
          · have b0 : (s.d == 0) = false := by simp [h0]
            have b5 : (s.d == 5) = true := by simp [h5]
            clear h0 h5
            go_wp2_with (first
              | (refine wpList_load_mid rfl _ _ rfl b 2 rfl (entC s.e) _ HR5.out Tryz.underlying38 rfl (by kernel_rfl) ?_)
              | (go_at_call 18; refine Hput.out.mono ?_; rintro r w3 ⟨ev, _, rfl, hfin⟩; have HF := Lib.hid hfin; clear hfin))
            go_meet
            exact HF.out
        · have htake := take_any s.p w2 HT2.out (Nat.lt_of_le_of_lt hsz.2.2.2 (by decide))
          have hR : ∀ r W', TakeR T rt rm w.heap.size nd s.p.data.toList w2 r W' → ∃ gv ev, r = .returned (.tuple #[gv, ev]) ∧ (∃ nd', gv = .int .i64 ((stG (ents nd) s : Nat) : Int) ∧ ev = errV (stN (ents nd) s) ∧ ents nd' = stL (ents nd) s ∧ TreeAt W' T rt rm w.heap.size nd' ∧ Turned T rt rm nd nd' w2 W') := fun r W' ⟨h1, nd', h2, h3, h4⟩ => by
            refine ⟨_, _, h1, nd', ?_, ?_, ?_, h3, h4⟩
            · unfold stG; rw [if_neg hp]
            · unfold stN; rw [if_neg hp]
            · unfold stL; rw [if_neg hp]; exact h2
          have Htake := Lib.hid (htake.mono hR)
          have b0 : (s.d == 0) = false := by simp; omega
          have b5 : (s.d == 5) = false := by simp; omega
          clear htake hR hp
          go_wp2_with (first
            | (go_at_call 19; refine Htake.out.mono ?_; rintro r w3 ⟨gv, ev, rfl, hfin⟩; have HF := Lib.hid hfin; clear hfin))
          go_meet
          exact HF.out
      case rest =>
        obtain ⟨nd', hgv, hev, he, ht, hu⟩ := hcut
        obtain ⟨G, hG⟩ : ∃ x : Int, x = ((stG (ents nd) s : Nat) : Int) := ⟨_, rfl⟩
        rw [← hG] at hgv
        subst hgv
        have hmid : Mid w wc T rt rm nd' (.slice o0 n0 cap0) (ents nd) b s := ⟨ht, HA2.out.turned hu, HO2.out.turned hu HNB.out, HB2.out.trans (hu.below HT2.out)⟩
        obtain ⟨n1, hn1⟩ : ∃ x, x = (ents nd').length := ⟨_, rfl⟩
        obtain ⟨B1, hB1⟩ : ∃ x, x = bytesE (ents nd') := ⟨_, rfl⟩
        have hg1 := ht.good
        have hlen1 : n1 ≤ 4096 := by rw [hn1]; exact hg1.len
        have hbyt1 : B1 ≤ 16777216 := by rw [hB1]; exact hg1.byt
        have hlist : Calls Tryz.prog 20 #[.pointer (some ⟨T, 0, none⟩)] wc fun r W' => ∃ o cap, r = .returned (.slice o n1 cap) ∧ n1 ≤ cap ∧ cap ≤ maxLen ∧ WasAt W' T rt rm nd' (.slice o n1 cap) (ents nd') ∧ Below wc.heap.size wc W' :=
          (list_any wc ht).mono fun r W' ⟨vv, h1, h2, h3⟩ => by
            have hw := WasAt.of_row ht h2
            obtain ⟨oo, cc, rfl, q1, q2, _⟩ := id hw.ents
            rw [← hn1] at hw h1 q1
            exact ⟨oo, cc, h1, q1, q2, hw, h3⟩
        have hsize := fun (W : World) (hW : TreeAt W T rt rm w.heap.size nd') => size_any W hW
        rw [← hn1, ← hB1] at hsize
        have hchk := fun (W : World) (vv : Value) (hv : EntsAt W vv (ents nd')) => (tcheck_any vv (ents nd') W hv hg1.small)
        rw [show errT (ents nd') = .nilIface by unfold errT; rw [hg1.check]; rfl] at hchk
        have hbytes := fun (W : World) (vv : Value) (hv : EntsAt W vv (ents nd')) => bytes07_any vv (ents nd') W hv (by omega) (by omega)
        rw [← hB1] at hbytes
        have Hlist := Lib.hid hlist
        have Hsize := Lib.hid hsize
        have Hchk := Lib.hid hchk
        have Hbytes := Lib.hid hbytes
        have MC := Lib.hid hmid
        have HG1 := Lib.hid hg1
        have Hev := Lib.hid hev
        have HGv := Lib.hid hG
        have He := Lib.hid he
        have Hn1 := Lib.hid hn1
        have Hsz := Lib.hid hsz
        clear hlist hsize hchk hbytes hmid hg1 hev hG he hn1 hB1 ht hu hsz x0 x2 x7 HR5 HO2 HT2 HA2 HB2 HNB HW2 HB0 Hcw Hone
        go_upto_region 20 with (first
          | (go_at_call 20; refine Hlist.out.mono ?_; rintro r w3 ⟨o9, cap9, rfl, k1, k2, hv, hb⟩
             have M3 := Lib.hid (MC.out.below hb)
             have V3 := Lib.hid hv
             clear hb hv)
          | (go_at_call 21; refine (Hsize.out w3 M3.out.tree).mono ?_; rintro r w4 ⟨rfl, hs⟩
             have M4 := Lib.hid (M3.out.below (below_of_same0 hs))
             have V4 := Lib.hid (V3.out.below (below_of_same0 hs))
             clear hs M3 V3)
          | (go_at_call 14; refine (Hchk.out w4 _ V4.out.ents).mono ?_; rintro r w5 ⟨rfl, hb⟩
             have M5 := Lib.hid (M4.out.below hb)
             have V5 := Lib.hid (V4.out.below hb)
             clear hb M4 V4)
          | (go_at_call 22; refine (Hbytes.out w5 _ V5.out.ents).mono ?_; rintro r w6 ⟨rfl, rfl⟩))
        have hn0l2 : n0 ≤ 4096 := hn0l
        by_cases hN : stN (ents nd) s = 0
        · obtain rfl : u8 = .nilIface := by rw [Hev.out, hN]; rfl
          obtain ⟨x0, x2, x7, x5⟩ := M5.out.obj.cells
          clear x5
          by_cases hp : s.d = 0 ∨ s.d = 5
          · obtain ⟨g0, gl, gb⟩ := st_put HG.out hN hp
            obtain rfl : G = 0 := by rw [HGv.out, g0]; rfl
            have hsp : s.e.p.size ≤ 1048576 := Hsz.out.1
            have hget : Calls Tryz.prog 24 #[.pointer (some ⟨T, 0, none⟩), .string s.e.p] w6 fun r W' => r = .returned (.tuple #[.agg (entC s.e).toArray, .bool true]) ∧ Below w6.heap.size w6 W' :=
              (get_any s.e.p w6 M5.out.tree (by omega)).mono fun r W' ⟨h1, h2⟩ => by
                rw [show lookE (ents nd') s.e.p.data.toList = some s.e by rw [He.out]; exact gl] at h1
                exact ⟨h1, h2⟩
            obtain ⟨Lb, hLb⟩ : ∃ x, x = butL (ents nd) s.e.p.data.toList := ⟨_, rfl⟩
            have hLbl : Lb.length ≤ 4096 := by rw [hLb]; exact Nat.le_trans (but_le _ _) (by rw [← Hn0.out]; exact hn0l)
            have hbut1 := fun (W : World) (hv : EntsAt W (.slice o9 n1 cap9) (ents nd')) => but07_any (.slice o9 n1 cap9) (ents nd') s.e.p W hv HG1.out.small (by rw [← Hn1.out]; omega) (by omega)
            have hbut2 := fun (W : World) (hv : EntsAt W (.slice o0 n0 cap0) (ents nd)) => but07_any (.slice o0 n0 cap0) (ents nd) s.e.p W hv HG.out.small (by rw [← Hn0.out]; omega) (by omega)
            rw [show butL (ents nd') s.e.p.data.toList = Lb by rw [hLb, He.out]; exact gb] at hbut1
            rw [← hLb] at hbut2
            have Hget := Lib.hid hget
            have Hbut1 := Lib.hid hbut1
            have Hbut2 := Lib.hid hbut2
            have Hsame := Lib.hid (fun (va vb : Value) (W : World) (h1 : EntsAt W va Lb) (h2 : EntsAt W vb Lb) => same_any va vb Lb W h1 h2 (by omega))
            have HoneE := Lib.hid (entC_one s.e)
            clear hget hbut1 hbut2 hLb gl gb g0 hsp
            have hp2 : s.d = 0 ∨ (s.d ≠ 0 ∧ s.d = 5) := by omega
            clear hp hN
            rcases hp2 with h0 | ⟨h0, h5⟩
            case inl =>
              have b0 : (s.d == 0) = true := by simp [h0]
              clear h0
              go_upto_region 25 with (first
                | (go_at_call 24; refine Hget.out.mono ?_; rintro r w7 ⟨rfl, hb⟩
                   have M7 := Lib.hid (M5.out.below hb)
                   have V7 := Lib.hid (V5.out.below hb)
                   have HZ := Lib.hid (World.alloc_heap_new w7 (.cells #[.string ⟨#[]⟩, .int .i64 0, .int .i64 0, .string ⟨#[]⟩, .string ⟨#[]⟩] 38))
                   obtain ⟨w8, hw8⟩ : ∃ x, x = ((w7.alloc (.cells #[.string ⟨#[]⟩, .int .i64 0, .int .i64 0, .string ⟨#[]⟩, .string ⟨#[]⟩] 38)).setRow w7.heap.size (entC s.e).toArray) := ⟨_, rfl⟩
                   have hbz := (show Below w7.heap.size w7 w8 from (by
                     have h := (Below.refl w7.heap.size w7).alloc (Nat.le_refl _) (.cells #[.string ⟨#[]⟩, .int .i64 0, .int .i64 0, .string ⟨#[]⟩, .string ⟨#[]⟩] 38)
                     rw [hw8]
                     exact ⟨h.os, h.tape, h.output, by simp, fun j hj => (setRow_other _ w7.heap.size j _ (by omega)).trans (h.block j hj)⟩))
                   have HW8 := Lib.hid hw8
                   have HX8 := Lib.hid (show w8.heap[w7.heap.size]? = some (.cells (entC s.e).toArray 38 (0, 0)) from (by rw [hw8]; exact setRow_at HZ.out))
                   have M8 := Lib.hid (M7.out.below hbz)
                   have V8 := Lib.hid (V7.out.below hbz)
                   clear hb hbz hw8 M7 V7)
                | (refine wpList_store_row rfl _ _ _ rfl w7.heap.size (entC s.e).toArray rfl rfl 38 _ HZ.out (by kernel_rfl) rfl HoneE.out ?_; rw [← HW8.out]))
              clear x0 x2 x7
              generalize hb9 : w7.heap.size = b9 at *
              have hd9 : Below w8.heap.size w8 w8.drew := below_drew (Below.refl _ _)
              have M9 := Lib.hid (M8.out.below hd9)
              have V9 := Lib.hid (V8.out.below hd9)
              have hXd := ent_cells HX8.out
              have g0 : w8.cell? ⟨b9, 0, none⟩ = some (.string s.e.p) := hXd 0 _ rfl
              have g1 : w8.cell? ⟨b9, 1, none⟩ = some (.int .i64 s.e.k) := hXd 1 _ rfl
              have g2 : w8.cell? ⟨b9, 2, none⟩ = some (.int .i64 s.e.m) := hXd 2 _ rfl
              have g3 : w8.cell? ⟨b9, 3, none⟩ = some (.string s.e.d) := hXd 3 _ rfl
              have g4 : w8.cell? ⟨b9, 4, none⟩ = some (.string s.e.l) := hXd 4 _ rfl
              have x58 := M8.out.obj.cells.2.2.2
              have q3 : w8.cell? ⟨b, 3, none⟩ = some (.int .i64 s.e.k) := x58 1 _ rfl
              have q4 : w8.cell? ⟨b, 4, none⟩ = some (.int .i64 s.e.m) := x58 2 _ rfl
              have q5 : w8.cell? ⟨b, 5, none⟩ = some (.string s.e.d) := x58 3 _ rfl
              have q6 : w8.cell? ⟨b, 6, none⟩ = some (.string s.e.l) := x58 4 _ rfl
              have q2 : w8.cell? ⟨b, 2, none⟩ = some (.string s.e.p) := M8.out.obj.cells.2.1
              obtain ⟨x0, x2, x7, x5⟩ := M9.out.obj.cells
              clear x0 x2 x5 x7 x58 hXd hd9 M8 V8
              have hsd : w8.drew.cell? ⟨b9, 0, none⟩ = some (.string s.e.p) ∧ w8.drew.cell? ⟨b9, 1, none⟩ = some (.int .i64 s.e.k) ∧ w8.drew.cell? ⟨b9, 2, none⟩ = some (.int .i64 s.e.m) ∧ w8.drew.cell? ⟨b9, 3, none⟩ = some (.string s.e.d) ∧ w8.drew.cell? ⟨b9, 4, none⟩ = some (.string s.e.l) ∧ w8.drew.cell? ⟨b, 2, none⟩ = some (.string s.e.p) ∧ w8.drew.cell? ⟨b, 3, none⟩ = some (.int .i64 s.e.k) ∧ w8.drew.cell? ⟨b, 4, none⟩ = some (.int .i64 s.e.m) ∧ w8.drew.cell? ⟨b, 5, none⟩ = some (.string s.e.d) ∧ w8.drew.cell? ⟨b, 6, none⟩ = some (.string s.e.l) := ⟨g0, g1, g2, g3, g4, q2, q3, q4, q5, q6⟩
              have hmk : ∀ W, Below w8.heap.size w8 W → W.cell? ⟨b9, 0, none⟩ = some (.string s.e.p) ∧ W.cell? ⟨b9, 1, none⟩ = some (.int .i64 s.e.k) ∧ W.cell? ⟨b9, 2, none⟩ = some (.int .i64 s.e.m) ∧ W.cell? ⟨b9, 3, none⟩ = some (.string s.e.d) ∧ W.cell? ⟨b9, 4, none⟩ = some (.string s.e.l) ∧ W.cell? ⟨b, 2, none⟩ = some (.string s.e.p) ∧ W.cell? ⟨b, 3, none⟩ = some (.int .i64 s.e.k) ∧ W.cell? ⟨b, 4, none⟩ = some (.int .i64 s.e.m) ∧ W.cell? ⟨b, 5, none⟩ = some (.string s.e.d) ∧ W.cell? ⟨b, 6, none⟩ = some (.string s.e.l) := fun W hW =>
                ⟨(hW.cell (p := ⟨b9, 0, none⟩) (lt_of_cell0 g0)).trans g0, (hW.cell (p := ⟨b9, 1, none⟩) (lt_of_cell0 g1)).trans g1, (hW.cell (p := ⟨b9, 2, none⟩) (lt_of_cell0 g2)).trans g2, (hW.cell (p := ⟨b9, 3, none⟩) (lt_of_cell0 g3)).trans g3, (hW.cell (p := ⟨b9, 4, none⟩) (lt_of_cell0 g4)).trans g4, (hW.cell (p := ⟨b, 2, none⟩) (lt_of_cell0 q2)).trans q2, (hW.cell (p := ⟨b, 3, none⟩) (lt_of_cell0 q3)).trans q3, (hW.cell (p := ⟨b, 4, none⟩) (lt_of_cell0 q4)).trans q4, (hW.cell (p := ⟨b, 5, none⟩) (lt_of_cell0 q5)).trans q5, (hW.cell (p := ⟨b, 6, none⟩) (lt_of_cell0 q6)).trans q6⟩
              have HMK := Lib.hid hmk
              have D9 := Lib.hid (below_drew (Below.refl _ _) : Below w8.heap.size w8 w8.drew)
              clear hmk g0 g1 g2 g3 g4 q2 q3 q4 q5 q6
              go_region_held3 (fun W => W.cell? ⟨b9, 0, none⟩ = some (.string s.e.p) ∧ W.cell? ⟨b9, 1, none⟩ = some (.int .i64 s.e.k) ∧ W.cell? ⟨b9, 2, none⟩ = some (.int .i64 s.e.m) ∧ W.cell? ⟨b9, 3, none⟩ = some (.string s.e.d) ∧ W.cell? ⟨b9, 4, none⟩ = some (.string s.e.l) ∧ W.cell? ⟨b, 2, none⟩ = some (.string s.e.p) ∧ W.cell? ⟨b, 3, none⟩ = some (.int .i64 s.e.k) ∧ W.cell? ⟨b, 4, none⟩ = some (.int .i64 s.e.m) ∧ W.cell? ⟨b, 5, none⟩ = some (.string s.e.d) ∧ W.cell? ⟨b, 6, none⟩ = some (.string s.e.l)) (first | assumption | go_keep)
                (first
                | (go_at_call 25; first
                   | (refine (Hbut1.out w8.drew V9.out.ents).mono ?_; rintro r wa ⟨va, rfl, hva, hb⟩
                      have Ma := Lib.hid (M9.out.below hb)
                      have Va := Lib.hid (V9.out.below hb)
                      have HVa := Lib.hid hva
                      have Da := Lib.hid (D9.out.trans (hb.mono D9.out.size))
                      have hsa := HMK.out wa Da.out
                      clear hb hva Hbut1)
                   | (refine (Hbut2.out wa Ma.out.was.ents).mono ?_; rintro r wb ⟨vb, rfl, hvb, hb⟩
                      have Mb := Lib.hid (Ma.out.below hb)
                      have Vb := Lib.hid (Va.out.below hb)
                      have HVa2 := Lib.hid (HVa.out.below hb (Nat.le_refl _))
                      have HVb := Lib.hid hvb
                      have Db := Lib.hid (Da.out.trans (hb.mono Da.out.size))
                      have hsb := HMK.out wb Db.out
                      clear hb hvb Hbut2))
                | (go_at_call 23; refine (Hsame.out _ _ wb HVa2.out HVb.out).mono ?_; rintro r wc2 ⟨hb, rfl⟩
                   have Mc := Lib.hid (Mb.out.below hb)
                   have Vc := Lib.hid (Vb.out.below hb)
                   have hsc := HMK.out wc2 (Db.out.trans (hb.mono Db.out.size))
                   clear hb))
              all_goals go_wp2_with fail
              all_goals go_roundw
              all_goals first
                | exact ⟨k + 1, nd', by go_num, by omega, Mc.out.tree, Vc.out, Mc.out.bel⟩
                | (simp [intOf]; omega)
            case inr =>
              have b0 : (s.d == 0) = false := by simp [h0]
              have b5 : (s.d == 5) = true := by simp [h5]
              clear h0 h5
              go_upto_region 25 with (first
                | (go_at_call 24; refine Hget.out.mono ?_; rintro r w7 ⟨rfl, hb⟩
                   have M7 := Lib.hid (M5.out.below hb)
                   have V7 := Lib.hid (V5.out.below hb)
                   have HZ := Lib.hid (World.alloc_heap_new w7 (.cells #[.string ⟨#[]⟩, .int .i64 0, .int .i64 0, .string ⟨#[]⟩, .string ⟨#[]⟩] 38))
                   obtain ⟨w8, hw8⟩ : ∃ x, x = ((w7.alloc (.cells #[.string ⟨#[]⟩, .int .i64 0, .int .i64 0, .string ⟨#[]⟩, .string ⟨#[]⟩] 38)).setRow w7.heap.size (entC s.e).toArray) := ⟨_, rfl⟩
                   have hbz := (show Below w7.heap.size w7 w8 from (by
                     have h := (Below.refl w7.heap.size w7).alloc (Nat.le_refl _) (.cells #[.string ⟨#[]⟩, .int .i64 0, .int .i64 0, .string ⟨#[]⟩, .string ⟨#[]⟩] 38)
                     rw [hw8]
                     exact ⟨h.os, h.tape, h.output, by simp, fun j hj => (setRow_other _ w7.heap.size j _ (by omega)).trans (h.block j hj)⟩))
                   have HW8 := Lib.hid hw8
                   have HX8 := Lib.hid (show w8.heap[w7.heap.size]? = some (.cells (entC s.e).toArray 38 (0, 0)) from (by rw [hw8]; exact setRow_at HZ.out))
                   have M8 := Lib.hid (M7.out.below hbz)
                   have V8 := Lib.hid (V7.out.below hbz)
                   clear hb hbz hw8 M7 V7)
                | (refine wpList_store_row rfl _ _ _ rfl w7.heap.size (entC s.e).toArray rfl rfl 38 _ HZ.out (by kernel_rfl) rfl HoneE.out ?_; rw [← HW8.out]))
              clear x0 x2 x7
              generalize hb9 : w7.heap.size = b9 at *
              have hd9 : Below w8.heap.size w8 w8.drew := below_drew (Below.refl _ _)
              have M9 := Lib.hid (M8.out.below hd9)
              have V9 := Lib.hid (V8.out.below hd9)
              have hXd := ent_cells HX8.out
              have g0 : w8.cell? ⟨b9, 0, none⟩ = some (.string s.e.p) := hXd 0 _ rfl
              have g1 : w8.cell? ⟨b9, 1, none⟩ = some (.int .i64 s.e.k) := hXd 1 _ rfl
              have g2 : w8.cell? ⟨b9, 2, none⟩ = some (.int .i64 s.e.m) := hXd 2 _ rfl
              have g3 : w8.cell? ⟨b9, 3, none⟩ = some (.string s.e.d) := hXd 3 _ rfl
              have g4 : w8.cell? ⟨b9, 4, none⟩ = some (.string s.e.l) := hXd 4 _ rfl
              have x58 := M8.out.obj.cells.2.2.2
              have q3 : w8.cell? ⟨b, 3, none⟩ = some (.int .i64 s.e.k) := x58 1 _ rfl
              have q4 : w8.cell? ⟨b, 4, none⟩ = some (.int .i64 s.e.m) := x58 2 _ rfl
              have q5 : w8.cell? ⟨b, 5, none⟩ = some (.string s.e.d) := x58 3 _ rfl
              have q6 : w8.cell? ⟨b, 6, none⟩ = some (.string s.e.l) := x58 4 _ rfl
              have q2 : w8.cell? ⟨b, 2, none⟩ = some (.string s.e.p) := M8.out.obj.cells.2.1
              obtain ⟨x0, x2, x7, x5⟩ := M9.out.obj.cells
              clear x0 x2 x5 x7 x58 hXd hd9 M8 V8
              have hsd : w8.drew.cell? ⟨b9, 0, none⟩ = some (.string s.e.p) ∧ w8.drew.cell? ⟨b9, 1, none⟩ = some (.int .i64 s.e.k) ∧ w8.drew.cell? ⟨b9, 2, none⟩ = some (.int .i64 s.e.m) ∧ w8.drew.cell? ⟨b9, 3, none⟩ = some (.string s.e.d) ∧ w8.drew.cell? ⟨b9, 4, none⟩ = some (.string s.e.l) ∧ w8.drew.cell? ⟨b, 2, none⟩ = some (.string s.e.p) ∧ w8.drew.cell? ⟨b, 3, none⟩ = some (.int .i64 s.e.k) ∧ w8.drew.cell? ⟨b, 4, none⟩ = some (.int .i64 s.e.m) ∧ w8.drew.cell? ⟨b, 5, none⟩ = some (.string s.e.d) ∧ w8.drew.cell? ⟨b, 6, none⟩ = some (.string s.e.l) := ⟨g0, g1, g2, g3, g4, q2, q3, q4, q5, q6⟩
              have hmk : ∀ W, Below w8.heap.size w8 W → W.cell? ⟨b9, 0, none⟩ = some (.string s.e.p) ∧ W.cell? ⟨b9, 1, none⟩ = some (.int .i64 s.e.k) ∧ W.cell? ⟨b9, 2, none⟩ = some (.int .i64 s.e.m) ∧ W.cell? ⟨b9, 3, none⟩ = some (.string s.e.d) ∧ W.cell? ⟨b9, 4, none⟩ = some (.string s.e.l) ∧ W.cell? ⟨b, 2, none⟩ = some (.string s.e.p) ∧ W.cell? ⟨b, 3, none⟩ = some (.int .i64 s.e.k) ∧ W.cell? ⟨b, 4, none⟩ = some (.int .i64 s.e.m) ∧ W.cell? ⟨b, 5, none⟩ = some (.string s.e.d) ∧ W.cell? ⟨b, 6, none⟩ = some (.string s.e.l) := fun W hW =>
                ⟨(hW.cell (p := ⟨b9, 0, none⟩) (lt_of_cell0 g0)).trans g0, (hW.cell (p := ⟨b9, 1, none⟩) (lt_of_cell0 g1)).trans g1, (hW.cell (p := ⟨b9, 2, none⟩) (lt_of_cell0 g2)).trans g2, (hW.cell (p := ⟨b9, 3, none⟩) (lt_of_cell0 g3)).trans g3, (hW.cell (p := ⟨b9, 4, none⟩) (lt_of_cell0 g4)).trans g4, (hW.cell (p := ⟨b, 2, none⟩) (lt_of_cell0 q2)).trans q2, (hW.cell (p := ⟨b, 3, none⟩) (lt_of_cell0 q3)).trans q3, (hW.cell (p := ⟨b, 4, none⟩) (lt_of_cell0 q4)).trans q4, (hW.cell (p := ⟨b, 5, none⟩) (lt_of_cell0 q5)).trans q5, (hW.cell (p := ⟨b, 6, none⟩) (lt_of_cell0 q6)).trans q6⟩
              have HMK := Lib.hid hmk
              have D9 := Lib.hid (below_drew (Below.refl _ _) : Below w8.heap.size w8 w8.drew)
              clear hmk g0 g1 g2 g3 g4 q2 q3 q4 q5 q6
              go_region_held3 (fun W => W.cell? ⟨b9, 0, none⟩ = some (.string s.e.p) ∧ W.cell? ⟨b9, 1, none⟩ = some (.int .i64 s.e.k) ∧ W.cell? ⟨b9, 2, none⟩ = some (.int .i64 s.e.m) ∧ W.cell? ⟨b9, 3, none⟩ = some (.string s.e.d) ∧ W.cell? ⟨b9, 4, none⟩ = some (.string s.e.l) ∧ W.cell? ⟨b, 2, none⟩ = some (.string s.e.p) ∧ W.cell? ⟨b, 3, none⟩ = some (.int .i64 s.e.k) ∧ W.cell? ⟨b, 4, none⟩ = some (.int .i64 s.e.m) ∧ W.cell? ⟨b, 5, none⟩ = some (.string s.e.d) ∧ W.cell? ⟨b, 6, none⟩ = some (.string s.e.l)) (first | assumption | go_keep)
                (first
                | (go_at_call 25; first
                   | (refine (Hbut1.out w8.drew V9.out.ents).mono ?_; rintro r wa ⟨va, rfl, hva, hb⟩
                      have Ma := Lib.hid (M9.out.below hb)
                      have Va := Lib.hid (V9.out.below hb)
                      have HVa := Lib.hid hva
                      have Da := Lib.hid (D9.out.trans (hb.mono D9.out.size))
                      have hsa := HMK.out wa Da.out
                      clear hb hva Hbut1)
                   | (refine (Hbut2.out wa Ma.out.was.ents).mono ?_; rintro r wb ⟨vb, rfl, hvb, hb⟩
                      have Mb := Lib.hid (Ma.out.below hb)
                      have Vb := Lib.hid (Va.out.below hb)
                      have HVa2 := Lib.hid (HVa.out.below hb (Nat.le_refl _))
                      have HVb := Lib.hid hvb
                      have Db := Lib.hid (Da.out.trans (hb.mono Da.out.size))
                      have hsb := HMK.out wb Db.out
                      clear hb hvb Hbut2))
                | (go_at_call 23; refine (Hsame.out _ _ wb HVa2.out HVb.out).mono ?_; rintro r wc2 ⟨hb, rfl⟩
                   have Mc := Lib.hid (Mb.out.below hb)
                   have Vc := Lib.hid (Vb.out.below hb)
                   have hsc := HMK.out wc2 (Db.out.trans (hb.mono Db.out.size))
                   clear hb))
              all_goals go_wp2_with fail
              all_goals go_roundw
              all_goals first
                | exact ⟨k + 1, nd', by go_num, by omega, Mc.out.tree, Vc.out, Mc.out.bel⟩
                | (simp [intOf]; omega)
          · obtain ⟨t1, t2, t3⟩ := st_take hN hp
            have b0 : (s.d == 0) = false := by simp; omega
            have b5 : (s.d == 5) = false := by simp; omega
            have hLk : withoutL (ents nd) s.p.data.toList = ents nd' := by rw [He.out]; exact t1.symm
            rw [hLk, ← Hn1.out, ← Hn0.out] at t2 t3
            obtain rfl : G = (n0 : Int) - (n1 : Int) := by rw [HGv.out, t2]; omega
            have hkept : Calls Tryz.prog 26 #[.slice o0 n0 cap0, .string s.p] w6 fun r W' => ∃ oK capK, r = .returned (.slice oK n1 capK) ∧ n1 ≤ capK ∧ capK ≤ maxLen ∧ EntsAt W' (.slice oK n1 capK) (ents nd') ∧ Below w6.heap.size w6 W' :=
              (kept07_any (.slice o0 n0 cap0) (ents nd) s.p w6 M5.out.was.ents HG.out.small (by rw [← Hn0.out]; omega) (by have := Hsz.out.2.2.2; omega)).mono fun r W' ⟨vv, h1, h2, h3⟩ => by
                rw [hLk] at h2
                obtain ⟨oo, cc, rfl, q1, q2, _⟩ := id h2
                rw [← Hn1.out] at h1 h2 q1
                exact ⟨oo, cc, h1, q1, q2, h2, h3⟩
            have Hkept := Lib.hid hkept
            have Hsame := Lib.hid (fun (va vb : Value) (W : World) (h1 : EntsAt W va (ents nd')) (h2 : EntsAt W vb (ents nd')) => same_any va vb (ents nd') W h1 h2 (by rw [← Hn1.out]; omega))
            clear hkept hLk t1 t2 hp hN
            go_wp2_with (first
              | (go_at_call 26; refine Hkept.out.mono ?_; rintro r w7 ⟨oK, capK, rfl, k3, k4, hv, hb⟩
                 have M7 := Lib.hid (M5.out.below hb)
                 have V7 := Lib.hid (V5.out.below hb)
                 have K7 := Lib.hid hv
                 clear hb hv)
              | (go_at_call 23; refine (Hsame.out _ _ w7 V7.out.ents K7.out).mono ?_; rintro r w8 ⟨hb, rfl⟩
                 have M8 := Lib.hid (M7.out.below hb)
                 have V8 := Lib.hid (V7.out.below hb)
                 clear hb M7 V7))
            go_roundw
            case rel => exact ⟨k + 1, nd', by go_num, by omega, M8.out.tree, V8.out, M8.out.bel⟩
            case measure => simp [intOf]; omega
        · obtain ⟨e1, e2⟩ := st_err hN
          obtain rfl : u8 = _ := Hev.out.trans (errV_pos hN)
          obtain rfl : G = 0 := by rw [HGv.out, e2]; rfl
          have he1 : ents nd' = ents nd := He.out.trans e1
          have Hsame := Lib.hid (fun (W : World) (h1 : EntsAt W (.slice o9 n1 cap9) (ents nd')) (h2 : EntsAt W (.slice o0 n0 cap0) (ents nd)) => same_any (.slice o9 n1 cap9) (.slice o0 n0 cap0) (ents nd) W (he1 ▸ h1) h2 (by rw [← Hn0.out]; omega))
          have He1 := Lib.hid he1
          clear e1 e2 he1 hN
          go_wp2_with (first
            | (go_at_call 23; refine (Hsame.out w6 V5.out.ents M5.out.was.ents).mono ?_; rintro r w8 ⟨hb, rfl⟩
               have M8 := Lib.hid (M5.out.below hb)
               clear hb))
          go_roundw
          case rel => exact ⟨k + 1, nd', by go_num, by omega, M8.out.tree, by rw [He1.out]; exact M8.out.was, M8.out.bel⟩
          case measure => simp [intOf]; omega
    · obtain rfl : k = n := by omega
      have hg1 := ht.good
      have hof : Calls Tryz.prog 27 #[.slice o0 n0 cap0] wr fun r W' => ∃ T2 rt2 rm2 nd2, r = .returned (.tuple #[.pointer (some ⟨T2, 0, none⟩), .nilIface]) ∧ TreeAt W' T2 rt2 rm2 wr.heap.size nd2 ∧ ents nd2 = ents nd ∧ Below wr.heap.size wr W' :=
        (tof_any (.slice o0 n0 cap0) (ents nd) wr hwas.ents hg1.small).mono fun r W' ⟨h1, _, h3⟩ => by
          obtain ⟨T2, rt2, rm2, nd2, q1, q2, q3⟩ := h1 (by rw [hg1.check])
          exact ⟨T2, rt2, rm2, nd2, q1, q2, q3, h3⟩
      have Hof := Lib.hid hof
      have HE := Lib.hid hwas.ents
      have Hbr := Lib.hid hbr
      have Hsame := Lib.hid (fun (va vb : Value) (W : World) (h1 : EntsAt W va (ents nd)) (h2 : EntsAt W vb (ents nd)) => same_any va vb (ents nd) W h1 h2 (by rw [← Hn0.out]; omega))
      clear hof hwas hbr hg1 ht
      go_wp2_with (first
        | (go_at_call 27; refine Hof.out.mono ?_; rintro r w3 ⟨T2, rt2, rm2, nd2, rfl, ht2, he2, hb⟩
           have HT3 := Lib.hid ht2
           have HE2 := Lib.hid he2
           have HE3 := Lib.hid (HE.out.below hb (Nat.le_refl _))
           have HB3 := Lib.hid (Hbr.out.trans (hb.mono Hbr.out.size))
           clear hb ht2 he2)
        | (go_at_call 20; refine (list_any w3 HT3.out).mono ?_; rintro r w4 ⟨v4, rfl, hrow, hb⟩
           have HV4 := Lib.hid (show EntsAt w4 v4 (ents nd) from (by have := ents_of_row hrow; rw [HE2.out] at this; exact this))
           have HE4 := Lib.hid (HE3.out.below hb (Nat.le_refl _))
           have HB4 := Lib.hid (HB3.out.trans (hb.mono HB3.out.size))
           clear hb hrow)
        | (go_at_call 23; refine (Hsame.out _ _ w4 HV4.out HE4.out).mono ?_; rintro r w5 ⟨hb, rfl⟩
           have HB5 := Lib.hid (HB4.out.trans (hb.mono HB4.out.size))
           clear hb))
      go_ret
      exact ⟨rfl, HB5.out⟩
end Go.Proofs.YtdkodedocklmdaaGreatDoor
