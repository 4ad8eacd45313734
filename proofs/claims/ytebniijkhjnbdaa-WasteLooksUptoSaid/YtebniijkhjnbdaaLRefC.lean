/- The reference's lost. -/
import Derived.Test.YtebniijkhjnbdaaLRefB
import Derived.Test.YtebniijkhjnbdaaGInv
set_option linter.unusedSimpArgs false
set_option linter.unusedVariables false
namespace Go.Proofs.Ytebniijkhjnbdaa
open Go.RowKit Go.Maps
open Go.Lib hiding intOf size_eq
theorem act_open {P : Program} {c : Code} {Q : Exit → Act → World → Prop} {a : Act} {w : World} (h : ∀ a0, a0 = a → c.wp P Q a0 w) : c.wp P Q a w := h a rfl
theorem below_setCell2 {w W : World} {b j : Nat} (h : Below w.heap.size w W) (hb : w.heap.size ≤ b) (v : Value) : Below w.heap.size w (W.setCell ⟨b, j, none⟩ v) :=
  ⟨h.os, h.tape, h.output, by simpa using h.size, fun k hk => (Below.heap_setCell _ _ _ _ (by show k ≠ b; omega)).trans (h.block k hk)⟩
theorem below_setCell3 {w W : World} {B b j : Nat} (h : Below B w W) (hb : B ≤ b) (v : Value) : Below B w (W.setCell ⟨b, j, none⟩ v) :=
  ⟨h.os, h.tape, h.output, by simpa using h.size, fun k hk => (Below.heap_setCell _ _ _ _ (by show k ≠ b; omega)).trans (h.block k hk)⟩
theorem results_row_tmp {fn : Func} {p u : Tmp} {ty : TypeId} {P : Program} (h : fn.results = #[.cell p ty, .tmp u]) (tmps : Array Value) (w : World) (a : Nat) (ca : Array Value)
    (hp : tmps.getD p undef = .pointer (some ⟨a, 0, none⟩)) (ha : (loadVar ty ⟨a, 0, none⟩).run P w = .ok (.agg ca) w) : (results fn tmps).run P w = .ok (.tuple #[.agg ca, tmps.getD u undef]) w := by
  have hp' : tmps[p]?.getD undef = .pointer (some ⟨a, 0, none⟩) := by simpa using hp
  simp [results, h, hp', asAddr, ha]
theorem cell_grownR {w w' : World} (hb : Below w.heap.size w w') {b : Nat} {o : Obj} (h : w.heap[b]? = some o) : w'.heap[b]? = some o := (hb.block b (heap_lt h)).trans h
/-! ## plain: what is counted while it goes -/
theorem brings_total : ∀ (l : List Cw) (c : Cw), c ∈ l → bringsF c ≤ totalR l
  | x :: r, c, h => by
    unfold totalR
    rw [List.map_cons, List.sum_cons]
    rcases List.mem_cons.1 h with e | h
    · rw [e]; omega
    · have := brings_total r c h
      unfold totalR at this
      omega
theorem lostR_le (p : List UInt8) : ∀ l : List Cw, lostR p l ≤ totalR l
  | [] => Nat.zero_le _
  | c :: r => by
    have := lostR_le p r
    rw [lostR_cons]
    have e : totalR (c :: r) = bringsF c + totalR r := by unfold totalR; rw [List.map_cons, List.sum_cons]
    rw [e]
    split <;> omega
theorem timesF_leR (l : List Cw) (p : List UInt8) : timesF l p ≤ l.length := List.length_filter_le _ _
theorem drop_cons {D : List Chg} {k : Nat} {x : Chg} (h : D[k]? = some x) : (D.drop k).map cwOf = cwOf x :: (D.drop (k + 1)).map cwOf := by
  have hk := (List.getElem?_eq_some_iff.1 h).1
  rw [List.drop_eq_getElem_cons hk, List.map_cons, (List.getElem?_eq_some_iff.1 h).2]
/-- where the loop of lost stands -/
structure LostJ (D : List Chg) (c : Chg) (i k T B : Nat) : Prop where
  non : ∀ j, j < k → j < i → ∀ x, D[j]? = some x → x.p ≠ c.p
  tim : T = timesF ((D.take k).map cwOf) c.p.data.toList
  byt : B + lostR c.p.data.toList ((D.drop k).map cwOf) = lostR c.p.data.toList (D.map cwOf)
theorem LostJ.start (D : List Chg) (c : Chg) (i : Nat) : LostJ D c i 0 0 0 := ⟨fun j h => absurd h (by omega), rfl, by simp⟩
theorem path_ne {x c : Chg} (h : x.p ≠ c.p) : ¬ (cwOf x).p = c.p.data.toList := fun e => h (by
  have h1 : x.p.data.toList = c.p.data.toList := e
  have h2 : x.p.data = c.p.data := Array.toList_inj.1 h1
  cases hx : x.p; cases hc : c.p; rw [hx, hc] at h2; cases h2; rfl)
theorem LostJ.skip {D : List Chg} {c x : Chg} {i k T B : Nat} (h : LostJ D c i k T B) (hx : D[k]? = some x) (hne : x.p ≠ c.p) : LostJ D c i (k + 1) T B := by
  have h1 := path_ne hne
  refine ⟨fun j hj hi y hy => ?_, ?_, ?_⟩
  · by_cases e : j = k
    · subst e; rw [hx] at hy; injection hy with hy; subst hy; exact hne
    · exact h.non j (by omega) hi y hy
  · rw [h.tim, ← gtake hx, List.map_append, List.map_singleton, timesF_snoc, if_neg (fun e => h1 e.2), Nat.add_zero]
  · rw [← h.byt, drop_cons hx, lostR_cons, if_neg (fun e => h1 e.1), Nat.zero_add]
theorem LostJ.hit {D : List Chg} {c x : Chg} {i k T B : Nat} (h : LostJ D c i k T B) (hx : D[k]? = some x) (he : x.p = c.p) (hik : i ≤ k) :
    LostJ D c i (k + 1) (T + if x.g = false then 1 else 0) (B + if staysF (cwOf x) ((D.drop (k + 1)).map cwOf) = false then bringsF (cwOf x) else 0) := by
  have h1 : (cwOf x).p = c.p.data.toList := by rw [← he]; rfl
  refine ⟨fun j hj hi y hy => h.non j (by omega) hi y hy, ?_, ?_⟩
  · rw [h.tim, ← gtake hx, List.map_append, List.map_singleton, timesF_snoc]
    congr 1
    by_cases hg : x.g = false
    · rw [if_pos hg, if_pos ⟨hg, h1⟩]
    · rw [if_neg hg, if_neg (fun e => hg e.1)]
  · rw [← h.byt, drop_cons hx, lostR_cons]
    by_cases hs : staysF (cwOf x) ((D.drop (k + 1)).map cwOf) = false
    · rw [if_pos hs, if_pos ⟨h1, hs⟩]; omega
    · rw [if_neg hs, if_neg (fun e => hs e.2)]; omega
theorem LostJ.le {D : List Chg} {c : Chg} {i k T B : Nat} (h : LostJ D c i k T B) : T ≤ D.length ∧ B ≤ totalR (D.map cwOf) := by
  refine ⟨?_, ?_⟩
  · rw [h.tim]
    refine Nat.le_trans (timesF_leR _ _) ?_
    rw [List.length_map, List.length_take]
    omega
  · have := h.byt
    have := lostR_le c.p.data.toList (D.map cwOf)
    omega
/-- the reference's answer of one path -/
def firstB (D : List Chg) (i : Nat) (c : Chg) : Bool := (D.take i).all fun x => decide (x.p ≠ c.p)
theorem first_no {D : List Chg} {i k : Nat} {c x : Chg} (hx : D[k]? = some x) (hk : k < i) (he : x.p = c.p) : firstB D i c = false := by
  unfold firstB
  apply Bool.eq_false_iff.2
  intro h
  have h1 := List.all_eq_true.1 h x (List.mem_of_getElem? (i := k) (by rw [List.getElem?_take, if_pos hk]; exact hx))
  simp [he] at h1
theorem first_yes {D : List Chg} {i T B : Nat} {c : Chg} (h : LostJ D c i D.length T B) : firstB D i c = true := by
  unfold firstB
  refine List.all_eq_true.2 fun x hx => ?_
  obtain ⟨j, hj⟩ := List.getElem?_of_mem hx
  rw [List.getElem?_take] at hj
  split at hj
  · rename_i hji
    simpa using h.non j (List.getElem?_eq_some_iff.1 hj).1 hji x hj
  · cases hj
def lostT (D : List Chg) (i : Nat) (c : Chg) : Nat := if firstB D i c = true then timesF (D.map cwOf) c.p.data.toList else 0
def lostB (D : List Chg) (i : Nat) (c : Chg) : Nat := if firstB D i c = true then lostR c.p.data.toList (D.map cwOf) else 0
theorem LostJ.zero {D : List Chg} {c : Chg} {i k T B : Nat} (h : LostJ D c i k T B) (hk : k < i) (hi : i ≤ D.length) : T = 0 := by
  rw [h.tim]
  unfold timesF
  rw [List.length_eq_zero_iff, List.filter_eq_nil_iff]
  intro y hy
  obtain ⟨x, hx, rfl⟩ := List.mem_map.1 hy
  obtain ⟨j, hj⟩ := List.getElem?_of_mem hx
  rw [List.getElem?_take] at hj
  split at hj
  · rename_i hjk
    have := path_ne (h.non j hjk (by omega) x hj)
    simp [this]
  · cases hj
theorem LostJ.zeroB {D : List Chg} {c : Chg} {i : Nat} : ∀ {k T B : Nat}, LostJ D c i k T B → k ≤ i → k ≤ D.length → B = 0
  | 0, T, B, h, _, _ => by have := h.byt; simp at this; omega
  | k + 1, T, B, h, hk, hl => by
    obtain ⟨x, hx⟩ : ∃ x, D[k]? = some x := ⟨_, List.getElem?_eq_getElem (by omega)⟩
    have h1 := path_ne (h.non k (by omega) (by omega) x hx)
    have hb := h.byt
    refine LostJ.zeroB (k := k) (T := timesF ((D.take k).map cwOf) c.p.data.toList) (B := B) ⟨fun j hj hi y hy => h.non j (by omega) hi y hy, rfl, ?_⟩ (by omega) (by omega)
    rw [drop_cons hx, lostR_cons, if_neg (fun e => h1 e.1), Nat.zero_add]
    exact hb
attribute [local irreducible] wpStill
set_option maxRecDepth 100000 in
set_option maxHeartbeats 16000000 in
theorem rlost_any (g n cap : Nat) (D : List Chg) (i : Nat) (c : Chg) (w : World) (h : ChgsAt w (.slice (some ⟨g, 0, none⟩) n cap) D) (hn : n = D.length) (hl : D.length ≤ 1048576) (hc : D[i]? = some c) (hp : ∀ x ∈ D, x.p.size ≤ 1048576) (ht : totalR (D.map cwOf) ≤ 1048576) :
    Calls Try.prog 22 #[.slice (some ⟨g, 0, none⟩) n cap, .int .i64 (i : Int)] w fun r w' => r = .returned (.tuple #[.agg #[.string c.p, .int .i64 (lostT D i c : Int), .int .i64 (lostB D i c : Int)], .bool (firstB D i c)]) ∧ Below w.heap.size w w' := by
  have hin : i < n := by rw [hn]; exact (List.getElem?_eq_some_iff.1 hc).1
  have hl2 := hl
  rw [← hn] at hl2
  have hget : ∀ k x, D[k]? = some x → g < w.heap.size ∧ ∀ j u, (chgC x)[j]? = some u → w.cell? ⟨g, k * 7 + j, none⟩ = some u := fun k x hx => by
    have h2 := h
    rw [hn] at h2
    obtain ⟨a2, ha2, hab2, hcs2⟩ := h2.get hx
    injection ha2 with ha2
    subst ha2
    refine ⟨hab2, fun j u hu => ?_⟩
    have := hcs2 j u hu
    rw [gadd_new, gadd_new, Nat.zero_add] at this
    exact this
  have hgl := (hget i c hc).1
  have q0 := (hget i c hc).2 0 _ rfl
  have q0a : w.cell? ⟨g, i * 7, none⟩ = some (.string c.p) := q0
  have hstay : ∀ (k : Nat) (x : Chg) (W : World), D[k]? = some x → Below w.heap.size w W → Calls Try.prog 21 #[.slice (some ⟨g, 0, none⟩) n cap, .int .i64 (k : Int)] W fun r w' => r = .returned (.bool (staysF (cwOf x) ((D.drop (k + 1)).map cwOf))) ∧ Below W.heap.size W w' := fun k x W hx hW =>
    rstays_any _ D k x W (h.below hW (Nat.le_refl _)) hl hx hp
  have HS := Lib.hid hstay
  have HG := Lib.hid hget
  have Hn := Lib.hid hn
  have Hc := Lib.hid hc
  have Hp := Lib.hid hp
  have Ht := Lib.hid ht
  clear h hn hl hc hp ht hget q0 hstay
  obtain ⟨tT, htT⟩ : ∃ y, y = lostT D i c := ⟨_, rfl⟩
  obtain ⟨tB, htB⟩ : ∃ y, y = lostB D i c := ⟨_, rfl⟩
  obtain ⟨tF, htF⟩ : ∃ y, y = firstB D i c := ⟨_, rfl⟩
  rw [← htT, ← htB, ← htF]
  have HtT := Lib.hid htT
  have HtB := Lib.hid htB
  have HtF := Lib.hid htF
  clear htT htB htF
  go_enter Try.func22, Try.ntmps22
  go_upto_block 0 with fail
  obtain ⟨w1, hw1⟩ : ∃ y, y = (w.alloc (.cells #[.string ⟨#[]⟩, .int .i64 0, .int .i64 0] 36)).alloc (.cells #[.string c.p, .int .i64 0, .int .i64 0] 36) := ⟨_, rfl⟩
  have hb4 : w1.heap[w.heap.size]? = some (.cells #[.string ⟨#[]⟩, .int .i64 0, .int .i64 0] 36 (0, 0)) := by
    rw [hw1, gheap_old _ _ (by simp)]
    exact World.alloc_heap_new _ _
  have hb6 : w1.heap[w.heap.size + 1]? = some (.cells #[.string c.p, .int .i64 ((0 : Nat) : Int), .int .i64 ((0 : Nat) : Int)] 36 (0, 0)) := by
    have := World.alloc_heap_new (w.alloc (.cells #[.string ⟨#[]⟩, .int .i64 0, .int .i64 0] 36)) (.cells #[.string c.p, .int .i64 0, .int .i64 0] 36)
    rw [show (w.alloc (.cells #[.string ⟨#[]⟩, .int .i64 0, .int .i64 0] 36)).heap.size = w.heap.size + 1 by simp] at this
    rw [hw1]
    exact this
  have hbl : Below w.heap.size w w1 := by rw [hw1]; exact ((Below.refl _ _).alloc (Nat.le_refl _) _).alloc (by simp) _
  rw [← hw1]
  obtain ⟨b4, hb4d⟩ : ∃ y, y = w.heap.size := ⟨_, rfl⟩
  obtain ⟨b6, hb6d⟩ : ∃ y, y = w.heap.size + 1 := ⟨_, rfl⟩
  rw [← hb6d] at hb6 ⊢
  rw [← hb4d] at hb4 ⊢
  have h46 : b4 ≠ b6 := by omega
  have hB4 : w.heap.size ≤ b4 := by omega
  have hB6 : w.heap.size ≤ b6 := by omega
  have HI0 := Lib.hid (⟨hb4, hb6, hbl⟩ : w1.heap[b4]? = some (.cells #[.string ⟨#[]⟩, .int .i64 0, .int .i64 0] 36 (0, 0)) ∧ w1.heap[b6]? = some (.cells #[.string c.p, .int .i64 ((0 : Nat) : Int), .int .i64 ((0 : Nat) : Int)] 36 (0, 0)) ∧ Below w.heap.size w w1)
  have H46 := Lib.hid h46
  have HB4 := Lib.hid hB4
  have HB6 := Lib.hid hB6
  clear hw1 hb4 hb6 hbl hb4d hb6d h46 hB4 hB6
  go_wp2_with fail
  go_loopw [7] (fun kv wr => ∃ k T B : Nat, kv = .int .i64 (k : Int) ∧ k ≤ n ∧ T ≤ 1048576 ∧ B ≤ 1048576 ∧ Hid (LostJ D c i k T B) ∧ Hid (wr.heap[b4]? = some (.cells #[.string ⟨#[]⟩, .int .i64 0, .int .i64 0] 36 (0, 0)) ∧ wr.heap[b6]? = some (.cells #[.string c.p, .int .i64 (T : Int), .int .i64 (B : Int)] 36 (0, 0)) ∧ Below w.heap.size w wr)) (fun kv _ => n - (intOf kv).toNat)
  case atStart => exact ⟨0, 0, 0, rfl, Nat.zero_le _, by omega, by omega, Lib.hid (LostJ.start D c i), HI0⟩
  case round =>
    obtain ⟨k, T, B, rfl, hk, hT, hB, HJ, HI⟩ := hrel
    by_cases hlt : k < n
    · obtain ⟨y, hy⟩ : ∃ y, D[k]? = some y := ⟨_, List.getElem?_eq_getElem (by rw [← Hn.out]; exact hlt)⟩
      have hbz := below_drew HI.out.2.2
      have qy := (HG.out k y hy).2
      have z0 : wr.drew.cell? ⟨g, k * 7, none⟩ = some (.string y.p) := (hbz.cell (p := ⟨g, k * 7, none⟩) hgl).trans (qy 0 _ rfl)
      have z6 : wr.drew.cell? ⟨b6, 0, none⟩ = some (.string c.p) := block_cell (w := wr.drew) (j := 0) (show wr.drew.heap[b6]? = _ from HI.out.2.1) rfl
      have HI2 := Lib.hid (⟨HI.out.1, HI.out.2.1, hbz⟩ : wr.drew.heap[b4]? = some (.cells #[.string ⟨#[]⟩, .int .i64 0, .int .i64 0] 36 (0, 0)) ∧ wr.drew.heap[b6]? = some (.cells #[.string c.p, .int .i64 (T : Int), .int .i64 (B : Int)] 36 (0, 0)) ∧ Below w.heap.size w wr.drew)
      have Hy := Lib.hid hy
      have hkI : (k : Int) < (n : Int) := by omega
      clear hbz qy hy HI
      go_upto_region 5 with fail
      refine gregion_named (by kernel_rfl) (by kernel_rfl) ?_
      intro wz hz
      rw [← hz] at z0 z6 HI2
      clear hz
      cases he : (y.p.toList == c.p.toList)
      · have hne : y.p ≠ c.p := fun e => by rw [e] at he; simp at he
        have HJ2 := Lib.hid (HJ.out.skip Hy.out hne)
        clear hne
        repeat still_step
        refine wpStill_nil ?_
        go_wp2_with fail
        go_roundw
        case rel => exact ⟨k + 1, T, B, by go_num, by omega, hT, hB, HJ2, HI2⟩
        case measure => simp [intOf]; omega
      · have hpe : y.p = c.p := by
          have h1 : y.p.data.toList = c.p.data.toList := by rw [toList_data, toList_data] at he; simpa using he
          have h2 : y.p.data = c.p.data := Array.toList_inj.1 h1
          cases hx : y.p
          cases hc : c.p
          rw [hx, hc] at h2
          cases h2
          rfl
        repeat still_step
        refine wpStill_nil ?_
        by_cases hki : k < i
        · have hkiI : (k : Int) < (i : Int) := by omega
          have eF : tF = false := HtF.out.trans (first_no Hy.out hki hpe)
          have eT : tT = 0 := by rw [HtT.out]; unfold lostT; rw [if_neg (by rw [first_no Hy.out hki hpe]; decide)]
          have eB : tB = 0 := by rw [HtB.out]; unfold lostB; rw [if_neg (by rw [first_no Hy.out hki hpe]; decide)]
          have zT : T = 0 := HJ.out.zero hki (by rw [← Hn.out]; omega)
          have zB : B = 0 := HJ.out.zeroB (by omega) (by rw [← Hn.out]; omega)
          subst eF eT eB zT zB
          have hit := item_cells (cs := [.string c.p, .int .i64 ((0 : Nat) : Int), .int .i64 ((0 : Nat) : Int)]) HI2.out.2.1
          have Hit := Lib.hid hit
          have H4 := Lib.hid HI2.out.1
          have Hone := Lib.hid (show (#[.string c.p, .int .i64 ((0 : Nat) : Int), .int .i64 ((0 : Nat) : Int)] : Array Value).all (·.oneCell') = true by simp [Value.oneCell'])
          have Hbl := Lib.hid HI2.out.2.2
          clear hit HI2 z0 z6
          go_wp2_with (first
            | (refine wpList_load_items rfl _ _ rfl ⟨b6, 0, none⟩ rfl [.string c.p, .int .i64 ((0 : Nat) : Int), .int .i64 ((0 : Nat) : Int)] _ Hit.out Try.underlying36 rfl (by kernel_rfl) ?_)
            | (refine wpList_store_row rfl _ _ _ rfl b4 #[.string c.p, .int .i64 ((0 : Nat) : Int), .int .i64 ((0 : Nat) : Int)] rfl rfl 36 _ H4.out (by kernel_rfl) rfl Hone.out ?_))
          refine bodyPost_ret_by (v := .tuple #[.agg #[.string c.p, .int .i64 ((0 : Nat) : Int), .int .i64 ((0 : Nat) : Int)], .bool false]) ?_ rfl ⟨rfl, below_setRow Hbl.out HB4.out _⟩
          exact results_row_tmp (p := 4) (u := 5) (ty := 36) rfl _ _ b4 _ rfl (run_loadVar_row _ b4 _ _ _ _ _ (grow_at H4.out) Try.underlying36 rfl (by kernel_rfl))
        · have hkiI : ¬ (k : Int) < (i : Int) := by omega
          have hz1 := (HI2.out.2.2.cell (p := ⟨g, k * 7 + 1, none⟩) hgl).trans ((HG.out k y Hy.out).2 1 _ rfl)
          have z1 : wz.cell? ⟨g, k * 7 + 1, none⟩ = some (.bool y.g) := hz1
          have HJ2 := Lib.hid (HJ.out.hit Hy.out hpe (by omega))
          have hle := HJ2.out.le
          have htt := Ht.out
          have hDl : D.length = n := Hn.out.symm
          clear hz1
          obtain ⟨gone, hgn⟩ : ∃ u, u = y.g := ⟨_, rfl⟩
          rw [← hgn] at z1 HJ2 hle
          have Hgn := Lib.hid hgn
          clear hgn z0 z6 hpe he
          obtain ⟨T1, hT1⟩ : ∃ u, u = T + (if gone = false then 1 else 0) := ⟨_, rfl⟩
          rw [← hT1] at HJ2 hle
          have HT1 := Lib.hid hT1
          have HI3 := HI2
          clear hT1 HI2
          go_upto_if 37 with fail
          go_cut [] (fun wx => Hid (wx.heap[b4]? = some (.cells #[.string ⟨#[]⟩, .int .i64 0, .int .i64 0] 36 (0, 0)) ∧ wx.heap[b6]? = some (.cells #[.string c.p, .int .i64 (T1 : Int), .int .i64 (B : Int)] 36 (0, 0)) ∧ Below w.heap.size w wx))
          case first =>
            cases gone with
            | false =>
              have c1 := block_cell (j := 1) HI3.out.2.1 rfl
              have f1 := block_frozen HI3.out.2.1 1
              have e1 : (T : Int) + 1 = (T1 : Int) := by rw [HT1.out]; simp
              go_wp2_with fail
              go_meet
              refine Lib.hid ⟨(Below.heap_setCell _ _ _ _ H46.out).trans HI3.out.1, ?_, below_setCell3 HI3.out.2.2 HB6.out _⟩
              refine (block_set (j := 1) HI3.out.2.1 _).trans ?_
              rw [← e1]
              rfl
            | true =>
              have e1 : T = T1 := by rw [HT1.out]; simp
              subst e1
              go_wp2_with fail
              go_meet
              exact HI3
          case rest =>
            have HC := hcut
            clear hcut
            go_wp2_with fail
            refine (HS.out k y _ Hy.out HC.out.2.2).mono ?_
            rintro r w2 ⟨rfl, hb⟩
            have HC2 := Lib.hid (⟨cell_grownR hb HC.out.1, cell_grownR hb HC.out.2.1, HC.out.2.2.trans (hb.mono HC.out.2.2.size)⟩ : w2.heap[b4]? = some (.cells #[.string ⟨#[]⟩, .int .i64 0, .int .i64 0] 36 (0, 0)) ∧ w2.heap[b6]? = some (.cells #[.string c.p, .int .i64 (T1 : Int), .int .i64 (B : Int)] 36 (0, 0)) ∧ Below w.heap.size w w2)
            clear hb HC HI3
            cases hs : staysF (cwOf y) ((D.drop (k + 1)).map cwOf)
            · rw [hs] at HJ2 hle
              have hbB : (B : Int) + (bringsF (cwOf y) : Int) ≤ 1048576 := by
                have := hle.2
                rw [if_pos rfl] at this
                omega
              have HX4 := Lib.hid (show w2.drew.heap[b4]? = _ from HC2.out.1)
              have HX := Lib.hid (show w2.drew.heap[b6]? = _ from HC2.out.2.1)
              have HX0 := Lib.hid (below_drew HC2.out.2.2)
              have HY := Lib.hid (show ∀ W, Below w2.drew.heap.size w2.drew W → ∀ j x, ([.string y.p, .bool y.g, .string y.ep, .int .i64 y.k, .int .i64 y.m, .string y.d, .string y.l] : List Value)[j]? = some x → W.cell? ⟨g, k * 7 + j, none⟩ = some x from fun W hW j x hj => ((HX0.out.trans (hW.mono HX0.out.size)).cell (p := ⟨g, k * 7 + j, none⟩) hgl).trans ((HG.out k y Hy.out).2 j x hj))
              have HJ3 := Lib.hid HJ2.out
              rw [if_pos rfl] at HJ3
              clear HC2 hle HJ2
              go_upto_region 11 with fail
              refine act_open fun a0 ha0 => ?_
              have kz : a0.tmps.size = 56 := by rw [ha0]; rfl
              have kd : a0.defers = [] := by rw [ha0]
              have k0 : a0.tmps[0]?.getD undef = .slice (some ⟨g, 0, none⟩) n cap := by rw [ha0]; rfl
              have k1 : a0.tmps[1]?.getD undef = .int .i64 (i : Int) := by rw [ha0]; rfl
              have k2 : a0.tmps[2]?.getD undef = undef := by rw [ha0]; rfl
              have k3 : a0.tmps[3]?.getD undef = undef := by rw [ha0]; rfl
              have k4 : a0.tmps[4]?.getD undef = .pointer (some ⟨b4, 0, none⟩) := by rw [ha0]; rfl
              have k6 : a0.tmps[6]?.getD undef = .pointer (some ⟨b6, 0, none⟩) := by rw [ha0]; rfl
              have k7 : a0.tmps[7]?.getD undef = .int .i64 (k : Int) := by rw [ha0]; rfl
              have k8 : a0.tmps[8]?.getD undef = .slice (some ⟨g, 0, none⟩) n cap := by rw [ha0]; rfl
              have k9 : a0.tmps[9]?.getD undef = .int .i64 (i : Int) := by rw [ha0]; rfl
              have k10 : a0.tmps[10]?.getD undef = .pointer (some ⟨g, i * 7, none⟩) := by rw [ha0]; rfl
              have k11 : a0.tmps[11]?.getD undef = .pointer (some ⟨g, i * 7, none⟩) := by rw [ha0]; rfl
              have k12 : a0.tmps[12]?.getD undef = .string c.p := by rw [ha0]; rfl
              have k13 : a0.tmps[13]?.getD undef = .agg #[.string c.p, .int .i64 0, .int .i64 0] := by rw [ha0]; rfl
              have k55 : a0.tmps[55]?.getD undef = undef := by rw [ha0]; rfl
              clear ha0
              refine region_inv (DInvS w2.drew a0 (fun k => k == 0 || k == 1 || k == 2 || k == 3 || k == 4 || k == 6 || k == 7 || k == 8 || k == 9 || k == 10 || k == 11 || k == 12 || k == 13 || k == 55) 9 (fun j => match j with | 0 => 46 | 1 => 47 | 2 => 48 | 3 => 49 | 4 => 50 | 5 => 51 | 6 => 52 | 7 => 53 | 8 => 54 | _ => 0) (fun j v _ => match j with | 0 => v = .pointer (some ⟨b6, 2, none⟩) | 1 => v = .int .i64 (B : Int) | 2 => v = .slice (some ⟨g, 0, none⟩) n cap | 3 => v = .int .i64 (k : Int) | 4 => v = .pointer (some ⟨g, k * 7, none⟩) | 5 => v = .agg #[.string y.p, .bool y.g, .string y.ep, .int .i64 y.k, .int .i64 y.m, .string y.d, .string y.l] | 6 => v = .int .i64 (bringsF (cwOf y) : Int) | 7 => v = .int .i64 ((B : Int) + (bringsF (cwOf y) : Int)) | 8 => v = .pointer (some ⟨b6, 2, none⟩) | _ => True) (fun a W9 => W9.heap[b4]? = some (.cells #[.string ⟨#[]⟩, .int .i64 0, .int .i64 0] 36 (0, 0)) ∧ W9.heap[b6]? = some (.cells #[.string c.p, .int .i64 (T1 : Int), .int .i64 ((B : Int) + (bringsF (cwOf y) : Int))] 36 (0, 0)) ∧ Below w.heap.size w W9)) (by kernel_rfl) (by kernel_rfl) (fun f hf => DInvS.start fun i hi => hf i hi) ?_ ?_
              · intro i o f a w' ho hI hfi hdue
                match i, ho, hfi, hdue with
                | 0, ho, hfi, hdue =>
                  have ho2 := Option.some.inj ho
                  subst ho2
                  have hn := hI.open_ (i := 0) (by decide) hfi
                  have h6 : a.tmps[6]?.getD undef = .pointer (some ⟨b6, 0, none⟩) := (hI.kept 6 rfl).trans k6
                  refine wpOp_list rfl ?_
                  go_wp2_with fail
                  exact hI.step (i := 0) _ (by decide) hfi (by decide) rfl (by rw [kz]; decide) (fun j u hu => hu) rfl (Below.refl _ _)
                | 1, ho, hfi, hdue =>
                  have ho2 := Option.some.inj ho
                  subst ho2
                  have hn := hI.open_ (i := 1) (by decide) hfi
                  have h46 : a.tmps[46]?.getD undef = .pointer (some ⟨b6, 2, none⟩) := hI.pv hn 0 (by decide) (due_on hdue 0 rfl)
                  have c2 := ((hI.bel hn).block b6 (heap_lt HX.out)).trans HX.out
                  have c2a := block_cell (j := 2) c2 rfl
                  refine wpOp_list rfl ?_
                  go_wp2_with fail
                  exact hI.step (i := 1) _ (by decide) hfi (by decide) rfl (by rw [kz]; decide) (fun j u hu => hu) rfl (Below.refl _ _)
                | 2, ho, hfi, hdue =>
                  have ho2 := Option.some.inj ho
                  subst ho2
                  have hn := hI.open_ (i := 2) (by decide) hfi
                  have h0 : a.tmps[0]?.getD undef = .slice (some ⟨g, 0, none⟩) n cap := (hI.kept 0 rfl).trans k0
                  refine wpOp_list rfl ?_
                  go_wp2_with fail
                  exact hI.step (i := 2) _ (by decide) hfi (by decide) rfl (by rw [kz]; decide) (fun j u hu => hu) rfl (Below.refl _ _)
                | 3, ho, hfi, hdue =>
                  have ho2 := Option.some.inj ho
                  subst ho2
                  have hn := hI.open_ (i := 3) (by decide) hfi
                  have h7 : a.tmps[7]?.getD undef = .int .i64 (k : Int) := (hI.kept 7 rfl).trans k7
                  refine wpOp_list rfl ?_
                  go_wp2_with fail
                  exact hI.step (i := 3) _ (by decide) hfi (by decide) rfl (by rw [kz]; decide) (fun j u hu => hu) rfl (Below.refl _ _)
                | 4, ho, hfi, hdue =>
                  have ho2 := Option.some.inj ho
                  subst ho2
                  have hn := hI.open_ (i := 4) (by decide) hfi
                  have h48 : a.tmps[48]?.getD undef = .slice (some ⟨g, 0, none⟩) n cap := hI.pv hn 2 (by decide) (due_on hdue 2 rfl)
                  have h49 : a.tmps[49]?.getD undef = .int .i64 (k : Int) := hI.pv hn 3 (by decide) (due_on hdue 3 rfl)
                  refine wpOp_list rfl ?_
                  go_wp2_with fail
                  exact hI.step (i := 4) _ (by decide) hfi (by decide) rfl (by rw [kz]; decide) (fun j u hu => hu) rfl (Below.refl _ _)
                | 5, ho, hfi, hdue =>
                  have ho2 := Option.some.inj ho
                  subst ho2
                  have hn := hI.open_ (i := 5) (by decide) hfi
                  have h50 : a.tmps[50]?.getD undef = .pointer (some ⟨g, k * 7, none⟩) := hI.pv hn 4 (by decide) (due_on hdue 4 rfl)
                  have hcy : ∀ j x, ([.string y.p, .bool y.g, .string y.ep, .int .i64 y.k, .int .i64 y.m, .string y.d, .string y.l] : List Value)[j]? = some x → w'.cell? ((⟨g, k * 7, none⟩ : Addr).add j) = some x := fun j x hj => by
                    rw [gadd_new]
                    exact HY.out w' (hI.bel hn) j x hj
                  refine wpOp_list rfl ?_
                  refine wpList_load_items rfl _ _ rfl ⟨g, k * 7, none⟩ (by simpa [Act.eval] using h50) [.string y.p, .bool y.g, .string y.ep, .int .i64 y.k, .int .i64 y.m, .string y.d, .string y.l] _ hcy Try.underlying43 rfl (by kernel_rfl) ?_
                  exact hI.step (i := 5) _ (by decide) hfi (by decide) rfl (by rw [kz]; decide) (fun j u hu => hu) rfl (Below.refl _ _)
                | 6, ho, hfi, hdue =>
                  have ho2 := Option.some.inj ho
                  subst ho2
                  have hn := hI.open_ (i := 6) (by decide) hfi
                  have h51 : a.tmps[51]?.getD undef = .agg #[.string y.p, .bool y.g, .string y.ep, .int .i64 y.k, .int .i64 y.m, .string y.d, .string y.l] := hI.pv hn 5 (by decide) (due_on hdue 5 rfl)
                  refine wpOp_list rfl ?_
                  go_wp2_with fail
                  refine (rbrings_any y _).mono ?_
                  rintro r w2 ⟨rfl, hb⟩
                  have HBr := Lib.hid hb
                  clear hb
                  go_wp2_with fail
                  exact hI.step (i := 6) _ (by decide) hfi (by decide) rfl (by rw [kz]; decide) (fun j u hu => hu) rfl HBr.out
                | 7, ho, hfi, hdue =>
                  have ho2 := Option.some.inj ho
                  subst ho2
                  have hn := hI.open_ (i := 7) (by decide) hfi
                  have h47 : a.tmps[47]?.getD undef = .int .i64 (B : Int) := hI.pv hn 1 (by decide) (due_on hdue 1 rfl)
                  have h52 : a.tmps[52]?.getD undef = .int .i64 (bringsF (cwOf y) : Int) := hI.pv hn 6 (by decide) (due_on hdue 6 rfl)
                  refine wpOp_list rfl ?_
                  go_wp2_with fail
                  exact hI.step (i := 7) _ (by decide) hfi (by decide) rfl (by rw [kz]; decide) (fun j u hu => hu) rfl (Below.refl _ _)
                | 8, ho, hfi, hdue =>
                  have ho2 := Option.some.inj ho
                  subst ho2
                  have hn := hI.open_ (i := 8) (by decide) hfi
                  have h6 : a.tmps[6]?.getD undef = .pointer (some ⟨b6, 0, none⟩) := (hI.kept 6 rfl).trans k6
                  refine wpOp_list rfl ?_
                  go_wp2_with fail
                  exact hI.step (i := 8) _ (by decide) hfi (by decide) rfl (by rw [kz]; decide) (fun j u hu => hu) rfl (Below.refl _ _)
                | 9, ho, hfi, hdue =>
                  have ho2 := Option.some.inj ho
                  subst ho2
                  have hn := hfi
                  have hall : ∀ j, j < 9 → f j = true := fun j hj => by
                    match j, hj with
                    | 0, _ => exact due_on hdue 0 rfl
                    | 1, _ => exact due_on hdue 1 rfl
                    | 2, _ => exact due_on hdue 2 rfl
                    | 3, _ => exact due_on hdue 3 rfl
                    | 4, _ => exact due_on hdue 4 rfl
                    | 5, _ => exact due_on hdue 5 rfl
                    | 6, _ => exact due_on hdue 6 rfl
                    | 7, _ => exact due_on hdue 7 rfl
                    | 8, _ => exact due_on hdue 8 rfl
                    | j + 9, h => exact absurd h (by omega)
                  have h46 : a.tmps[46]?.getD undef = .pointer (some ⟨b6, 2, none⟩) := hI.pv hn 0 (by decide) (hall 0 (by decide))
                  have h47 : a.tmps[47]?.getD undef = .int .i64 (B : Int) := hI.pv hn 1 (by decide) (hall 1 (by decide))
                  have h48 : a.tmps[48]?.getD undef = .slice (some ⟨g, 0, none⟩) n cap := hI.pv hn 2 (by decide) (hall 2 (by decide))
                  have h49 : a.tmps[49]?.getD undef = .int .i64 (k : Int) := hI.pv hn 3 (by decide) (hall 3 (by decide))
                  have h50 : a.tmps[50]?.getD undef = .pointer (some ⟨g, k * 7, none⟩) := hI.pv hn 4 (by decide) (hall 4 (by decide))
                  have h51 : a.tmps[51]?.getD undef = .agg #[.string y.p, .bool y.g, .string y.ep, .int .i64 y.k, .int .i64 y.m, .string y.d, .string y.l] := hI.pv hn 5 (by decide) (hall 5 (by decide))
                  have h52 : a.tmps[52]?.getD undef = .int .i64 (bringsF (cwOf y) : Int) := hI.pv hn 6 (by decide) (hall 6 (by decide))
                  have h53 : a.tmps[53]?.getD undef = .int .i64 ((B : Int) + (bringsF (cwOf y) : Int)) := hI.pv hn 7 (by decide) (hall 7 (by decide))
                  have h54 : a.tmps[54]?.getD undef = .pointer (some ⟨b6, 2, none⟩) := hI.pv hn 8 (by decide) (hall 8 (by decide))
                  have c0 := ((hI.bel hn).block b6 (heap_lt HX.out)).trans HX.out
                  have c4 := ((hI.bel hn).block b4 (heap_lt HX4.out)).trans HX4.out
                  have c2 := block_cell (j := 2) c0 rfl
                  have c2f := block_frozen c0 2
                  have HF := Lib.hid (show (w'.setCell ⟨b6, 2, none⟩ (.int .i64 ((B : Int) + (bringsF (cwOf y) : Int)))).heap[b4]? = _ ∧ (w'.setCell ⟨b6, 2, none⟩ (.int .i64 ((B : Int) + (bringsF (cwOf y) : Int)))).heap[b6]? = _ ∧ Below w.heap.size w (w'.setCell ⟨b6, 2, none⟩ (.int .i64 ((B : Int) + (bringsF (cwOf y) : Int)))) from ⟨(Below.heap_setCell _ _ _ _ H46.out).trans c4, block_set (j := 2) c0 _, below_setCell3 (HX0.out.trans ((hI.bel hn).mono HX0.out.size)) HB6.out _⟩)
                  clear c0 c4
                  refine wpOp_list rfl ?_
                  go_wp2_with fail
                  exact hI.close hall HF.out
                | i + 10, ho, hfi, hdue => cases ho
              · intro f a w' hI hall
                have hF := hI.fin (hall 9 (by decide))
                obtain ⟨x, hx, hg⟩ : ∃ x : Nat → Value, a.tmps = #[x 0, x 1, x 2, x 3, x 4, x 5, x 6, x 7, x 8, x 9, x 10, x 11, x 12, x 13, x 14, x 15, x 16, x 17, x 18, x 19, x 20, x 21, x 22, x 23, x 24, x 25, x 26, x 27, x 28, x 29, x 30, x 31, x 32, x 33, x 34, x 35, x 36, x 37, x 38, x 39, x 40, x 41, x 42, x 43, x 44, x 45, x 46, x 47, x 48, x 49, x 50, x 51, x 52, x 53, x 54, x 55] ∧ ∀ k, x k = a.tmps[k]?.getD undef := ⟨fun k => a.tmps[k]?.getD undef, arrN 56 a.tmps (hI.size.trans kz), fun _ => rfl⟩
                have y0 : x 0 = .slice (some ⟨g, 0, none⟩) n cap := (hg 0).trans ((hI.kept 0 rfl).trans k0)
                have y1 : x 1 = .int .i64 (i : Int) := (hg 1).trans ((hI.kept 1 rfl).trans k1)
                have y2 : x 2 = undef := (hg 2).trans ((hI.kept 2 rfl).trans k2)
                have y3 : x 3 = undef := (hg 3).trans ((hI.kept 3 rfl).trans k3)
                have y4 : x 4 = .pointer (some ⟨b4, 0, none⟩) := (hg 4).trans ((hI.kept 4 rfl).trans k4)
                have y6 : x 6 = .pointer (some ⟨b6, 0, none⟩) := (hg 6).trans ((hI.kept 6 rfl).trans k6)
                have y7 : x 7 = .int .i64 (k : Int) := (hg 7).trans ((hI.kept 7 rfl).trans k7)
                have y8 : x 8 = .slice (some ⟨g, 0, none⟩) n cap := (hg 8).trans ((hI.kept 8 rfl).trans k8)
                have y9 : x 9 = .int .i64 (i : Int) := (hg 9).trans ((hI.kept 9 rfl).trans k9)
                have y10 : x 10 = .pointer (some ⟨g, i * 7, none⟩) := (hg 10).trans ((hI.kept 10 rfl).trans k10)
                have y11 : x 11 = .pointer (some ⟨g, i * 7, none⟩) := (hg 11).trans ((hI.kept 11 rfl).trans k11)
                have y12 : x 12 = .string c.p := (hg 12).trans ((hI.kept 12 rfl).trans k12)
                have y13 : x 13 = .agg #[.string c.p, .int .i64 0, .int .i64 0] := (hg 13).trans ((hI.kept 13 rfl).trans k13)
                have y55 : x 55 = undef := (hg 55).trans ((hI.kept 55 rfl).trans k55)
                rw [y0, y1, y2, y3, y4, y6, y7, y8, y9, y10, y11, y12, y13, y55] at hx
                have hd0 := hI.defers.trans kd
                obtain ⟨tm, df⟩ := a
                dsimp only at hx hd0
                subst hx hd0
                clear hI hall hg y0 y1 y2 y3 y4 y6 y7 y8 y9 y10 y11 y12 y13 y55
                have HF := Lib.hid hF
                clear hF
                go_wp2_with fail
                go_roundw
                case rel => exact ⟨k + 1, T1, B + bringsF (cwOf y), by go_num, by omega, by have := HJ3.out.le; omega, by omega, HJ3, HF⟩
                case measure => simp [intOf]; omega
            · rw [hs] at HJ2 hle
              rw [if_neg (by decide)] at HJ2 hle
              go_wp2_with fail
              go_roundw
              case rel => exact ⟨k + 1, T1, B + 0, by go_num, by omega, by omega, by omega, HJ2, HC2⟩
              case measure => simp [intOf]; omega
    · obtain rfl : k = n := by omega
      have hJn : LostJ D c i D.length T B := by have := HJ.out; rwa [Hn.out] at this
      have fy := first_yes hJn
      have eF : tF = true := HtF.out.trans fy
      have eT : tT = T := by rw [HtT.out, hJn.tim, List.take_length]; unfold lostT; rw [if_pos fy]
      have eB : tB = B := by
        have := hJn.byt
        rw [List.drop_length, List.map_nil] at this
        rw [HtB.out]
        unfold lostB
        rw [if_pos fy, ← this]
        rfl
      subst eF eT eB
      have hit := item_cells (cs := [.string c.p, .int .i64 (tT : Int), .int .i64 (tB : Int)]) HI.out.2.1
      have Hit := Lib.hid hit
      have H4 := Lib.hid HI.out.1
      have Hone := Lib.hid (show (#[.string c.p, .int .i64 (tT : Int), .int .i64 (tB : Int)] : Array Value).all (·.oneCell') = true by simp [Value.oneCell'])
      have Hbl := Lib.hid HI.out.2.2
      clear hit HI hJn fy
      go_wp2_with (first
        | (refine wpList_load_items rfl _ _ rfl ⟨b6, 0, none⟩ rfl [.string c.p, .int .i64 (tT : Int), .int .i64 (tB : Int)] _ Hit.out Try.underlying36 rfl (by kernel_rfl) ?_)
        | (refine wpList_store_row rfl _ _ _ rfl b4 #[.string c.p, .int .i64 (tT : Int), .int .i64 (tB : Int)] rfl rfl 36 _ H4.out (by kernel_rfl) rfl Hone.out ?_))
      refine bodyPost_ret_by (v := .tuple #[.agg #[.string c.p, .int .i64 (tT : Int), .int .i64 (tB : Int)], .bool true]) ?_ rfl ⟨rfl, below_setRow Hbl.out HB4.out _⟩
      exact results_row_tmp (p := 4) (u := 5) (ty := 36) rfl _ _ b4 _ rfl (run_loadVar_row _ b4 _ _ _ _ _ (grow_at H4.out) Try.underlying36 rfl (by kernel_rfl))
end Go.Proofs.Ytebniijkhjnbdaa
