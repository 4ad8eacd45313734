/- Joined: what these texts prove stands at the head of each part: DClone, DDelete, DInsEnd, DInsert, DInsGrow. -/
import Derived.Test.YtipfccfjniglbaaGreatDoorJPlain
import Derived.Test.YtipfccfjniglbaaGreatDoorTOf
import Derived.Test.YtipfccfjniglbaaGreatDoorJKit
import Derived.Test.YtipfccfjniglbaaGreatDoorRGoes
import Derived.Test.YtipfccfjniglbaaGreatDoorJMerge
import Derived.Laws.CopyRow
import Derived.Lib.Overlaps
import Derived.Lib.AppendZerosOnto
set_option linter.unusedSimpArgs false
set_option linter.unusedVariables false
namespace Go.Proofs.YtipfccfjniglbaaGreatDoor
section
open Go.RowKit Go.Maps Go.Shelf
open Go.Lib hiding intOf size_eq
theorem flat_len5 (L : List Ent) : (L.flatMap entC).length = L.length * 5 := gflat_len (enc := entC) (sz := 5) (fun _ => rfl) L
/-- the cells of a list of entries, one behind the other -/
theorem ents_cells {w : World} {a : Addr} {n cap : Nat} {L : List Ent} (h : EntsAt w (.slice (some a) n cap) L) : ∀ j u, (L.flatMap entC)[j]? = some u → w.cell? (a.add j) = some u := by
  obtain ⟨o, cap', e1, _, _, h4⟩ := h
  injection e1 with e1 _ _
  subst e1
  intro j u hj
  have hlt : j < L.length * 5 := by have := (List.getElem?_eq_some_iff.1 hj).1; rwa [flat_len5] at this
  obtain ⟨e, he⟩ : ∃ e, L[j / 5]? = some e := ⟨_, List.getElem?_eq_getElem (by omega)⟩
  obtain ⟨x, hx⟩ : ∃ x, (entC e)[j % 5]? = some x := ⟨_, List.getElem?_eq_getElem (show j % 5 < 5 by omega)⟩
  have h5 := flat_get he hx
  rw [show j / 5 * 5 + j % 5 = j by omega, hj] at h5
  injection h5 with h5
  subst h5
  obtain ⟨a', e2, _, hc⟩ := h4 _ e he
  injection e2 with e2
  subst e2
  have := hc _ _ hx
  rwa [add_add, show j / 5 * 5 + j % 5 = j by omega] at this
/-- a list of entries of the call's own -/
abbrev RowE (w : World) (base : Nat) (v : Value) (L : List Ent) : Prop := w.ownsRow base 52 5 v L.length (L.flatMap entC)
theorem RowE.ents {w : World} {base : Nat} {v : Value} {L : List Ent} (h : RowE w base v L) : EntsAt w v L := items_of_row (enc := entC) (sz := 5) (fun _ => rfl) h
theorem one_flat (L : List Ent) : ∀ u ∈ L.flatMap entC, u.oneCell' = true := by
  intro u hu
  obtain ⟨e, _, he⟩ := List.mem_flatMap.1 hu
  unfold entC at he
  simp only [List.mem_cons, List.not_mem_nil, or_false] at he
  rcases he with rfl | rfl | rfl | rfl | rfl <;> rfl
set_option maxRecDepth 100000 in
set_option maxHeartbeats 2000000 in
theorem clone_any (v : Value) (L : List Ent) (w : World) (h : EntsAt w v L) (hl : L.length ≤ 1099511627776) :
    Calls Tryz.prog 50 #[v] w fun r w' => ∃ v', r = .returned v' ∧ RowE w' w.heap.size v' L ∧ Below w.heap.size w w' := by
  have q22 : ∀ (w : World) (a : Option Addr) (n c n' c' : Nat), (binOp .eql 22 (.slice a n c) (.slice none n' c')).run Tryz.prog w = .ok (.bool a.isNone) w := fun w a n c n' c' => Lib.run_eql_slice_nil w _ _ a n c n' c' Tryz.underlying22
  obtain ⟨o, cap, rfl, h1, h2, h3⟩ := id h
  cases o with
  | none =>
    have hL : L = [] := by
      cases L with
      | nil => rfl
      | cons e r => obtain ⟨a, e1, _⟩ := h3 0 e rfl; cases e1
    subst hL
    go_enter Tryz.func50, Tryz.ntmps50
    go_wp2
    go_ret
    exact ⟨_, rfl, World.ownsRow_nil _ _ _ _, Below.refl _ _⟩
  | some a =>
    have hc := ents_cells h
    obtain ⟨i0, hi, hz0, hz1, hz2⟩ := info_parts Tryz.infoEntry
    have hf := flat_len5 L
    have ho := one_flat L
    obtain ⟨n, hn⟩ : ∃ n, n = L.length := ⟨_, rfl⟩
    unfold RowE
    rw [← hn] at hf hl ⊢
    generalize L.flatMap entC = xs at *
    have Hi := Lib.hid hi
    have Hz0 := Lib.hid hz0
    have Hz1 := Lib.hid hz1
    have Hz2 := Lib.hid hz2
    have Hc := Lib.hid (fun j u (hj : xs[j]? = some u) => Lib.cell?_alloc_some (.cells #[] 52) (hc j u hj))
    have Ho := Lib.hid ho
    have Hf := Lib.hid hf
    clear hc hi hz0 hz1 hz2 ho hf hn h h1 h2 h3
    go_enter Tryz.func50, Tryz.ntmps50
    go_wp2_with (at_builtin; go_loud (refine wpList_append_own _ rfl _ _ 22 rfl w.heap.size 52 i0 _ 5 64 Tryz.underlying22 Hi.out Hz0.out Hz1.out Hz2.out rfl (by decide) _ _ _ rfl (World.ownsRow_made w #[] 0 (Nat.le_refl _) (Nat.zero_le _) (by simp)) a n cap xs rfl Hf.out Hc.out Ho.out (by unfold maxLen; omega) (by omega) (by simp) ?_); intro v' w1 hown hgrow _
                 have HO := Lib.hid hown
                 have HG := Lib.hid hgrow
                 clear hown hgrow)
    go_ret
    exact ⟨_, rfl, by simpa using HO.out, ((Below.refl _ w).alloc (Nat.le_refl _) _).grown HG.out (by simp) (by intro k hk; have hk2 : some w.heap.size = some k := hk; injection hk2 with hk2; omega)⟩
end
end Go.Proofs.YtipfccfjniglbaaGreatDoor
namespace Go.Proofs.YtipfccfjniglbaaGreatDoor
section
open Go.RowKit Go.Maps Go.Shelf
open Go.Lib hiding intOf size_eq
theorem wpList_append_run {P : Program} {ops : Array Oper} {rest : List Oper} {o : Oper} {a : Act} {w w' : World} {Q : Exit → Act → World → Prop} (hgd : o.guard = none) (s x : Operand) (t : TypeId)
    (ho : o.op = .call { callee := .builtin .append, args := #[s, x], argTypes := #[t, t] }) (v1 v2 r : Value) (hs : a.eval s = v1) (hx : a.eval x = v2) (hr : (Builtin.append_ #[t, t] o.type #[v1, v2]).run P w = .ok r w')
    (h : wpList P ops Q rest (a.put o.dst r) w') : wpList P ops Q (o :: rest) a w := by
  refine wpList_plain hgd fun K hK => ?_
  unfold Oper.wp execOp
  simp only [ho, resolve, invoke, builtin, Sem.run_bind, Sem.run_pure, Result.andThen_ok, List.map_toArray, List.map_cons, List.map_nil, hs, hx, hr]
  exact hK _ _ h
theorem wpList_clear_run {P : Program} {ops : Array Oper} {rest : List Oper} {o : Oper} {a : Act} {w w' : World} {Q : Exit → Act → World → Prop} (hgd : o.guard = none) (x : Operand) (t : TypeId)
    (ho : o.op = .call { callee := .builtin .clear, args := #[x], argTypes := #[t] }) (v1 r : Value) (hx : a.eval x = v1) (hr : (Builtin.clear_ #[t] o.type #[v1]).run P w = .ok r w')
    (h : wpList P ops Q rest (a.put o.dst r) w') : wpList P ops Q (o :: rest) a w := by
  refine wpList_plain hgd fun K hK => ?_
  unfold Oper.wp execOp
  simp only [ho, resolve, invoke, builtin, Sem.run_bind, Sem.run_pure, Result.andThen_ok, List.map_toArray, List.map_cons, List.map_nil, hx, hr]
  exact hK _ _ h
/-- clear of a part of a row -/
theorem run_clear_row {P : Program} (w : World) (t e ty : TypeId) (z : Value) (ht : P.underlying t = some (.slice e)) (hv : ∀ w, (zeroValue e).run P w = .ok z w) (g o n c : Nat) (hn : 0 < n) (cur : Array Value) (hg : w.heap[g]? = some (.cells cur e (0, 0)))
    (Z : List Value) (hZ : (Builtin.zeroCells z.cells n).toList = Z) (hfit : o + Z.length ≤ cur.size) (h1 : ∀ u ∈ Z, u.oneCell' = true) :
    (Builtin.clear_ #[t] ty #[.slice (some ⟨g, o, none⟩) n c]).run P w = .ok (.tuple #[]) (w.setRow g (cur.toList.take o ++ Z ++ cur.toList.drop (o + Z.length)).toArray) := by
  have hst := run_storeCells_at P g o e Z 0 cur w hg (by simpa using hfit) h1
  simp only [Nat.add_zero] at hst
  obtain ⟨m, rfl⟩ : ∃ m, n = m + 1 := ⟨n - 1, by omega⟩
  simp [Builtin.clear_, run_underlying ht, hv, hZ, hst]
def zeroE : List Value := [.string ⟨#[]⟩, .int .i64 0, .int .i64 0, .string ⟨#[]⟩, .string ⟨#[]⟩]
theorem zeros_len (z : Array Value) (n : Nat) : (Builtin.zeroCells z n).toList.length = n * z.size := by unfold Builtin.zeroCells; simp
theorem zeros_one (n : Nat) : ∀ u ∈ (Builtin.zeroCells zeroE.toArray n).toList, u.oneCell' = true := by
  intro u hu
  unfold Builtin.zeroCells at hu
  simp only [Array.toList_map, List.mem_map] at hu
  obtain ⟨i, _, rfl⟩ := hu
  have : i % zeroE.toArray.size < 5 := Nat.mod_lt _ (by decide)
  generalize i % zeroE.toArray.size = k at *
  match k, this with
  | 0, _ => rfl
  | 1, _ => rfl
  | 2, _ => rfl
  | 3, _ => rfl
  | 4, _ => rfl
theorem zeros_cells (w : World) : (zeroValue 52).run Tryz.prog w = .ok (.agg zeroE.toArray) w := by kernel_rfl
set_option maxRecDepth 100000 in
set_option maxHeartbeats 2000000 in
theorem delete_any {w : World} {base : Nat} {v : Value} {L : List Ent} {i j : Nat} (h : RowE w base v L) (hij : i < j) (hj : j ≤ L.length) (hl : L.length < 1099511627776) :
    Calls Tryz.prog 80 #[v, .int .i64 (i : Int), .int .i64 (j : Int)] w fun r w' => ∃ v', r = .returned v' ∧ RowE w' base v' (L.take i ++ L.drop j) ∧ Below base w w' := by
  have hbw := h.1
  rcases h.2 with ⟨rfl, h0⟩ | ⟨g, cap, cur, rfl, hb, hg, hcap, hmx, hsz, htk⟩
  · omega
  obtain ⟨n, hn⟩ : ∃ n, n = L.length := ⟨_, rfl⟩
  obtain ⟨news, hnews⟩ : ∃ x, x = (L.drop j).flatMap entC := ⟨_, rfl⟩
  have hnl : news.length = (n - j) * 5 := by rw [hnews, flat_len5, List.length_drop, hn]
  have hgl := heap_lt hg
  rw [← hn] at hcap htk hj hl ⊢
  obtain ⟨cur1, hcur1⟩ : ∃ x, x = (cur.toList.take (i * 5) ++ news ++ cur.toList.drop (i * 5 + news.length)).toArray := ⟨_, rfl⟩
  have hs1 : cur1.size = cap * 5 := by rw [hcur1]; simp; omega
  obtain ⟨W1, hW1⟩ : ∃ x, x = w.drew.setRow g cur1 := ⟨_, rfl⟩
  have hg1 : W1.heap[g]? = some (.cells cur1 52 (0, 0)) := by rw [hW1]; exact grow_at (w := w.drew) hg
  obtain ⟨Z, hZ⟩ : ∃ x, x = (Builtin.zeroCells zeroE.toArray (j - i)).toList := ⟨_, rfl⟩
  have hZl : Z.length = (j - i) * 5 := by rw [hZ, zeros_len]; rfl
  have hZ1 : ∀ u ∈ Z, u.oneCell' = true := by rw [hZ]; exact zeros_one _
  obtain ⟨o2, ho2⟩ : ∃ x, x = (i + (n - j)) * 5 := ⟨_, rfl⟩
  obtain ⟨cur2, hcur2⟩ : ∃ x, x = (cur1.toList.take o2 ++ Z ++ cur1.toList.drop (o2 + Z.length)).toArray := ⟨_, rfl⟩
  have hclr : ∀ ty c, (Builtin.clear_ #[22] ty #[.slice (some ⟨g, o2, none⟩) (j - i) c]).run Tryz.prog W1 = .ok (.tuple #[]) (W1.setRow g cur2) := fun ty c => by
    rw [hcur2]
    exact run_clear_row W1 _ _ ty (.agg zeroE.toArray) Tryz.underlying22 zeros_cells g o2 (j - i) c (by omega) cur1 hg1 Z hZ.symm (by rw [hs1, hZl, ho2]; omega) hZ1
  obtain ⟨A, hA, hsrc⟩ : ∃ A : Addr, (if cap = j then some (⟨g, 0, none⟩ : Addr) else some ⟨g, j * 5, none⟩) = some A ∧ Hid (∀ t u, news[t]? = some u → w.drew.cell? (A.add t) = some u) := by
    by_cases hc : cap = j
    · refine ⟨⟨g, 0, none⟩, by simp [hc], Lib.hid fun t u hu => ?_⟩
      have := (List.getElem?_eq_some_iff.1 hu).1
      omega
    · refine ⟨⟨g, j * 5, none⟩, by simp [hc], Lib.hid fun t u hu => ?_⟩
      have ht : t < (n - j) * 5 := by have := (List.getElem?_eq_some_iff.1 hu).1; omega
      rw [gadd_new]
      have h1 : (L.flatMap entC)[j * 5 + t]? = some u := by
        have e : L.flatMap entC = (L.take j).flatMap entC ++ news := by rw [hnews, ← List.flatMap_append, List.take_append_drop]
        have el : ((L.take j).flatMap entC).length = j * 5 := by rw [flat_len5, List.length_take, ← hn]; omega
        rw [e, List.getElem?_append_right (by omega), el, Nat.add_sub_cancel_left]
        exact hu
      rw [← htk, List.getElem?_take, if_pos (by omega)] at h1
      show w.cell? _ = _
      unfold World.cell?
      rw [hg]
      simpa using h1
  have hone : ∀ u ∈ news, u.oneCell' = true := by rw [hnews]; exact one_flat _
  have hap : ∀ ty c, (Builtin.append_ #[22, 22] ty #[.slice (some ⟨g, 0, none⟩) i cap, .slice (some A) (n - j) c]).run Tryz.prog w.drew = .ok (.slice (some ⟨g, 0, none⟩) (i + (n - j)) cap) W1 := fun ty c => by
    obtain ⟨i0, hi, hz0, hz1, hz2⟩ := info_parts Tryz.infoEntry
    have := run_append_room (P := Tryz.prog) w.drew 22 ty 52 i0 Tryz.underlying22 hi g i cap cur hg A (n - j) c news (by rw [hz1]; exact hnl) hsrc.out hone (by omega) (by rw [hz1]; omega)
    rw [hz1] at this
    rw [hW1, hcur1]
    exact this
  have hfin : RowE (W1.setRow g cur2) base (.slice (some ⟨g, 0, none⟩) (i + (n - j)) cap) (L.take i ++ L.drop j) ∧ Below base w (W1.setRow g cur2) := by
    have el : (L.take i ++ L.drop j).length = i + (n - j) := by rw [List.length_append, List.length_take, List.length_drop, ← hn]; omega
    have efl : (L.take i ++ L.drop j).flatMap entC = cur.toList.take (i * 5) ++ news := by
      rw [List.flatMap_append, ← hnews]
      congr 1
      have e : L.flatMap entC = (L.take i).flatMap entC ++ (L.drop i).flatMap entC := by rw [← List.flatMap_append, List.take_append_drop]
      have e2 : ((L.take i).flatMap entC).length = i * 5 := by rw [flat_len5, List.length_take, ← hn]; omega
      have e3 : (cur.toList.take (n * 5)).take (i * 5) = (L.take i).flatMap entC := by rw [htk, e, List.take_append_of_le_length (by omega), List.take_of_length_le (by omega)]
      rw [← e3, List.take_take, Nat.min_eq_left (by omega)]
    have e4 : cur1.toList.take o2 = cur.toList.take (i * 5) ++ news := by
      rw [hcur1]
      show (cur.toList.take (i * 5) ++ news ++ _).take o2 = _
      have e5 : (cur.toList.take (i * 5) ++ news).length = o2 := by rw [List.length_append, List.length_take, hnl, Array.length_toList, hsz, ho2]; omega
      rw [List.take_append_of_le_length (by omega), List.take_of_length_le (by omega)]
    have e6 : (cur1.toList.take o2).length = o2 := by rw [List.length_take, Array.length_toList, hs1, ho2]; omega
    constructor
    · unfold RowE
      rw [el]
      refine ⟨by rw [flat_len5, el], .inr ⟨g, cap, cur2, rfl, hb, grow_at hg1, by omega, hmx, ?_, ?_⟩⟩
      · rw [hcur2]; simp; omega
      · rw [hcur2, efl, ← e4, ← ho2]
        show (cur1.toList.take o2 ++ Z ++ _).take o2 = _
        rw [List.append_assoc, List.take_append_of_le_length (by omega), List.take_of_length_le (by omega)]
    · rw [hW1]
      refine ⟨rfl, rfl, rfl, ?_, fun k hk => ?_⟩
      · simp
      · rw [setRow_other _ g k _ (by omega), setRow_other _ g k _ (by omega)]
        rfl
  have Hn := Lib.hid hn
  have Hap := Lib.hid hap
  rw [ho2, show j - i = n - (i + (n - j)) by omega] at hclr
  have Hfin := Lib.hid hfin
  have HA := Lib.hid hA
  have b1 : ((i : Int) == (j : Int)) = false := by simp; omega
  have hic : i ≤ cap := by omega
  have hjc : j ≤ cap := by omega
  clear hap hfin hA hsrc hone hZ hZ1 hcur2 hW1 hcur1 hnews htk hg hg1 hbw hn h hs1 hZl hnl
  go_enter Tryz.func80, Tryz.ntmps80
  go_wp2_with fail
  refine gregion_tail 6 (by kernel_rfl) (by kernel_rfl) ?_
  intro wz hz
  rw [← hz] at Hap
  clear hz
  simp only [List.take_succ_cons, List.take_zero, List.drop_succ_cons, List.drop_zero]
  repeat still_step
  try refine wpStill_nil ?_
  rw [HA.out]
  go_wp2_with (at_builtin; go_loud (refine wpList_append_run rfl _ _ 22 rfl _ _ _ rfl rfl (Hap.out _ _) ?_))
  go_ret
  exact ⟨_, rfl, Hfin.out⟩
end
end Go.Proofs.YtipfccfjniglbaaGreatDoor
namespace Go.Proofs.YtipfccfjniglbaaGreatDoor
section
open Go.RowKit Go.Maps Go.Shelf
open Go.Lib hiding intOf size_eq
set_option maxRecDepth 100000 in
set_option maxHeartbeats 2000000 in
theorem insert_end {w : World} {base q : Nat} {v : Value} {L : List Ent} (e : Ent) (h : RowE w base v L) (hbase : base ≤ w.heap.size) (hq : ∀ j u, (entC e)[j]? = some u → w.cell? ((⟨q, 0, none⟩ : Addr).add j) = some u) (hl : L.length < 1099511627776) :
    Calls Tryz.prog 86 #[v, .int .i64 (L.length : Int), .slice (some ⟨q, 0, none⟩) 1 1] w fun r w' => ∃ v', r = .returned v' ∧ RowE w' base v' (L ++ [e]) ∧ Below base w w' := by
  obtain ⟨i0, hi, hz0, hz1, hz2⟩ := info_parts Tryz.infoEntry
  have hfl : (L ++ [e]).flatMap entC = L.flatMap entC ++ entC e := by rw [List.flatMap_append, List.flatMap_singleton]
  have hll : (L ++ [e]).length = L.length + 1 := by simp
  have hown : ∀ k, v.ownBlock = some k → base ≤ k := fun k hk => by
    rcases h.2 with ⟨rfl, _⟩ | ⟨g, cap, cur, rfl, hb, _⟩
    · cases hk
    · injection hk with hk
      subst hk
      exact hb
  have h1 : ∀ u ∈ entC e, u.oneCell' = true := by simp [entC, Value.oneCell']
  have hv : (v = .slice none 0 0 ∧ L.length = 0) ∨ ∃ g cap, v = .slice (some ⟨g, 0, none⟩) L.length cap ∧ L.length ≤ cap := by
    rcases h.2 with h2 | ⟨g, cap, cur, rfl, _, _, hc, _⟩
    · exact .inl h2
    · exact .inr ⟨g, cap, rfl, hc⟩
  unfold RowE at *
  rw [hfl, hll]
  generalize L.flatMap entC = xs at *
  obtain ⟨n, hn⟩ : ∃ n, n = L.length := ⟨_, rfl⟩
  rw [← hn] at h hl hv ⊢
  have h2 := fun (o : Obj) => h.alloc o
  have Hi := Lib.hid hi
  have Hz0 := Lib.hid hz0
  have Hz1 := Lib.hid hz1
  have Hz2 := Lib.hid hz2
  have H := Lib.hid h
  have Hq := Lib.hid hq
  have H1 := Lib.hid h1
  have Hown := Lib.hid hown
  clear hi hz0 hz1 hz2 h h2 hq h1 hown hfl hll hn
  have b1 : ((n : Int) == (n : Int)) = true := by simp
  rcases hv with ⟨rfl, rfl⟩ | ⟨g, cap, rfl, hc⟩
  · go_enter Tryz.func86, Tryz.ntmps86
    go_wp2_with (at_builtin; go_loud (refine wpList_append_own _ rfl _ _ 22 rfl base 52 i0 _ 5 64 Tryz.underlying22 Hi.out Hz0.out Hz1.out Hz2.out rfl (by decide) _ _ _ rfl H.out ⟨q, 0, none⟩ 1 1 (entC e) rfl rfl Hq.out H1.out (by unfold maxLen; omega) (by omega) hbase ?_); intro v' w1 hown' hgrow _
                 have HO := Lib.hid hown'
                 have HG := Lib.hid hgrow
                 clear hown' hgrow)
    go_ret
    exact ⟨_, rfl, HO.out, (Below.refl _ w).grown HG.out hbase Hown.out⟩
  · go_enter Tryz.func86, Tryz.ntmps86
    go_wp2_with (at_builtin; go_loud (refine wpList_append_own _ rfl _ _ 22 rfl base 52 i0 _ 5 64 Tryz.underlying22 Hi.out Hz0.out Hz1.out Hz2.out rfl (by decide) _ _ _ rfl H.out ⟨q, 0, none⟩ 1 1 (entC e) rfl rfl Hq.out H1.out (by unfold maxLen; omega) (by omega) hbase ?_); intro v' w1 hown' hgrow _
                 have HO := Lib.hid hown'
                 have HG := Lib.hid hgrow
                 clear hown' hgrow)
    all_goals go_ret
    all_goals exact ⟨_, rfl, HO.out, (Below.refl _ w).grown HG.out hbase Hown.out⟩
end
end Go.Proofs.YtipfccfjniglbaaGreatDoor
namespace Go.Proofs.YtipfccfjniglbaaGreatDoor
section
open Go.RowKit Go.Maps Go.Shelf
open Go.Lib hiding intOf size_eq
/-- copy of structs into a row -/
theorem run_copy_rowN {P : Program} (w : World) (dT sT ty elem : TypeId) (i : TypeInfo) (g o dLen dCap : Nat) (a : Addr) (sLen sCap k : Nat) (cur : Array Value) (t : TypeId) (cs : List Value)
    (hu : P.underlying dT = some (.slice elem)) (hi : P.info? elem = some i)
    (hg : w.heap[g]? = some (.cells cur t (0, 0))) (hk : k = Nat.min sLen dLen) (hn : cs.length = k * i.size)
    (hsrc : ∀ j v, cs[j]? = some v → w.cell? (a.add j) = some v) (hfit : o + cs.length ≤ cur.size) (h1 : ∀ v ∈ cs, v.oneCell' = true) :
    (Builtin.copy_ #[dT, sT] ty #[.slice (some ⟨g, o, none⟩) dLen dCap, .slice (some a) sLen sCap]).run P w =
      .ok (goInt k) (w.setRow g (cur.toList.take o ++ cs ++ cur.toList.drop (o + cs.length)).toArray) := by
  have hl := run_loadCells_list (P := P) w a cs hsrc
  have hst := run_storeCells_at P g o t cs 0 cur w hg (by simpa using hfit) h1
  rw [hn] at hl
  simp [Builtin.copy_, run_underlying hu, Builtin.lenOf, Builtin.firstCells, sizeOf, typeInfo, hi, ← hk, hl, hst]
theorem wpList_copy_run {P : Program} {ops : Array Oper} {rest : List Oper} {o : Oper} {a : Act} {w w' : World} {Q : Exit → Act → World → Prop} (hgd : o.guard = none) (s x : Operand) (t : TypeId)
    (ho : o.op = .call { callee := .builtin .copy, args := #[s, x], argTypes := #[t, t] }) (v1 v2 r : Value) (hs : a.eval s = v1) (hx : a.eval x = v2) (hr : (Builtin.copy_ #[t, t] o.type #[v1, v2]).run P w = .ok r w')
    (h : wpList P ops Q rest (a.put o.dst r) w') : wpList P ops Q (o :: rest) a w := by
  refine wpList_plain hgd fun K hK => ?_
  unfold Oper.wp execOp
  simp only [ho, resolve, invoke, builtin, Sem.run_bind, Sem.run_pure, Result.andThen_ok, List.map_toArray, List.map_cons, List.map_nil, hs, hx, hr]
  exact hK _ _ h
set_option maxRecDepth 100000 in
set_option maxHeartbeats 2000000 in
theorem insert_room {w : World} {base q g cap i : Nat} {cur : Array Value} {L : List Ent} (e : Ent) (hb : base ≤ g) (hg : w.heap[g]? = some (.cells cur 52 (0, 0))) (hmx : cap ≤ maxLen) (hsz : cur.size = cap * 5) (htk : cur.toList.take (L.length * 5) = L.flatMap entC)
    (hqg : q ≠ g) (hq : w.heap[q]? = some (.cells (entC e).toArray 52 (0, 0))) (hi : i < L.length) (hroom : L.length + 1 ≤ cap) (hl : L.length < 1099511627776) :
    Calls Tryz.prog 86 #[.slice (some ⟨g, 0, none⟩) L.length cap, .int .i64 (i : Int), .slice (some ⟨q, 0, none⟩) 1 1] w fun r w' => ∃ v', r = .returned v' ∧ RowE w' base v' (L.take i ++ e :: L.drop i) ∧ Below base w w' := by
  obtain ⟨i0, hi0, hz0, hz1, hz2⟩ := info_parts Tryz.infoEntry
  have hgl := heap_lt hg
  have hwrap : IntKind.i64.wrap ((i : Int) + 1) = (i : Int) + 1 := by rw [IntKind.wrap_i64]; omega
  have hov : ∀ lb cb, (callFunc 114 #[.slice (some ⟨q, 0, none⟩) 1 1, .slice (some ⟨g, (i + 1) * 5, none⟩) lb cb]).run Tryz.prog w = .ok (.value (.bool false)) w := fun lb cb => by
    rw [run_callFunc_extern Tryz.func114 (by kernel_rfl) (by kernel_rfl) (by kernel_rfl) (e := Extern.SlicesOverlaps.overlaps #[22, 22] #[4]) (by kernel_rfl),
      Lib.run_overlaps_apart w 22 4 52 Tryz.underlying22 5 Tryz.sizeOf52 ⟨q, 0, none⟩ ⟨g, (i + 1) * 5, none⟩ 1 1 lb cb hqg 52 52 5 cur.size (by unfold World.shape?; rw [hq]; rfl) (by unfold World.shape?; rw [hg]) (by omega) (block_frozen hq 0) (block_frozen hq 5)]
    rfl
  obtain ⟨n, hn⟩ : ∃ n, n = L.length := ⟨_, rfl⟩
  obtain ⟨news, hnews⟩ : ∃ x, x = (L.drop i).flatMap entC := ⟨_, rfl⟩
  have hnl : news.length = (n - i) * 5 := by rw [hnews, flat_len5, List.length_drop, hn]
  rw [← hn] at hi hroom htk hl ⊢
  obtain ⟨cur1, hcur1⟩ : ∃ x, x = (cur.toList.take ((i + 1) * 5) ++ news ++ cur.toList.drop ((i + 1) * 5 + news.length)).toArray := ⟨_, rfl⟩
  have hs1 : cur1.size = cap * 5 := by rw [hcur1]; simp; omega
  obtain ⟨W1, hW1⟩ : ∃ x, x = w.drew.setRow g cur1 := ⟨_, rfl⟩
  have hg1 : W1.heap[g]? = some (.cells cur1 52 (0, 0)) := by rw [hW1]; exact grow_at (w := w.drew) hg
  have hq1 : W1.heap[q]? = some (.cells (entC e).toArray 52 (0, 0)) := by rw [hW1, setRow_other _ g q _ hqg]; exact hq
  obtain ⟨cur2, hcur2⟩ : ∃ x, x = (cur1.toList.take (i * 5) ++ entC e ++ cur1.toList.drop (i * 5 + (entC e).length)).toArray := ⟨_, rfl⟩
  have hone : ∀ u ∈ news, u.oneCell' = true := by rw [hnews]; exact one_flat _
  have hsrc : ∀ t u, news[t]? = some u → w.drew.cell? ((⟨g, i * 5, none⟩ : Addr).add t) = some u := fun t u hu => by
    have ht : t < (n - i) * 5 := by have := (List.getElem?_eq_some_iff.1 hu).1; omega
    rw [gadd_new]
    have h1 : (L.flatMap entC)[i * 5 + t]? = some u := by
      have e : L.flatMap entC = (L.take i).flatMap entC ++ news := by rw [hnews, ← List.flatMap_append, List.take_append_drop]
      have el : ((L.take i).flatMap entC).length = i * 5 := by rw [flat_len5, List.length_take, ← hn]; omega
      rw [e, List.getElem?_append_right (by omega), el, Nat.add_sub_cancel_left]
      exact hu
    rw [← htk, List.getElem?_take, if_pos (by omega)] at h1
    show w.cell? _ = _
    unfold World.cell?
    rw [hg]
    simpa using h1
  have hc1 : ∀ ty dc sc, (Builtin.copy_ #[22, 22] ty #[.slice (some ⟨g, (i + 1) * 5, none⟩) (n - i) dc, .slice (some ⟨g, i * 5, none⟩) (n + 1 - i) sc]).run Tryz.prog w.drew = .ok (goInt ((n - i : Nat) : Int)) W1 := fun ty dc sc => by
    have := run_copy_rowN w.drew 22 22 ty 52 i0 g ((i + 1) * 5) (n - i) dc ⟨g, i * 5, none⟩ (n + 1 - i) sc (n - i) cur 52 news Tryz.underlying22 hi0 hg (by simp only [Nat.min_def]; split <;> omega) (by rw [hz1]; exact hnl) hsrc (by omega) hone
    rw [hW1, hcur1]
    exact this
  have hc2 : ∀ ty dc, (Builtin.copy_ #[22, 22] ty #[.slice (some ⟨g, i * 5, none⟩) (n + 1 - i) dc, .slice (some ⟨q, 0, none⟩) 1 1]).run Tryz.prog W1 = .ok (goInt 1) (W1.setRow g cur2) := fun ty dc => by
    have := run_copy_rowN W1 22 22 ty 52 i0 g (i * 5) (n + 1 - i) dc ⟨q, 0, none⟩ 1 1 1 cur1 52 (entC e) Tryz.underlying22 hi0 hg1 (by simp only [Nat.min_def]; split <;> omega) (by rw [hz1]; rfl) (item_cells hq1) (by rw [hs1]; show i * 5 + 5 ≤ _; omega) (by simp [entC, Value.oneCell'])
    rw [hcur2]
    exact this
  have hfin : RowE (W1.setRow g cur2) base (.slice (some ⟨g, 0, none⟩) (n + 1) cap) (L.take i ++ e :: L.drop i) ∧ Below base w (W1.setRow g cur2) := by
    have el : (L.take i ++ e :: L.drop i).length = n + 1 := by rw [List.length_append, List.length_cons, List.length_take, List.length_drop, ← hn]; omega
    have x1 : cur1.toList.take (i * 5) = (L.take i).flatMap entC := by
      have e0 : L.flatMap entC = (L.take i).flatMap entC ++ (L.drop i).flatMap entC := by rw [← List.flatMap_append, List.take_append_drop]
      have e2 : ((L.take i).flatMap entC).length = i * 5 := by rw [flat_len5, List.length_take, ← hn]; omega
      have e3 : (cur.toList.take (n * 5)).take (i * 5) = (L.take i).flatMap entC := by rw [htk, e0, List.take_append_of_le_length (by omega), List.take_of_length_le (by omega)]
      rw [hcur1]
      show (cur.toList.take ((i + 1) * 5) ++ news ++ _).take (i * 5) = _
      rw [List.append_assoc, List.take_append_of_le_length (by rw [List.length_take, Array.length_toList]; omega), List.take_take, Nat.min_eq_left (by omega), ← e3, List.take_take, Nat.min_eq_left (by omega)]
    have x2 : (cur1.toList.drop (i * 5 + 5)).take ((n - i) * 5) = news := by
      rw [hcur1]
      show ((cur.toList.take ((i + 1) * 5) ++ news ++ _).drop (i * 5 + 5)).take _ = _
      have e4 : (cur.toList.take ((i + 1) * 5)).length = i * 5 + 5 := by rw [List.length_take, Array.length_toList]; omega
      rw [List.append_assoc, List.drop_append_of_le_length (by omega), List.drop_of_length_le (by omega), List.nil_append, List.take_append_of_le_length (by omega), List.take_of_length_le (by omega)]
    have x3 : ((L.take i).flatMap entC).length = i * 5 := by rw [flat_len5, List.length_take, ← hn]; omega
    have x4 : (entC e).length = 5 := rfl
    constructor
    · unfold RowE
      rw [el]
      refine ⟨by rw [flat_len5, el], .inr ⟨g, cap, cur2, rfl, hb, grow_at hg1, by omega, hmx, ?_, ?_⟩⟩
      · rw [hcur2]; simp [x4]; omega
      · rw [hcur2, List.flatMap_append, List.flatMap_cons, ← hnews]
        show (cur1.toList.take (i * 5) ++ entC e ++ cur1.toList.drop (i * 5 + 5)).take ((n + 1) * 5) = _
        rw [x1, List.append_assoc, List.take_append, List.take_of_length_le (l := (L.take i).flatMap entC) (by omega), x3, List.take_append, List.take_of_length_le (l := entC e) (by omega), x4]
        rw [show (n + 1) * 5 - i * 5 - 5 = (n - i) * 5 by omega, x2]
    · rw [hW1]
      refine ⟨rfl, rfl, rfl, ?_, fun k hk => ?_⟩
      · simp
      · rw [setRow_other _ g k _ (by omega), setRow_other _ g k _ (by omega)]
        rfl
  have Hc1 := Lib.hid hc1
  have Hc2 := Lib.hid hc2
  have Hfin := Lib.hid hfin
  have b1 : ((i : Int) == (n : Int)) = false := by simp; omega
  have hin : i ≤ n := by omega
  have hic : i + 1 ≤ cap := by omega
  have hncap : ¬ (cap < n + 1) := by omega
  have hb1 : (0 : Int) ≤ (i : Int) + 1 := by omega
  have htn : ((i : Int) + 1).toNat = i + 1 := by omega
  have hb2 : ¬ (cap = i + 1) := by omega
  have hb3 : (i : Int) ≤ (n : Int) + 1 := by omega
  have hb4 : ¬ (cap = i) := by omega
  clear hc1 hc2 hfin hsrc hone hcur2 hcur1 hW1 hg1 hq1 hnews htk hg hq hn hs1 hnl hi0 hz0 hz1 hz2
  go_enter Tryz.func86, Tryz.ntmps86
  go_wp2_with (simp only [hov])
  refine gregion_tail 8 (by kernel_rfl) (by kernel_rfl) ?_
  intro wz hz
  rw [← hz] at Hc1
  clear hz hov
  simp only [List.take_succ_cons, List.take_zero, List.drop_succ_cons, List.drop_zero]
  repeat still_step
  try refine wpStill_nil ?_
  have hc1o := Hc1.out
  have hc2o := Hc2.out
  go_wp2
  go_ret
  exact ⟨_, rfl, Hfin.out⟩
end
end Go.Proofs.YtipfccfjniglbaaGreatDoor
namespace Go.Proofs.YtipfccfjniglbaaGreatDoor
section
open Go.RowKit Go.Maps Go.Shelf
open Go.Lib hiding intOf size_eq wpList_append_run
set_option maxRecDepth 100000 in
set_option maxHeartbeats 2000000 in
theorem insert_grow {w : World} {base q g cap i : Nat} {cur : Array Value} {L : List Ent} (e : Ent) (hbase : base ≤ w.heap.size) (hg : w.heap[g]? = some (.cells cur 52 (0, 0))) (hsz : cur.size = cap * 5) (htk : cur.toList.take (L.length * 5) = L.flatMap entC)
    (hq : w.heap[q]? = some (.cells (entC e).toArray 52 (0, 0))) (hi : i < L.length) (hc : L.length ≤ cap) (hroom : cap < L.length + 1) (hl : L.length < 1099511627776) :
    Calls Tryz.prog 86 #[.slice (some ⟨g, 0, none⟩) L.length cap, .int .i64 (i : Int), .slice (some ⟨q, 0, none⟩) 1 1] w fun r w' => ∃ v', r = .returned v' ∧ RowE w' base v' (L.take i ++ e :: L.drop i) ∧ Below base w w' := by
  obtain ⟨i0, hi0, hz0, hz1, hz2⟩ := info_parts Tryz.infoEntry
  have hgl := heap_lt hg
  have hql := heap_lt hq
  have hwrap : IntKind.i64.wrap ((i : Int) + 1) = (i : Int) + 1 := by rw [IntKind.wrap_i64]; omega
  obtain ⟨n, hn⟩ : ∃ n, n = L.length := ⟨_, rfl⟩
  obtain ⟨news, hnews⟩ : ∃ x, x = (L.drop i).flatMap entC := ⟨_, rfl⟩
  have hnl : news.length = (n - i) * 5 := by rw [hnews, flat_len5, List.length_drop, hn]
  rw [← hn] at hi hc hroom htk hl ⊢
  obtain ⟨olds, holds⟩ : ∃ x, x = (L.take i).flatMap entC := ⟨_, rfl⟩
  have hol : olds.length = i * 5 := by rw [holds, flat_len5, List.length_take, ← hn]; omega
  have hflat : L.flatMap entC = olds ++ news := by rw [holds, hnews, ← List.flatMap_append, List.take_append_drop]
  have hcell : ∀ k u, (L.flatMap entC)[k]? = some u → w.cell? ⟨g, k, none⟩ = some u := fun k u hu => by
    have hk : k < n * 5 := by have := (List.getElem?_eq_some_iff.1 hu).1; rw [flat_len5, ← hn] at this; exact this
    rw [← htk, List.getElem?_take, if_pos hk] at hu
    unfold World.cell?
    rw [hg]
    simpa using hu
  have hold : (Builtin.firstCells i0.size i (.slice (some ⟨g, 0, none⟩) i cap)).run Tryz.prog w.drew = .ok olds.toArray w.drew := by
    rw [hz1]
    exact run_firstCells_some w.drew 5 i ⟨g, 0, none⟩ i cap olds hol (fun j u hu => by
      rw [gadd_new, Nat.zero_add]
      refine hcell j u ?_
      rw [hflat, List.getElem?_append_left (by have := (List.getElem?_eq_some_iff.1 hu).1; omega)]
      exact hu)
  obtain ⟨G, hG⟩ : ∃ G, G = grownCap w (n + 1) cap 52 := ⟨_, rfl⟩
  have hGn : n + 1 ≤ G := by rw [hG]; exact grownCap_ge w _ _ _
  have hGm : G ≤ maxLen := by rw [hG]; exact grownCap_le_maxLen w (n + 1) cap _ (by unfold maxLen; omega)
  obtain ⟨ROW, hROW⟩ : ∃ x : Array Value, x = olds.toArray ++ Builtin.zeroCells zeroE.toArray (n + 1 - i) ++ Builtin.zeroCells zeroE.toArray (G - (n + 1)) := ⟨_, rfl⟩
  have hRs : ROW.size = G * 5 := by
    rw [hROW]
    have z1 := zeros_len zeroE.toArray (n + 1 - i)
    have z2 := zeros_len zeroE.toArray (G - (n + 1))
    rw [Array.length_toList] at z1 z2
    rw [Array.size_append, Array.size_append, z1, z2, List.size_toArray, hol, show zeroE.toArray.size = 5 from rfl]
    omega
  obtain ⟨Wa, hWa⟩ : ∃ x, x = w.drew.alloc (.cells ROW 52) := ⟨_, rfl⟩
  have hkk : (n : Int) + 1 - (i : Int) = ((n + 1 - i : Nat) : Int) := by omega
  have hik : i + (n + 1 - i) = n + 1 := by omega
  have hrz : ∀ ty, (Builtin.append_ #[22, 3] ty #[.slice (some ⟨g, 0, none⟩) i cap, .int .i64 ((n : Int) + 1 - (i : Int))]).run Tryz.prog w = .ok (.slice (some ⟨w.heap.size, 0, none⟩) (n + 1) G) Wa := fun ty => by
    have h := Lib.run_append_grow_zeros w 22 3 ty 52 i0 _ .i64 .i64 Tryz.underlying22 Tryz.underlying3 hi0 hz0 (some ⟨g, 0, none⟩) i cap olds hold (n + 1 - i) (by omega) (by omega) (by omega) (by omega) (by rw [hz2]; omega) (by rw [hz2, hik]; exact growslice_fits hroom (by omega))
    rw [hik] at h
    rw [hkk, hWa, hROW, hG]
    exact h
  have ha1 : Wa.heap[w.heap.size]? = some (.cells ROW 52 (0, 0)) := by rw [hWa]; exact World.alloc_heap_new w.drew _
  have haq : Wa.heap[q]? = some (.cells (entC e).toArray 52 (0, 0)) := by rw [hWa]; exact (heap_alloc_old w.drew _ hql).trans hq
  have hag : Wa.heap[g]? = some (.cells cur 52 (0, 0)) := by rw [hWa]; exact (heap_alloc_old w.drew _ hgl).trans hg
  obtain ⟨row1, hrow1⟩ : ∃ x, x = (ROW.toList.take (i * 5) ++ entC e ++ ROW.toList.drop (i * 5 + (entC e).length)).toArray := ⟨_, rfl⟩
  have x4 : (entC e).length = 5 := rfl
  have hr1 : row1.size = G * 5 := by rw [hrow1]; simp [x4]; omega
  obtain ⟨W2, hW2⟩ : ∃ x, x = Wa.setRow w.heap.size row1 := ⟨_, rfl⟩
  have h2n : W2.heap[w.heap.size]? = some (.cells row1 52 (0, 0)) := by rw [hW2]; exact grow_at ha1
  have h2g : W2.heap[g]? = some (.cells cur 52 (0, 0)) := by rw [hW2, setRow_other _ w.heap.size g _ (by omega)]; exact hag
  obtain ⟨row2, hrow2⟩ : ∃ x, x = (row1.toList.take ((i + 1) * 5) ++ news ++ row1.toList.drop ((i + 1) * 5 + news.length)).toArray := ⟨_, rfl⟩
  have hone : ∀ u ∈ news, u.oneCell' = true := by rw [hnews]; exact one_flat _
  have hc1 : ∀ ty dc, (Builtin.copy_ #[22, 22] ty #[.slice (some ⟨w.heap.size, i * 5, none⟩) (n + 1 - i) dc, .slice (some ⟨q, 0, none⟩) 1 1]).run Tryz.prog Wa = .ok (goInt 1) W2 := fun ty dc => by
    have := run_copy_rowN Wa 22 22 ty 52 i0 w.heap.size (i * 5) (n + 1 - i) dc ⟨q, 0, none⟩ 1 1 1 ROW 52 (entC e) Tryz.underlying22 hi0 ha1 (by simp only [Nat.min_def]; split <;> omega) (by rw [hz1]; rfl) (item_cells haq) (by rw [hRs]; show i * 5 + 5 ≤ _; omega) (by simp [entC, Value.oneCell'])
    rw [hW2, hrow1]
    exact this
  have hsrc : ∀ t u, news[t]? = some u → W2.drew.cell? ((⟨g, i * 5, none⟩ : Addr).add t) = some u := fun t u hu => by
    rw [gadd_new]
    have h1 : (L.flatMap entC)[i * 5 + t]? = some u := by
      rw [hflat, List.getElem?_append_right (by omega), hol, Nat.add_sub_cancel_left]
      exact hu
    have h3 := hcell _ _ h1
    show W2.cell? _ = _
    unfold World.cell? at h3 ⊢
    rw [h2g]
    rw [hg] at h3
    exact h3
  have hc2 : ∀ ty dc sc, (Builtin.copy_ #[22, 22] ty #[.slice (some ⟨w.heap.size, (i + 1) * 5, none⟩) (n - i) dc, .slice (some ⟨g, i * 5, none⟩) (n - i) sc]).run Tryz.prog W2.drew = .ok (goInt ((n - i : Nat) : Int)) (W2.drew.setRow w.heap.size row2) := fun ty dc sc => by
    have := run_copy_rowN W2.drew 22 22 ty 52 i0 w.heap.size ((i + 1) * 5) (n - i) dc ⟨g, i * 5, none⟩ (n - i) sc (n - i) row1 52 news Tryz.underlying22 hi0 h2n (by simp only [Nat.min_def]; split <;> omega) (by rw [hz1]; exact hnl) hsrc (by omega) hone
    rw [hrow2]
    exact this
  have hfin : RowE (W2.drew.setRow w.heap.size row2) base (.slice (some ⟨w.heap.size, 0, none⟩) (n + 1) G) (L.take i ++ e :: L.drop i) ∧ Below base w (W2.drew.setRow w.heap.size row2) := by
    have el : (L.take i ++ e :: L.drop i).length = n + 1 := by rw [List.length_append, List.length_cons, List.length_take, List.length_drop, ← hn]; omega
    have y1 : ROW.toList.take (i * 5) = olds := by
      rw [hROW, Array.toList_append, Array.toList_append, List.append_assoc]
      rw [List.take_append_of_le_length (by rw [List.toList_toArray]; omega), List.take_of_length_le (by rw [List.toList_toArray]; omega)]
    have y2 : row1.toList.take ((i + 1) * 5) = olds ++ entC e := by
      rw [hrow1, y1]
      show (olds ++ entC e ++ _).take _ = _
      rw [List.take_append_of_le_length (by rw [List.length_append]; omega), List.take_of_length_le (by rw [List.length_append]; omega)]
    constructor
    · unfold RowE
      rw [el]
      refine ⟨by rw [flat_len5, el], .inr ⟨w.heap.size, G, row2, rfl, hbase, grow_at (w := W2.drew) h2n, hGn, hGm, ?_, ?_⟩⟩
      · rw [hrow2]; simp [hnl]; omega
      · rw [hrow2, List.flatMap_append, List.flatMap_cons, ← hnews, ← holds, y2]
        show (olds ++ entC e ++ news ++ _).take _ = _
        rw [List.take_append_of_le_length (by rw [List.length_append, List.length_append]; omega), List.take_of_length_le (by rw [List.length_append, List.length_append]; omega), List.append_assoc]
    · rw [hW2, hWa]
      refine ⟨rfl, rfl, rfl, ?_, fun k hk => ?_⟩
      · simp
        try omega
      · rw [setRow_other _ w.heap.size k _ (by omega)]
        show ((w.drew.alloc (.cells ROW 52)).setRow w.heap.size row1).heap[k]? = _
        rw [setRow_other _ w.heap.size k _ (by omega)]
        exact heap_alloc_old w.drew _ (by show k < w.heap.size; omega)
  have Hc2 := Lib.hid hc2
  have Hrz := Lib.hid hrz
  have Hfin := Lib.hid hfin
  have b1 : ((i : Int) == (n : Int)) = false := by simp; omega
  have hin : i ≤ n := by omega
  have hcn : (cap : Int) < (n : Int) + 1 := by omega
  have hb1 : (0 : Int) ≤ (i : Int) + 1 := by omega
  have htn : ((i : Int) + 1).toNat = i + 1 := by omega
  have hb2 : ¬ (G = i + 1) := by omega
  have hb3 : (i : Int) ≤ (n : Int) := by omega
  have hb4 : ¬ (G = i) := by omega
  have hb5 : ¬ (cap = i) := by omega
  have hb6 : i ≤ cap := by omega
  clear hc2 hrz hfin hsrc hone hrow1 hrow2 hW2 hWa h2n h2g hr1 ha1 haq hag hROW hRs hG hold hcell hflat hol holds hnews hnl hn htk hsz hg hq hi0 hz0 hz1 hz2 hkk hik x4 hgl hql
  go_enter Tryz.func86, Tryz.ntmps86
  go_wp2_with (at_builtin; refine Lib.wpList_append_run _ rfl _ _ _ _ rfl _ _ rfl rfl _ _ (Hrz.out _) ?_)
  refine gregion_tail 8 (by kernel_rfl) (by kernel_rfl) ?_
  intro wz hz
  rw [← hz] at Hc2 Hfin
  clear hz
  simp only [List.take_succ_cons, List.take_zero, List.drop_succ_cons, List.drop_zero]
  repeat still_step
  try refine wpStill_nil ?_
  have hc2o := Hc2.out
  go_wp2
  go_ret
  exact ⟨_, rfl, Hfin.out⟩
/-- slices.Insert of one entry -/
theorem insert_any {w : World} {base q i : Nat} {v : Value} {L : List Ent} (e : Ent) (h : RowE w base v L) (hbase : base ≤ w.heap.size) (hqv : v.ownBlock ≠ some q) (hq : w.heap[q]? = some (.cells (entC e).toArray 52 (0, 0))) (hi : i ≤ L.length) (hl : L.length < 1099511627776) :
    Calls Tryz.prog 86 #[v, .int .i64 (i : Int), .slice (some ⟨q, 0, none⟩) 1 1] w fun r w' => ∃ v', r = .returned v' ∧ RowE w' base v' (L.take i ++ e :: L.drop i) ∧ Below base w w' := by
  by_cases hin : i = L.length
  · subst hin
    rw [List.take_length, List.drop_length]
    exact insert_end e h hbase (item_cells hq) hl
  · rcases h.2 with ⟨rfl, h0⟩ | ⟨g, cap, cur, rfl, hb, hg, hc, hmx, hsz, htk⟩
    · omega
    · have hqg : q ≠ g := fun h => hqv (by subst h; rfl)
      by_cases hr : L.length + 1 ≤ cap
      · exact insert_room e hb hg hmx hsz htk hqg hq (by omega) hr hl
      · exact insert_grow e hbase hg hsz htk hq (by omega) hc (by omega) hl
end
end Go.Proofs.YtipfccfjniglbaaGreatDoor
