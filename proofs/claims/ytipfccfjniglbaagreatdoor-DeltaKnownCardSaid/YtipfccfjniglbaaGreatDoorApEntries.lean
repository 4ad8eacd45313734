/- What was handed out lies apart: lists of entries. -/
import Derived.Test.YtipfccfjniglbaaGreatDoorULent
import Derived.Test.YtipfccfjniglbaaGreatDoorJDiff
import Derived.Deep.MidRow
import Derived.Deep.RegionHeld3
import Derived.Sort.CutIn
import Derived.Sort.OwnSorted
set_option linter.unusedSimpArgs false
set_option linter.unusedVariables false
namespace Go.Proofs.YtipfccfjniglbaaGreatDoor.ApEntries
open Go.RowKit Go.Maps Go.Shelf
open Go.Lib hiding intOf size_eq
section
open Go.RowKit
theorem run_append_split {P : Program} (w : World) (base : Nat) (t ty e : TypeId) (i : TypeInfo) (z : Value) (size bytes : Nat) (ht : P.underlying t = some (.slice e)) (hi : P.info? e = some i) (hz : i.zero = some z)
    (hsize : i.size = size) (hby : i.bytes = bytes) (hzs : z.cells.size = size) (hsz : 0 < size)
    (v : Value) (n : Nat) (xs : List Value) (hown : w.ownsRow base e size v n xs)
    (a : Addr) (m c : Nat) (news : List Value) (hl : news.length = m * size) (hnews : ∀ j u, news[j]? = some u → w.cell? (a.add j) = some u) (h1 : ∀ u ∈ news, u.oneCell' = true)
    (h63 : n + m ≤ maxLen) (hbytes : (n + m) * bytes ≤ 140737488355328) (hbase : base ≤ w.heap.size) :
    ∃ v' w', (Builtin.append_ #[t, t] ty #[v, .slice (some a) m c]).run P w = .ok v' w' ∧ w'.ownsRow base e size v' (n + m) (xs ++ news) ∧ (v' = .slice none 0 0 ↔ v = .slice none 0 0 ∧ m = 0) ∧
      ((v'.ownBlock = v.ownBlock ∧ w.grownBy w' v.ownBlock) ∨ (v'.ownBlock = some w.heap.size ∧ w.grownBy w' none)) := by
  obtain ⟨v', w', hr, h2, h3, h4, h5⟩ := run_append_own_at (P := P) w base t ty e i z size bytes ht hi hz hsize hby hzs hsz v n xs hown a m c news hl hnews h1 h63 hbytes hbase
  refine ⟨v', w', hr, h2, h4, ?_⟩
  rcases h5 with h5 | h5
  · exact .inl ⟨h5, h3⟩
  · refine .inr ⟨h5, ?_⟩
    rcases hown.2 with ⟨rfl, _⟩ | ⟨g, cap, cur, rfl, hb, hg, hnc, hcm, hcs, htk⟩
    · exact h3
    · subst hsize
      subst hby
      by_cases hroom : n + m ≤ cap
      · have hk := run_append_room (P := P) w t ty e i ht hi g n cap cur hg a m c news hl hnews h1 hroom (by rw [hl, hcs, ← Nat.add_mul]; exact Nat.mul_le_mul_right _ hroom)
        rw [hk] at hr
        injection hr with e1 e2
        rw [← e1] at h5
        have hlt := (Array.getElem?_eq_some_iff.1 hg).1
        simp [Value.ownBlock] at h5
        omega
      · have hk := run_append_grow (P := P) w t ty e i z ht hi hz ⟨g, 0, none⟩ n cap xs hown.1 (hown.cells (g := g) rfl) a m c news hl hnews (by omega) (by simp only [maxLen] at h63; omega) (growslice_fits (by omega) hbytes)
        rw [hk] at hr
        injection hr with e1 e2
        rw [← e2]
        exact ⟨rfl, rfl, rfl, by simp, fun k hk _ => (Array.getElem?_push_lt hk).trans (Array.getElem?_eq_getElem hk).symm⟩
theorem wpList_append_split {P : Program} {w : World} {ops : Array Oper} {rest : List Oper} {o : Oper} {a : Act} {Q : Exit → Act → World → Prop} (hgd : o.guard = none) (s x : Operand) (t : TypeId)
    (ho : o.op = .call { callee := .builtin .append, args := #[s, x], argTypes := #[t, t] })
    (base : Nat) (e : TypeId) (i : TypeInfo) (z : Value) (size bytes : Nat) (ht : P.underlying t = some (.slice e)) (hi : P.info? e = some i) (hz : i.zero = some z)
    (hsize : i.size = size) (hby : i.bytes = bytes) (hzs : z.cells.size = size) (hsz : 0 < size)
    (v : Value) (n : Nat) (xs : List Value) (hs : a.eval s = v) (hown : w.ownsRow base e size v n xs)
    (ad : Addr) (m c : Nat) (news : List Value) (hx : a.eval x = .slice (some ad) m c) (hl : news.length = m * size) (hnews : ∀ j u, news[j]? = some u → w.cell? (ad.add j) = some u) (h1 : ∀ u ∈ news, u.oneCell' = true)
    (h63 : n + m ≤ maxLen) (hbytes : (n + m) * bytes ≤ 140737488355328) (hbase : base ≤ w.heap.size)
    (h : ∀ v' w', w'.ownsRow base e size v' (n + m) (xs ++ news) → (v' = .slice none 0 0 ↔ v = .slice none 0 0 ∧ m = 0) →
      ((v'.ownBlock = v.ownBlock ∧ w.grownBy w' v.ownBlock) ∨ (v'.ownBlock = some w.heap.size ∧ w.grownBy w' none)) → wpList P ops Q rest (a.put o.dst v') w') : wpList P ops Q (o :: rest) a w := by
  refine wpList_plain hgd fun K hK => ?_
  obtain ⟨v', w', hr, h2, h3, h4⟩ := run_append_split (P := P) w base t o.type e i z size bytes ht hi hz hsize hby hzs hsz v n xs hown ad m c news hl hnews h1 h63 hbytes hbase
  unfold Oper.wp execOp
  simp only [ho, resolve, invoke, builtin, Sem.run_bind, Sem.run_pure, Result.andThen_ok, List.map_toArray, List.map_cons, List.map_nil, hs, hx, hr]
  exact hK _ _ (h v' w' h2 h3 h4)
end
theorem cell_of_row {W : World} {D i : Nat} {cs : Array Value} {t : TypeId} {v : Value} (h : W.heap[D]? = some (.cells cs t (0, 0))) (hi : cs[i]? = some v) : W.cell? ⟨D, i, none⟩ = some v := by
  unfold World.cell?
  rw [h]
  exact hi
theorem frozen_of_row {W : World} {D i : Nat} {cs : Array Value} {t : TypeId} (h : W.heap[D]? = some (.cells cs t (0, 0))) : W.frozen? ⟨D, i, none⟩ = false := by
  unfold World.frozen?
  rw [h]
  simp
theorem grown_none {w W : World} (h : Below w.heap.size w W) : w.grownBy W none := ⟨h.os, h.tape, h.output, h.size, fun k hk _ => h.block k hk⟩
theorem grown_alloc {w : World} (o : Obj) : w.grownBy (w.alloc o) none := grown_none ((Below.refl _ _).alloc (Nat.le_refl _) o)
theorem grown_set {w : World} (p : Addr) (u : Value) : w.grownBy (w.setCell p u) (some p.block) :=
  ⟨rfl, rfl, rfl, by simp, fun k hk hn => heap_setCell_other w p k u (fun e => hn (by rw [e]))⟩
theorem grown_trans {w w1 w2 : World} {row : Option Nat} (h : w.grownBy w1 none) (h2 : w1.grownBy w2 row) : w.grownBy w2 row :=
  ⟨h2.os.trans h.os, h2.tape.trans h.tape, h2.output.trans h.output, Nat.le_trans h.size h2.size, fun k hk hn => (h2.block k (Nat.lt_of_lt_of_le hk h.size) hn).trans (h.block k hk (by simp))⟩
theorem grown_row {W W' : World} {base n size : Nat} {e : TypeId} {v : Value} {xs : List Value} {row : Option Nat} (h : W.ownsRow base e size v n xs) (hg : W.grownBy W' row) (hr : ∀ b, v.ownBlock = some b → row ≠ some b) : W'.ownsRow base e size v n xs := by
  obtain ⟨h1, h2⟩ := h
  refine ⟨h1, ?_⟩
  rcases h2 with h2 | ⟨g, cap, cur, rfl, hb, hgg, d⟩
  · exact .inl h2
  · exact .inr ⟨g, cap, cur, rfl, hb, (hg.block g (Array.getElem?_eq_some_iff.1 hgg).1 (fun e => hr g rfl e.symm)).trans hgg, d⟩
theorem row_type {W : World} {base n size : Nat} {e : TypeId} {v : Value} {xs : List Value} (h : W.ownsRow base e size v n xs) {b : Nat} (hb : v.ownBlock = some b) : base ≤ b ∧ ∃ cur, W.heap[b]? = some (.cells cur e (0, 0)) := by
  obtain ⟨h1, h2⟩ := h
  rcases h2 with ⟨rfl, _⟩ | ⟨g, cap, cur, rfl, hbg, hg, _⟩
  · simp [Value.ownBlock] at hb
  · obtain rfl : g = b := by simpa [Value.ownBlock] using hb
    exact ⟨hbg, cur, hg⟩
abbrev XE := Ent
def xeC (x : XE) : List Value := [.string x.p, .int .i64 x.k, .int .i64 x.m, .string x.d, .string x.l]
def markE (k i : Int) : XE := ⟨bs (markI k i), 0, -7 - k, ⟨#[]⟩, ⟨#[]⟩⟩
theorem infoX : (Tryz.prog.info? 52).map (fun i => (i.zero, i.size, i.bytes)) = some (some (.agg #[.string ⟨#[]⟩, .int .i64 0, .int .i64 0, .string ⟨#[]⟩, .string ⟨#[]⟩]), 5, 64) := by kernel_rfl
set_option maxRecDepth 100000 in
set_option maxHeartbeats 1000000 in
theorem markEnt_any (k i : Int) (w : World) (hk : -1099511627776 ≤ k ∧ k ≤ 1099511627776) (hi : -1099511627776 ≤ i ∧ i ≤ 1099511627776) :
    Calls Tryz.prog 52 #[.int .i64 k, .int .i64 i] w fun r w' => Below w.heap.size w w' ∧ r = .returned (.agg #[.string (bs (markI k i)), .int .i64 0, .int .i64 (-7 - k), .string ⟨#[]⟩, .string ⟨#[]⟩]) := by
  have H := Lib.hid (fun W => markText_int k i W hk hi)
  have wr : IntKind.i64.wrap (-7 - k) = -7 - k := by rw [IntKind.wrap_i64]; omega
  have hb0 := World.alloc_heap_new w (.cells #[.string ⟨#[]⟩, .int .i64 0, .int .i64 0, .string ⟨#[]⟩, .string ⟨#[]⟩] 52)
  have hone : (#[Value.string (bs (markI k i)), Value.int .i64 0, Value.int .i64 (-7 - k), Value.string ⟨#[]⟩, Value.string ⟨#[]⟩] : Array Value).all (·.oneCell') = true := by simp [Value.oneCell']
  have HB0 := Lib.hid hb0
  have Hone := Lib.hid hone
  have fin : ∀ w1, Below (w.alloc (.cells #[.string ⟨#[]⟩, .int .i64 0, .int .i64 0, .string ⟨#[]⟩, .string ⟨#[]⟩] 52)).heap.size (w.alloc (.cells #[.string ⟨#[]⟩, .int .i64 0, .int .i64 0, .string ⟨#[]⟩, .string ⟨#[]⟩] 52)) w1 →
      w1.heap[w.heap.size]? = some (.cells #[.string ⟨#[]⟩, .int .i64 0, .int .i64 0, .string ⟨#[]⟩, .string ⟨#[]⟩] 52 (0, 0)) ∧ Below w.heap.size w (w1.setRow w.heap.size #[.string (bs (markI k i)), .int .i64 0, .int .i64 (-7 - k), .string ⟨#[]⟩, .string ⟨#[]⟩]) ∧
      (loadVar 52 ⟨w.heap.size, 0, none⟩).run Tryz.prog (w1.setRow w.heap.size #[.string (bs (markI k i)), .int .i64 0, .int .i64 (-7 - k), .string ⟨#[]⟩, .string ⟨#[]⟩]) = .ok (.agg #[.string (bs (markI k i)), .int .i64 0, .int .i64 (-7 - k), .string ⟨#[]⟩, .string ⟨#[]⟩]) (w1.setRow w.heap.size #[.string (bs (markI k i)), .int .i64 0, .int .i64 (-7 - k), .string ⟨#[]⟩, .string ⟨#[]⟩]) := fun w1 hb => by
    have h1 := (hb.block w.heap.size (by simp)).trans hb0
    have h2 : Below w.heap.size w w1 := ((Below.refl _ _).alloc (Nat.le_refl _) _).trans (hb.mono (by simp))
    refine ⟨h1, ⟨h2.os, h2.tape, h2.output, by simpa using h2.size, fun j hj => (setRow_other w1 w.heap.size j _ (by omega)).trans (h2.block j hj)⟩, ?_⟩
    exact run_loadVar_row _ w.heap.size 52 52 _ (0, 0) _ (grow_at h1) Tryz.underlying52 rfl (by kernel_rfl)
  have Fin := Lib.hid fin
  clear hb0 hone fin
  go_enter Tryz.func52, Tryz.ntmps52
  go_wp2_with (first
    | (go_at_call 72; refine (H.out _).mono ?_; rintro r w1 ⟨hb, rfl⟩
       obtain ⟨h1, h2, h3⟩ := Fin.out w1 hb
       have H1 := Lib.hid h1
       have H2 := Lib.hid h2
       have H3 := Lib.hid h3
       clear hb h1 h2 h3)
    | (refine wpList_store_row rfl _ _ _ rfl w.heap.size #[.string (bs (markI k i)), .int .i64 0, .int .i64 (-7 - k), .string ⟨#[]⟩, .string ⟨#[]⟩] rfl rfl 52 _ H1.out (by kernel_rfl) rfl Hone.out ?_))
  refine bodyPost_ret_by (v := .agg #[.string (bs (markI k i)), .int .i64 0, .int .i64 (-7 - k), .string ⟨#[]⟩, .string ⟨#[]⟩]) ?_ rfl ⟨H2.out, rfl⟩
  exact results_cell_row rfl _ _ w.heap.size _ _ _ _ rfl (grow_at H1.out) Tryz.underlying52 rfl (by kernel_rfl)
def marksE (k : Int) (n : Nat) : List XE := (List.range n).map fun i => markE k (i : Nat)
theorem marksE_len (k : Int) (n : Nat) : (marksE k n).length = n := by simp [marksE]
theorem marksE_succ (k : Int) (n : Nat) : marksE k (n + 1) = marksE k n ++ [markE k (n : Nat)] := by
  unfold marksE
  rw [List.range_succ, List.map_append]
  rfl
theorem marksE_get {k : Int} {n i : Nat} (h : i < n) : (marksE k n)[i]? = some (markE k (i : Nat)) := by
  unfold marksE
  rw [List.getElem?_map, List.getElem?_range h]
  rfl
theorem flat_get : ∀ {L : List XE} {i j : Nat} {e : XE} {x : Value}, L[i]? = some e → (xeC e)[j]? = some x → (L.flatMap xeC)[i * 5 + j]? = some x
  | [], i, j, e, x, h, _ => by simp at h
  | y :: L, 0, j, e, x, h, hx => by
    simp at h
    subst h
    have hj : j < (xeC y).length := (List.getElem?_eq_some_iff.1 hx).1
    rw [List.flatMap_cons, List.getElem?_append_left (by simpa using hj)]
    simpa using hx
  | y :: L, i + 1, j, e, x, h, hx => by
    rw [List.flatMap_cons, List.getElem?_append_right (by simp [xeC]; omega)]
    have := flat_get (L := L) (i := i) (by simpa using h) hx
    rw [← this]
    congr 1
    simp [xeC]
    omega
theorem flat_len (L : List XE) : (L.flatMap xeC).length = L.length * 5 := by
  induction L with
  | nil => rfl
  | cons e L ih => rw [List.flatMap_cons, List.length_append, ih]; simp [xeC]; omega
theorem flat_one (l : List XE) (e : XE) : (l ++ [e]).flatMap xeC = l.flatMap xeC ++ xeC e := by rw [List.flatMap_append, List.flatMap_singleton]
theorem region_still_name2 {P : Program} {id : Nat} {Q : Exit → Act → World → Prop} {a : Act} {w : World} {l : List Oper} (hm : P.follows .mixedOrders = true) (hB : Region.lexB .any l.toArray = true)
    (h : ∀ wz, wz = w.drew → wpStill P l.toArray wz (fun a' => Q .normal a' wz) l a) : (Code.region id l.toArray true).wp P Q a w := wp_region_still_lit hm hB (h _ rfl)
/- several cells are set -/
def setMany : Array Value → Nat → List Value → Array Value
  | cur, _, [] => cur
  | cur, o, v :: r => setMany (cur.setIfInBounds o v) (o + 1) r
theorem setMany_size : ∀ (vs : List Value) (cur : Array Value) (o : Nat), (setMany cur o vs).size = cur.size
  | [], _, _ => rfl
  | v :: r, cur, o => by
    unfold setMany
    rw [setMany_size r]
    simp
theorem setMany_get : ∀ (vs : List Value) (cur : Array Value) (o j : Nat), o + vs.length ≤ cur.size → (setMany cur o vs)[j]? = if o ≤ j ∧ j < o + vs.length then vs[j - o]? else cur[j]?
  | [], cur, o, j, _ => by
    unfold setMany
    rw [if_neg (by simp)]
  | v :: r, cur, o, j, h => by
    have hl : (v :: r).length = r.length + 1 := rfl
    rw [hl] at h ⊢
    unfold setMany
    rw [setMany_get r _ _ _ (by simp; omega)]
    by_cases h1 : o = j
    · subst h1
      rw [if_neg (by omega), if_pos (by omega), Array.getElem?_setIfInBounds, if_pos rfl, if_pos (by omega)]
      simp
    · by_cases h2 : o + 1 ≤ j ∧ j < o + 1 + r.length
      · rw [if_pos h2, if_pos (by omega), show j - o = j - (o + 1) + 1 by omega, List.getElem?_cons_succ]
      · rw [if_neg h2, if_neg (by omega), Array.getElem?_setIfInBounds, if_neg h1]
theorem heap_setCells : ∀ (vs : List Value) (w : World) (b o : Nat) (cur : Array Value) (t : TypeId), w.heap[b]? = some (.cells cur t (0, 0)) → (w.setCells b o vs).heap[b]? = some (.cells (setMany cur o vs) t (0, 0))
  | [], w, b, o, cur, t, h => h
  | v :: r, w, b, o, cur, t, h => heap_setCells r _ b (o + 1) _ t (Go.heap_setCell_same w b o cur t v h)
theorem grown_trans_row {w w1 w2 : World} {row : Option Nat} (h : w.grownBy w1 row) (h2 : w1.grownBy w2 row) : w.grownBy w2 row :=
  ⟨h2.os.trans h.os, h2.tape.trans h.tape, h2.output.trans h.output, Nat.le_trans h.size h2.size, fun k hk hn => (h2.block k (Nat.lt_of_lt_of_le hk h.size) hn).trans (h.block k hk hn)⟩
theorem grown_setCells (b : Nat) : ∀ (vs : List Value) (o : Nat) (w : World), w.grownBy (w.setCells b o vs) (some b)
  | [], _, w => ⟨rfl, rfl, rfl, Nat.le_refl _, fun _ _ _ => rfl⟩
  | v :: r, o, w => grown_trans_row (grown_set ⟨b, o, none⟩ v) (grown_setCells b r (o + 1) _)
theorem markI_apart {k j a b : Nat} (hk : k < 256) (hj : j < 256) (h : bs (markI k a) = bs (markI j b)) : k = j := by
  have h1 : markI k a = markI j b := congrArg (fun x : ByteArray => x.data.toList) h
  unfold markI at h1
  injection h1 with _ h1
  injection h1 with h1 _
  have h2 := congrArg (fun x : UInt8 => (x.toNat : Int)) h1
  simp only [byteI_val] at h2
  omega
theorem marksE_of {k : Int} {n : Nat} {xs : List XE} (hl : xs.length = n) (h : ∀ i : Nat, i < n → xs[i]? = some (markE k i)) : xs = marksE k n := by
  apply List.ext_getElem?
  intro i
  by_cases hi : i < n
  · rw [h i hi, marksE_get hi]
  · rw [List.getElem?_eq_none (by omega), List.getElem?_eq_none (by rw [marksE_len]; omega)]
/-- the cell of a list of entries -/
theorem flat_at {xs : List XE} {j : Nat} (hj : j < xs.length * 5) : ∃ e, xs[j / 5]? = some e ∧ (xs.flatMap xeC)[j]? = (xeC e)[j % 5]? := by
  obtain ⟨e, he⟩ : ∃ e, xs[j / 5]? = some e := ⟨_, List.getElem?_eq_getElem (by omega)⟩
  refine ⟨e, he, ?_⟩
  have h5 : j % 5 < (xeC e).length := by show j % 5 < 5; omega
  have h1 := flat_get he (List.getElem?_eq_getElem h5)
  rw [show j / 5 * 5 + j % 5 = j by omega] at h1
  rw [h1, List.getElem?_eq_getElem h5]
/-- a row of the call's own -/
def RowE (W : World) (base : Nat) (v : Value) (n : Nat) (xs : List XE) : Prop := W.ownsRow base 52 5 v n (xs.flatMap xeC) ∧ (n = 0 → v = .slice none 0 0)
theorem RowE.len {W : World} {base : Nat} {v : Value} {n : Nat} {xs : List XE} (h : RowE W base v n xs) : xs.length = n := by
  have := h.1.1
  rw [flat_len] at this
  omega
/-- a row that is read -/
def RowM (W : World) (v : Value) (n : Nat) (xs : List XE) : Prop := ∃ o cap, v = .slice o n cap ∧ n ≤ cap ∧ cap ≤ maxLen ∧ (n = 0 → o = none) ∧ ∀ i x, i < n → xs[i]? = some x → ∃ g cur, o = some ⟨g, 0, none⟩ ∧ W.heap[g]? = some (.cells cur 52 (0, 0)) ∧ ∀ j u, (xeC x)[j]? = some u → cur[i * 5 + j]? = some u
theorem RowE.look {W : World} {base : Nat} {v : Value} {n : Nat} {xs : List XE} (h : RowE W base v n xs) : RowM W v n xs := by
  have hlen := h.len
  obtain ⟨⟨h1, h2⟩, h3⟩ := h
  by_cases hn : n = 0
  · obtain rfl := h3 hn
    subst hn
    exact ⟨none, 0, rfl, Nat.le_refl _, by simp, fun _ => rfl, fun i x hi => by omega⟩
  · rcases h2 with ⟨_, h0⟩ | ⟨g, cap, cur, rfl, hb, hg, hnc, hcm, hcs, htk⟩
    · exact absurd h0 hn
    · refine ⟨_, cap, rfl, hnc, hcm, fun e => absurd e hn, fun i x hi hx => ⟨g, cur, rfl, hg, fun j u hu => ?_⟩⟩
      have hj : j < 5 := (List.getElem?_eq_some_iff.1 hu).1
      have h4 := flat_get hx hu
      rw [← htk, List.getElem?_take, if_pos (by omega)] at h4
      simpa using h4
theorem RowM.keep {W W' : World} {v : Value} {n : Nat} {xs : List XE} (h : RowM W v n xs) (hs : W.heap.size ≤ W'.heap.size) (hk : ∀ b, v.ownBlock = some b → b < W.heap.size → W'.heap[b]? = W.heap[b]?) : RowM W' v n xs := by
  obtain ⟨o, cap, rfl, h1, h2, h3, h4⟩ := h
  refine ⟨o, cap, rfl, h1, h2, h3, fun i x hi hx => ?_⟩
  obtain ⟨g, cur, rfl, hg, hc⟩ := h4 i x hi hx
  exact ⟨g, cur, rfl, (hk g rfl (Array.getElem?_eq_some_iff.1 hg).1).trans hg, hc⟩
theorem RowE.keep {W W' : World} {base : Nat} {v : Value} {n : Nat} {xs : List XE} (h : RowE W base v n xs) (hk : ∀ b, v.ownBlock = some b → b < W.heap.size → W'.heap[b]? = W.heap[b]?) : RowE W' base v n xs := by
  obtain ⟨⟨h1, h2⟩, h3⟩ := h
  refine ⟨⟨h1, ?_⟩, h3⟩
  rcases h2 with h2 | ⟨g, cap, cur, rfl, hb, hg, hnc, hcm, hcs, htk⟩
  · exact .inl h2
  · exact .inr ⟨g, cap, cur, rfl, hb, (hk g rfl (Array.getElem?_eq_some_iff.1 hg).1).trans hg, hnc, hcm, hcs, htk⟩
/-- rows with marks of different lists lie apart -/
theorem RowM.apart {W : World} {v v' : Value} {k k' n n' : Nat} (hk : k < 256) (hk' : k' < 256) (hne : k ≠ k') (h : RowM W v n (marksE k n)) (h' : RowM W v' n' (marksE k' n')) : ∀ b, v.ownBlock = some b → v'.ownBlock ≠ some b := by
  obtain ⟨o, cap, rfl, _, _, h3, h4⟩ := h
  obtain ⟨o', cap', rfl, _, _, h3', h4'⟩ := h'
  intro b hb hb'
  by_cases hn : n = 0
  · rw [h3 hn] at hb; simp [Value.ownBlock] at hb
  by_cases hn' : n' = 0
  · rw [h3' hn'] at hb'; simp [Value.ownBlock] at hb'
  obtain ⟨g, cur, rfl, hg, hc⟩ := h4 0 _ (by omega) (marksE_get (by omega))
  obtain ⟨g', cur', rfl, hg', hc'⟩ := h4' 0 _ (by omega) (marksE_get (by omega))
  simp [Value.ownBlock] at hb hb'
  subst hb
  subst hb'
  rw [hg] at hg'
  injection hg' with hg'
  injection hg' with hg' _ _
  subst hg'
  have d1 := hc 0 _ rfl
  have d2 := hc' 0 _ rfl
  rw [d1] at d2
  injection d2 with d2
  injection d2 with d2
  exact hne (markI_apart hk hk' d2)
set_option maxHeartbeats 1000000 in
theorem RowE.set {W : World} {base : Nat} {n g cap i : Nat} {xs : List XE} (h : RowE W base (.slice (some ⟨g, 0, none⟩) n cap) n xs) (hi : i < n) (u : XE) :
    RowE (W.setCells g (i * 5) (xeC u)) base (.slice (some ⟨g, 0, none⟩) n cap) n (xs.set i u) ∧ W.there g (i * 5) 5 := by
  have hlen := h.len
  obtain ⟨⟨h1, h2⟩, h3⟩ := h
  rcases h2 with ⟨e, _⟩ | ⟨g2, cap2, cur, e, hb, hg, hnc, hcm, hcs, htk⟩
  · cases e
  · injection e with e1 e2 e3
    injection e1 with e1
    injection e1 with e1
    subst e1
    subst e3
    have hset := heap_setCells (xeC u) W g (i * 5) cur 52 hg
    have h5 : (xeC u).length = 5 := rfl
    refine ⟨⟨⟨by rw [flat_len, List.length_set, hlen], .inr ⟨g, cap, _, rfl, hb, hset, hnc, hcm, by rw [setMany_size]; exact hcs, ?_⟩⟩, fun e => absurd e (by omega)⟩, fun j hj => ⟨?_, frozen_of_row hg⟩⟩
    · apply List.ext_getElem?
      intro j
      by_cases hj : j < n * 5
      · rw [List.getElem?_take, if_pos hj, Array.getElem?_toList, setMany_get _ _ _ _ (by rw [h5]; omega), h5]
        obtain ⟨e, he, hf⟩ := flat_at (xs := xs.set i u) (j := j) (by rw [List.length_set]; omega)
        rw [hf]
        rw [List.getElem?_set] at he
        by_cases hq : i = j / 5
        · rw [if_pos hq, if_pos (by omega)] at he
          obtain rfl := Option.some.inj he
          rw [if_pos (by omega), show j - i * 5 = j % 5 by omega]
        · rw [if_neg hq] at he
          rw [if_neg (by omega)]
          obtain ⟨e2, he2, hf2⟩ := flat_at (xs := xs) (j := j) (by omega)
          rw [he] at he2
          injection he2 with he2
          subst he2
          rw [← hf2, ← htk, List.getElem?_take, if_pos hj, Array.getElem?_toList]
      · rw [List.getElem?_take, if_neg hj, List.getElem?_eq_none (by rw [flat_len, List.length_set]; omega)]
    · rw [cell_of_row hg (Array.getElem?_eq_getElem (by omega))]
      rfl
theorem RowE.block {W : World} {base : Nat} {v : Value} {n b : Nat} {xs : List XE} (h : RowE W base v n xs) (hb : v.ownBlock = some b) : base ≤ b ∧ ∃ cur, W.heap[b]? = some (.cells cur 52 (0, 0)) := by
  obtain ⟨⟨h1, h2⟩, h3⟩ := h
  rcases h2 with ⟨rfl, _⟩ | ⟨g, cap, cur, rfl, hbg, hg, _⟩
  · simp [Value.ownBlock] at hb
  · obtain rfl : g = b := by simpa [Value.ownBlock] using hb
    exact ⟨hbg, cur, hg⟩
theorem RowM.cell {W : World} {v : Value} {n i : Nat} {xs : List XE} {x : XE} (h : RowM W v n xs) (hi : i < n) (hx : xs[i]? = some x) : ∃ g cap, v = .slice (some ⟨g, 0, none⟩) n cap ∧ W.rangeAt g (i * 5) (xeC x) := by
  obtain ⟨o, cap, rfl, _, _, _, h4⟩ := h
  obtain ⟨g, cur, rfl, hg, hc⟩ := h4 i x hi hx
  exact ⟨g, cap, rfl, fun j u hu => cell_of_row hg (hc j u hu)⟩
theorem RowM.block {W : World} {v : Value} {n b : Nat} {xs : List XE} (h : RowM W v n xs) (hl : xs.length = n) (hb : v.ownBlock = some b) : ∃ cur, W.heap[b]? = some (.cells cur 52 (0, 0)) := by
  obtain ⟨o, cap, rfl, _, _, h3, h4⟩ := h
  by_cases hn : n = 0
  · rw [h3 hn] at hb; simp [Value.ownBlock] at hb
  obtain ⟨g, cur, rfl, hg, hc⟩ := h4 0 _ (by omega) (List.getElem?_eq_getElem (by omega))
  obtain rfl : g = b := by simpa [Value.ownBlock] using hb
  exact ⟨cur, hg⟩
/-- what stands all the while -/
structure ApE (w wr : World) (B base : Nat) (rs : List (Value × Nat)) : Prop where
  bel : Below base w wr
  bb : wr.heap[B]? = some (.cells (rs.map (·.1)).toArray 22 (0, 0))
theorem ApE.grown {w wr W : World} {B base : Nat} {rs : List (Value × Nat)} {row : Option Nat} (h : ApE w wr B base rs) (hg : wr.grownBy W row) (hbase : base ≤ w.heap.size) (hr : ∀ b, row = some b → base ≤ b ∧ b ≠ B) : ApE w W B base rs :=
  ⟨h.bel.grown hg (Nat.le_trans hbase h.bel.size) (fun b hb => (hr b hb).1), (hg.block B (heap_lt h.bb) (fun e => (hr B e.symm).2 rfl)).trans h.bb⟩
theorem RowE.grown {W W' : World} {base : Nat} {v : Value} {n : Nat} {xs : List XE} {row : Option Nat} (h : RowE W base v n xs) (hg : W.grownBy W' row) (hr : ∀ b, v.ownBlock = some b → row ≠ some b) : RowE W' base v n xs :=
  h.keep (fun b hb hlt => hg.block b hlt (fun e => hr b hb e.symm))
theorem RowM.grown {W W' : World} {v : Value} {n : Nat} {xs : List XE} {row : Option Nat} (h : RowM W v n xs) (hg : W.grownBy W' row) (hr : ∀ b, v.ownBlock = some b → row ≠ some b) : RowM W' v n xs :=
  h.keep hg.size (fun b hb hlt => hg.block b hlt (fun e => hr b hb e.symm))
/-- the first loops -/
def E1 (w wr : World) (B base : Nat) (rs : List (Value × Nat)) (k i : Nat) : Prop := ApE w wr B base rs ∧
  ∀ j v n, rs[j]? = some (v, n) → ∃ xs, RowE wr base v n xs ∧ (j < k → xs = marksE j n) ∧ (j = k → ∀ a, a < i → xs[a]? = some (markE k a))
theorem E1.quiet {w wr W : World} {B base : Nat} {rs : List (Value × Nat)} {k i : Nat} (h : E1 w wr B base rs k i) (hbase : base ≤ w.heap.size) (hg : wr.grownBy W none) : E1 w W B base rs k i :=
  ⟨h.1.grown hg hbase (fun b hb => by cases hb), fun j v n hj => by
    obtain ⟨xs, h1, h2, h3⟩ := h.2 j v n hj
    exact ⟨xs, h1.grown hg (fun b _ e => by cases e), h2, h3⟩⟩
def ApF (rs : List (Value × Nat)) : Prop := ∀ (j k : Nat) (v : Value) (n : Nat) (v' : Value) (n' : Nat), j ≠ k → rs[j]? = some (v, n) → rs[k]? = some (v', n') → ∀ b, v.ownBlock = some b → v'.ownBlock ≠ some b
theorem E1.set {w wr : World} {B base : Nat} {rs : List (Value × Nat)} {k i n g cap : Nat} (h : E1 w wr B base rs k i) (hbase : base ≤ w.heap.size) (hd : ApF rs) (hk : rs[k]? = some (.slice (some ⟨g, 0, none⟩) n cap, n)) (hi : i < n) :
    E1 w (wr.setCells g (i * 5) (xeC (markE k i))) B base rs k (i + 1) ∧ wr.there g (i * 5) 5 := by
  obtain ⟨xs, h1, h2, h3⟩ := h.2 k _ n hk
  obtain ⟨q1, q2⟩ := h1.set hi (markE k i)
  obtain ⟨hb1, cur, hb2⟩ := h1.block (b := g) rfl
  refine ⟨⟨h.1.grown (grown_setCells _ _ _ _) hbase (fun b hb => ?_), fun j v' n' hj => ?_⟩, q2⟩
  · obtain rfl : g = b := by simpa using hb
    refine ⟨hb1, fun e => ?_⟩
    subst e
    have := h.1.bb
    rw [hb2] at this
    injection this with this
    injection this with _ this _
    exact absurd this (by decide)
  · by_cases hjk : j = k
    · subst hjk
      rw [hk] at hj
      injection hj with hj
      injection hj with hj1 hj2
      subst hj1
      subst hj2
      refine ⟨_, q1, fun e => by omega, fun _ a ha => ?_⟩
      have hlen : xs.length = n := h1.len
      rw [List.getElem?_set]
      by_cases hai : i = a
      · subst hai
        rw [if_pos rfl, if_pos (by omega)]
      · rw [if_neg hai]
        exact h3 rfl a (by omega)
    · obtain ⟨xs', r1, r2, r3⟩ := h.2 j v' n' hj
      exact ⟨xs', r1.grown (grown_setCells _ _ _ _) (fun b hb e => hd j k _ _ _ _ hjk hj hk b hb (by simpa [Value.ownBlock] using e)), r2, fun e => absurd e hjk⟩
theorem E1.next {w wr : World} {B base : Nat} {rs : List (Value × Nat)} {k n : Nat} {v : Value} (h : E1 w wr B base rs k n) (hk : rs[k]? = some (v, n)) : E1 w wr B base rs (k + 1) 0 :=
  ⟨h.1, fun j v' n' hj => by
    obtain ⟨xs, h1, h2, h3⟩ := h.2 j v' n' hj
    refine ⟨xs, h1, fun hlt => ?_, fun _ a ha => by omega⟩
    by_cases hjk : j = k
    · subst hjk
      rw [hk] at hj
      injection hj with hj
      injection hj with hj1 hj2
      subst hj2
      exact marksE_of h1.len (h3 rfl)
    · exact h2 (by omega)⟩
theorem RowE.val {W : World} {base : Nat} {v : Value} {n : Nat} {xs : List XE} (h : RowE W base v n xs) : ∃ o cap, v = .slice o n cap ∧ n ≤ cap ∧ cap ≤ maxLen ∧ (n ≠ 0 → ∃ g, o = some ⟨g, 0, none⟩) := by
  by_cases hn : n = 0
  · exact ⟨none, 0, by rw [h.2 hn, hn], by omega, by simp, fun x => absurd hn x⟩
  · obtain ⟨⟨h1, h2⟩, h3⟩ := h
    rcases h2 with ⟨_, h0⟩ | ⟨g, cap, cur, rfl, hb, hg, hnc, hcm, hcs, htk⟩
    · exact absurd h0 hn
    · exact ⟨_, cap, rfl, hnc, hcm, fun _ => ⟨g, rfl⟩⟩
theorem ApE.cell {w wr : World} {B base : Nat} {rs : List (Value × Nat)} (h : ApE w wr B base rs) {k : Nat} {v : Value} {n : Nat} (hk : rs[k]? = some (v, n)) : wr.cell? ⟨B, k, none⟩ = some v := by
  unfold World.cell?
  rw [h.bb]
  simp [hk]
/-- the lists that were grown already, and those that weren't yet (of the list k nothing is said) -/
structure E2 (w wr : World) (B base : Nat) (rs gs : List (Value × Nat)) (gv : Value) (k : Nat) (at_ : Bool) : Prop where
  st : ApE w wr B base rs
  gl : gs.length = k
  gr : wr.ownsRow base 22 1 gv k (gs.map (·.1))
  gb : gv.ownBlock ≠ some B
  old : ∀ j v n, j < k → rs[j]? = some (v, n) → RowM wr v n (marksE j n) ∧ ∃ v', gs[j]? = some (v', n + 64) ∧ RowE wr base v' (n + 64) (marksE j (n + 64))
  new : ∀ j v n, k ≤ j → (at_ = true → j ≠ k) → rs[j]? = some (v, n) → RowE wr base v n (marksE j n)
theorem E2.grown {w wr W : World} {B base : Nat} {rs gs : List (Value × Nat)} {gv : Value} {k : Nat} {a : Bool} {row : Option Nat} (h : E2 w wr B base rs gs gv k a) (hbase : base ≤ w.heap.size) (hg : wr.grownBy W row) (hN : rs.length ≤ 200) {n' : Nat} {v : Value} {kk : Nat} (hkk : a = true → kk = k)
    (hr : row = none ∨ (a = true ∧ k < rs.length ∧ row = v.ownBlock ∧ RowE wr base v n' (marksE k n'))) : E2 w W B base rs gs gv k a := by
  rcases hr with rfl | ⟨ha, hkl, rfl, hv⟩
  · exact ⟨h.st.grown hg hbase (fun b e => by cases e), h.gl, grown_row h.gr hg (fun b _ e => by cases e), h.gb, fun j v n hj hjk => by
      obtain ⟨h1, v', h2, h3⟩ := h.old j v n hj hjk
      exact ⟨h1.grown hg (fun b _ e => by cases e), v', h2, h3.grown hg (fun b _ e => by cases e)⟩, fun j v n hj hne hjk => (h.new j v n hj hne hjk).grown hg (fun b _ e => by cases e)⟩
  · have hblk := fun b (hb : v.ownBlock = some b) => hv.block hb
    have ap : ∀ (j : Nat) (v2 : Value) (n2 : Nat), j < rs.length → j ≠ k → RowM wr v2 n2 (marksE j n2) → ∀ b, v2.ownBlock = some b → v.ownBlock ≠ some b := fun j v2 n2 hj hne h2 b hb => RowM.apart (by omega) (by omega) hne h2 hv.look b hb
    refine ⟨h.st.grown hg hbase (fun b hb => ?_), h.gl, grown_row h.gr hg (fun b hb e => ?_), h.gb, fun j v2 n2 hj hjk => ?_, fun j v2 n2 hj hne hjk => ?_⟩
    · obtain ⟨h1, cur, h2⟩ := hblk b hb
      refine ⟨h1, fun e => ?_⟩
      subst e
      have := h.st.bb
      rw [h2] at this
      injection this with this
      injection this with _ this _
      exact absurd this (by decide)
    · obtain ⟨_, cur, h2⟩ := hblk b e
      obtain ⟨_, cur', h3⟩ := row_type h.gr hb
      rw [h2] at h3
      injection h3 with h3
      injection h3 with _ h3 _
      exact absurd h3 (by decide)
    · obtain ⟨h1, v', h2, h3⟩ := h.old j v2 n2 hj hjk
      have hjl : j < rs.length := (List.getElem?_eq_some_iff.1 hjk).1
      exact ⟨h1.grown hg (ap j v2 n2 hjl (by omega) h1), v', h2, h3.grown hg (ap j v' _ hjl (by omega) h3.look)⟩
    · have h1 := h.new j v2 n2 hj hne hjk
      have hjl : j < rs.length := (List.getElem?_eq_some_iff.1 hjk).1
      exact h1.grown hg (ap j v2 n2 hjl (hne ha) h1.look)
/-- the list k under way: n + i there, the old one is as it was -/
structure E3 (w wr : World) (B base : Nat) (rs gs : List (Value × Nat)) (gv : Value) (k : Nat) (v : Value) (n : Nat) (v' : Value) (i : Nat) : Prop where
  rest : E2 w wr B base rs gs gv k true
  it : rs[k]? = some (v, n)
  row : RowE wr base v' (n + i) (marksE k (n + i))
  was : RowM wr v n (marksE k n)
theorem E2.start {w wr : World} {B base : Nat} {rs gs : List (Value × Nat)} {gv : Value} {k : Nat} {v : Value} {n : Nat} (h : E2 w wr B base rs gs gv k false) (hk : rs[k]? = some (v, n)) : E3 w wr B base rs gs gv k v n v 0 := by
  have h1 := h.new k v n (Nat.le_refl _) (fun e => by cases e) hk
  exact ⟨⟨h.st, h.gl, h.gr, h.gb, h.old, fun j v n hj hne hjk => h.new j v n hj (fun e => by cases e) hjk⟩, hk, h1, h1.look⟩
theorem E3.quiet {w wr W : World} {B base : Nat} {rs gs : List (Value × Nat)} {gv : Value} {k : Nat} {v v' : Value} {n i : Nat} (h : E3 w wr B base rs gs gv k v n v' i) (hbase : base ≤ w.heap.size) (hN : rs.length ≤ 200) (hg : wr.grownBy W none) : E3 w W B base rs gs gv k v n v' i :=
  ⟨h.rest.grown (v := v) (n' := 0) (kk := k) hbase hg hN (fun _ => rfl) (.inl rfl), h.it, h.row.grown hg (fun b _ e => by cases e), h.was.grown hg (fun b _ e => by cases e)⟩
/-- one more is appended -/
theorem E3.step {w wr W : World} {B base : Nat} {rs gs : List (Value × Nat)} {gv : Value} {k : Nat} {v v' v'' : Value} {n i : Nat} (h : E3 w wr B base rs gs gv k v n v' i) (hbase : base ≤ w.heap.size) (hN : rs.length ≤ 200)
    (ho : W.ownsRow base 52 5 v'' (n + i + 1) ((marksE k (n + i)).flatMap xeC ++ xeC (markE k ((n + i : Nat) : Int))))
    (hs : (v''.ownBlock = v'.ownBlock ∧ wr.grownBy W v'.ownBlock) ∨ (v''.ownBlock = some wr.heap.size ∧ wr.grownBy W none)) : E3 w W B base rs gs gv k v n v'' (i + 1) := by
  have hkl : k < rs.length := (List.getElem?_eq_some_iff.1 h.it).1
  rw [← flat_one, ← marksE_succ] at ho
  have hrow : RowE W base v'' (n + (i + 1)) (marksE k (n + (i + 1))) := ⟨ho, fun e => by omega⟩
  rcases hs with ⟨h1, h2⟩ | ⟨h1, h2⟩
  · refine ⟨h.rest.grown (v := v') (n' := n + i) (kk := k) hbase h2 hN (fun _ => rfl) (.inr ⟨rfl, hkl, rfl, h.row⟩), h.it, hrow, ?_⟩
    by_cases hn : n = 0
    · obtain ⟨o, cap, rfl, a1, a2, a3, _⟩ := h.was
      exact ⟨o, cap, rfl, a1, a2, a3, fun j x hj => by omega⟩
    · by_cases hb : v.ownBlock = v'.ownBlock
      · obtain ⟨o, cap, rfl, a1, a2, a3, a4⟩ := h.was
        refine ⟨o, cap, rfl, a1, a2, a3, fun j x hj hx => ?_⟩
        obtain ⟨g, cur, rfl, hg, hc⟩ := a4 j x hj hx
        obtain ⟨g2, cap2, hv2, hcell⟩ := hrow.look.cell (i := j) (x := markE k j) (by omega) (marksE_get (by omega))
        have hgg : g2 = g := by
          have e := h1
          rw [← hb, hv2] at e
          simpa [Value.ownBlock] using e
        subst hgg
        rw [marksE_get hj] at hx
        injection hx with hx
        subst hx
        obtain ⟨_, cur2, hg2⟩ := hrow.block (b := g2) (by rw [hv2]; rfl)
        refine ⟨g2, cur2, rfl, hg2, fun a u hu => ?_⟩
        have hcu := hcell a u hu
        unfold World.cell? at hcu
        rw [hg2] at hcu
        exact hcu
      · exact h.was.grown h2 (fun b e e2 => hb (e.trans e2.symm))
  · refine ⟨h.rest.grown (v := v') (n' := n + i) (kk := k) hbase h2 hN (fun _ => rfl) (.inl rfl), h.it, hrow, h.was.grown h2 (fun b _ e => by cases e)⟩
/-- the grown list is laid down -/
theorem E3.next {w wr W : World} {B base : Nat} {rs gs : List (Value × Nat)} {gv gv' : Value} {k : Nat} {v v' : Value} {n : Nat} (h : E3 w wr B base rs gs gv k v n v' 64) (hbase : base ≤ w.heap.size) (hN : rs.length ≤ 200)
    (hs : (gv'.ownBlock = gv.ownBlock ∧ wr.grownBy W gv.ownBlock) ∨ (gv'.ownBlock = some wr.heap.size ∧ wr.grownBy W none)) (ho : W.ownsRow base 22 1 gv' (k + 1) (gs.map (·.1) ++ [v'])) : E2 w W B base rs (gs ++ [(v', n + 64)]) gv' (k + 1) false := by
  have hg : wr.grownBy W gv.ownBlock := by
    rcases hs with ⟨_, h2⟩ | ⟨_, h2⟩
    · exact h2
    · exact ⟨h2.os, h2.tape, h2.output, h2.size, fun k hk _ => h2.block k hk (by simp)⟩
  have hgb : gv'.ownBlock ≠ some B := by
    rcases hs with ⟨h1, _⟩ | ⟨h1, _⟩
    · rw [h1]; exact h.rest.gb
    · rw [h1]
      have := heap_lt h.rest.st.bb
      intro e
      injection e with e
      omega
  have hne : ∀ (b : Nat) cur, gv.ownBlock = some b → wr.heap[b]? = some (.cells cur 52 (0, 0)) → False := fun b cur hb hc => by
    obtain ⟨_, cur', h3⟩ := row_type h.rest.gr hb
    rw [hc] at h3
    injection h3 with h3
    injection h3 with _ h3 _
    exact absurd h3 (by decide)
  have rl : ∀ {v2 : Value} {n2 j : Nat}, RowM wr v2 n2 (marksE j n2) → RowM W v2 n2 (marksE j n2) := fun {v2 n2 j} h2 => h2.grown hg fun b hb e => by
    obtain ⟨cur, hc⟩ := h2.block (marksE_len _ _) hb
    exact hne b cur e hc
  have rx : ∀ {v2 : Value} {n2 j : Nat}, RowE wr base v2 n2 (marksE j n2) → RowE W base v2 n2 (marksE j n2) := fun {v2 n2 j} h2 => h2.grown hg fun b hb e => by
    obtain ⟨_, cur, hc⟩ := h2.block hb
    exact hne b cur e hc
  have hst : ApE w W B base rs := h.rest.st.grown hg hbase fun b hb => by
    exact ⟨(row_type h.rest.gr hb).1, fun e => h.rest.gb (by rw [hb, e])⟩
  refine ⟨hst, by simp [h.rest.gl], by rw [List.map_append]; exact ho, hgb, fun j v2 n2 hj hjk => ?_, fun j v2 n2 hj _ hjk => rx (h.rest.new j v2 n2 (by omega) (fun _ => by omega) hjk)⟩
  by_cases hjk2 : j = k
  · subst hjk2
    rw [h.it] at hjk
    injection hjk with hjk
    injection hjk with e1 e2
    subst e1
    subst e2
    refine ⟨rl h.was, v', ?_, rx h.row⟩
    rw [← h.rest.gl, List.getElem?_concat_length]
  · obtain ⟨h1, v3, h2, h3⟩ := h.rest.old j v2 n2 (by omega) hjk
    refine ⟨rl h1, v3, ?_, rx h3⟩
    rw [List.getElem?_append_left (by rw [h.rest.gl]; omega)]
    exact h2
theorem E1.second {w wr : World} {B base : Nat} {rs : List (Value × Nat)} (h : E1 w wr B base rs rs.length 0) : E2 w wr B base rs [] (.slice none 0 0) 0 false :=
  ⟨h.1, rfl, World.ownsRow_nil _ _ _ _, (by simp [Value.ownBlock]), fun j v n hj => by omega, fun j v n _ _ hjk => by
    obtain ⟨xs, h1, h2, _⟩ := h.2 j v n hjk
    rw [h2 (List.getElem?_eq_some_iff.1 hjk).1] at h1
    exact h1⟩
theorem E3.app {w wr : World} {B base : Nat} {rs gs : List (Value × Nat)} {gv : Value} {k : Nat} {v v' : Value} {n : Nat} (h : E3 w wr B base rs gs gv k v n v' 64) (hbase : base ≤ w.heap.size) (hN : rs.length ≤ 200) :
    (wr.alloc (.cells #[v'] 22)).ownsRow base 22 1 gv k (gs.map (·.1)) ∧ base ≤ (wr.alloc (.cells #[v'] 22)).heap.size ∧ (∀ (j : Nat) (u : Value), [v'][j]? = some u → (wr.alloc (.cells #[v'] 22)).cell? ((⟨wr.heap.size, 0, none⟩ : Addr).add j) = some u) ∧
      ∀ gv' w6, w6.ownsRow base 22 1 gv' (k + 1) (gs.map (·.1) ++ [v']) → ((gv'.ownBlock = gv.ownBlock ∧ (wr.alloc (.cells #[v'] 22)).grownBy w6 gv.ownBlock) ∨ (gv'.ownBlock = some (wr.alloc (.cells #[v'] 22)).heap.size ∧ (wr.alloc (.cells #[v'] 22)).grownBy w6 none)) →
        E2 w w6 B base rs (gs ++ [(v', n + 64)]) gv' (k + 1) false := by
  have hq := h.quiet hbase hN (grown_alloc (w := wr) (.cells #[v'] 22))
  refine ⟨hq.rest.gr, by have := h.rest.st.bel.size; rw [World.size_alloc]; omega, fun j u hj => ?_, fun gv' w6 ho hs => hq.next hbase hN hs ho⟩
  cases j with
  | zero =>
    injection hj with hj
    subst hj
    show (wr.alloc _).cell? ⟨wr.heap.size, 0, none⟩ = _
    unfold World.cell?
    rw [World.alloc_heap_new]
    rfl
  | succ j => simp at hj
theorem E2.quiet {w wr W : World} {B base : Nat} {rs gs : List (Value × Nat)} {gv : Value} {k : Nat} (h : E2 w wr B base rs gs gv k false) (hbase : base ≤ w.heap.size) (hN : rs.length ≤ 200) (hg : wr.grownBy W none) : E2 w W B base rs gs gv k false :=
  h.grown (v := .bool false) (n' := 0) (kk := k) hbase hg hN (fun _ => rfl) (.inl rfl)
/-- the grown list k as it is read -/
theorem E2.read {w wr : World} {B base : Nat} {rs gs : List (Value × Nat)} {gv : Value} {k N : Nat} (h : E2 w wr B base rs gs gv N false) (hbase : base ≤ w.heap.size) (hk : k < N) {v : Value} {n : Nat} (hkn : rs[k]? = some (v, n)) :
    ∃ (g gcap g2 c2 : Nat) (o : Option Addr) (c : Nat), gv = .slice (some ⟨g, 0, none⟩) N gcap ∧ N ≤ gcap ∧ gcap ≤ maxLen ∧ n + 64 ≤ c2 ∧ c2 ≤ maxLen ∧ v = .slice o n c ∧ n ≤ c ∧ c ≤ maxLen ∧ (∀ i, i < n → ∃ g3, o = some ⟨g3, 0, none⟩) ∧
      ∀ W, wr.grownBy W none → W.cell? ⟨g, k, none⟩ = some (.slice (some ⟨g2, 0, none⟩) (n + 64) c2) ∧ W.cell? ⟨B, k, none⟩ = some v ∧ (∀ i : Nat, i < n + 64 → W.rangeAt g2 (i * 5) (xeC (markE k i))) ∧ ∀ (i g3 : Nat), i < n → o = some ⟨g3, 0, none⟩ → W.rangeAt g3 (i * 5) (xeC (markE k i)) := by
  obtain ⟨h1, v', h2, h3⟩ := h.old k v n hk hkn
  obtain ⟨o2, c2, rfl, a1, a2, a3⟩ := h3.val
  obtain ⟨g2, rfl⟩ := a3 (by omega)
  obtain ⟨o, c, rfl, b1, b2, b3, b4⟩ := h1
  obtain ⟨q1, q2⟩ := h.gr
  rcases q2 with ⟨rfl, q2⟩ | ⟨g, gcap, cur, rfl, hbg, hg, hnc, hcm, hcs, htk⟩
  · omega
  refine ⟨g, gcap, g2, c2, o, c, rfl, hnc, hcm, a1, a2, rfl, b1, b2, fun i hi => ?_, fun W hW => ⟨?_, ?_, fun i hi => ?_, fun i g3 hi e => ?_⟩⟩
  · obtain ⟨g3, cur3, e, _, _⟩ := b4 i _ hi (marksE_get hi)
    exact ⟨g3, e⟩
  · have hgw : W.heap[g]? = some (.cells cur 22 (0, 0)) := (hW.block g (heap_lt hg) (by simp)).trans hg
    have hx : (gs.map (·.1))[k]? = some (.slice (some ⟨g2, 0, none⟩) (n + 64) c2) := by rw [List.getElem?_map, h2]; rfl
    rw [← htk, List.getElem?_take, if_pos (by omega)] at hx
    exact cell_of_row hgw (by simpa using hx)
  · exact (h.st.grown hW hbase (fun b e => by cases e)).cell hkn
  · obtain ⟨g4, cap4, e, hc⟩ := (h3.grown hW (fun b _ e => by cases e)).look.cell (i := i) (x := markE k i) hi (marksE_get hi)
    injection e with e _ _
    injection e with e
    injection e with e
    subst e
    exact hc
  · obtain ⟨g4, cur4, e4, hg4, hc4⟩ := b4 i _ hi (marksE_get hi)
    rw [e] at e4
    injection e4 with e4
    injection e4 with e4
    subst e4
    exact fun j u hu => cell_of_row ((hW.block g3 (heap_lt hg4) (by simp)).trans hg4) (hc4 j u hu)
theorem step_store_mid {P : Program} {w : World} {ops : Array Oper} {o : Oper} {a : Act} {K : Act → World → Prop} {Q : Exit → Act → World → Prop} {X : Prop} (hw : Region.wanted o (yielded ops a.tmps) = true) (ty : TypeId) (x y : Operand) (ho : o.op = .store ty x y)
    (b off : Nat) (cells : Array Value) (hx : a.eval x = .pointer (some ⟨b, off, none⟩)) (hy : a.eval y = .agg cells)
    (ht : w.there b off cells.size) (hi : (P.info? ty).map (·.size) = some cells.size) (h1 : cells.all (·.oneCell') = true)
    (h : K (a.put o.dst undef) (w.setCells b off cells.toList)) : if Region.wanted o (yielded ops a.tmps) = true then Oper.wp P o a w K Q else X := by
  rw [if_pos hw]
  exact wp_store_mid ty x y ho b off cells hx hy ht hi h1 h
theorem still_load_guard {P : Program} {w : World} {ops : Array Oper} {rest : List Oper} {o : Oper} {a : Act} {Q : Act → Prop} (hw : Region.wanted o (yielded ops a.tmps) = true) (ty : TypeId) (x : Operand) (ho : o.op = .load ty x)
    (p : Addr) (hx : a.eval x = .pointer (some p)) (cs : List Value) (d : TypeDesc) (hc : ∀ j v, cs[j]? = some v → w.cell? (p.add j) = some v)
    (hu : P.underlying ty = some d) (hd : (match d with | .struct _ | .array _ _ => true | _ => false) = true) (hi : (P.info? ty).map (·.size) = some cs.length)
    (h : wpStill P ops w Q rest (a.put o.dst (.agg cs.toArray))) : wpStill P ops w Q (o :: rest) a := by
  refine wpStill_step (fun K hK => ?_)
  rw [if_pos hw]
  unfold Oper.still execOp
  simp only [ho, hx, Instr.loadAt, Instr.sureAddr, Sem.run_bind, Sem.run_pure, Result.andThen_ok, run_load_items w p ty cs d hc hu hd hi]
  exact ⟨rfl, hK _ h⟩
theorem still_val_eq {P : Program} {w : World} {ops : Array Oper} {rest : List Oper} {o : Oper} {a : Act} {Q : Act → Prop} (v : Value) (hw : Region.wanted o (yielded ops a.tmps) = true) (hx : (execOp a.eval o).run P w = .ok (.value v) w) : wpStill P ops w Q (o :: rest) a = wpStill P ops w Q rest (a.put o.dst v) := by
  show (if Region.wanted o (yielded ops a.tmps) = true then o.still P a w (wpStill P ops w Q rest) else wpStill P ops w Q rest (a.put o.dst undef)) = _
  rw [if_pos hw]
  unfold Oper.still
  rw [hx]
  exact propext ⟨fun h => h.2, fun h => ⟨rfl, h⟩⟩
theorem still_skip_eq {P : Program} {w : World} {ops : Array Oper} {rest : List Oper} {o : Oper} {a : Act} {Q : Act → Prop} (hw : Region.wanted o (yielded ops a.tmps) = false) : wpStill P ops w Q (o :: rest) a = wpStill P ops w Q rest (a.put o.dst undef) := by
  show (if Region.wanted o (yielded ops a.tmps) = true then o.still P a w (wpStill P ops w Q rest) else wpStill P ops w Q rest (a.put o.dst undef)) = _
  rw [if_neg (by rw [hw]; decide)]
theorem lt_cellM {W : World} {a : Addr} {v : Value} (h : W.cell? a = some v) : a.block < W.heap.size := World.block_lt_of_cell? W a h
/-- what the third loops read -/
def RD (W : World) (g k g2 n c2 B : Nat) (o : Option Addr) (c : Nat) : Prop := W.cell? ⟨g, k, none⟩ = some (.slice (some ⟨g2, 0, none⟩) (n + 64) c2) ∧ W.cell? ⟨B, k, none⟩ = some (.slice o n c) ∧ (∀ i : Nat, i < n + 64 → W.rangeAt g2 (i * 5) (xeC (markE k i))) ∧ ∀ (i g3 : Nat), i < n → o = some ⟨g3, 0, none⟩ → W.rangeAt g3 (i * 5) (xeC (markE k i))
theorem infoRowX : (Tryz.prog.info? 22).map (fun i => (i.zero, i.size, i.bytes)) = some (some (.slice none 0 0), 1, 24) := by kernel_rfl
set_option maxRecDepth 100000 in
set_option maxHeartbeats 4000000 in
theorem apart_any (rs : List (Value × Nat)) (B base cap : Nat) (w : World) (hn : rs.length ≤ 200) (hcap : rs.length ≤ cap) (hcm : cap ≤ maxLen) (hbase : base ≤ w.heap.size)
    (hB : w.heap[B]? = some (.cells (rs.map (·.1)).toArray 22 (0, 0))) (hr : ∀ (j : Nat) (v : Value) (n : Nat), rs[j]? = some (v, n) → ∃ xs, RowE w base v n xs) (hd : ApF rs) (hl : ∀ (j : Nat) (v : Value) (n : Nat), rs[j]? = some (v, n) → n ≤ 4194304) :
    Calls Tryz.prog 22 #[.slice (some ⟨B, 0, none⟩) rs.length cap] w fun r w' => r = .returned (.bool true) ∧ Below base w w' := by
  obtain ⟨N, hN⟩ : ∃ N, N = rs.length := ⟨_, rfl⟩
  have h1 : E1 w w B base rs 0 0 := ⟨⟨Below.refl _ _, hB⟩, fun j v n hj => by
    obtain ⟨xs, hx⟩ := hr j v n hj
    exact ⟨xs, hx, fun h => by omega, fun _ a ha => by omega⟩⟩
  rw [← hN] at hn hcap ⊢
  have Hl := Lib.hid hl
  have Hd := Lib.hid hd
  have HN := Lib.hid hN
  have H1 := Lib.hid h1
  have mk := fun (k i : Nat) (W : World) (hk : k ≤ 200) (hi : i ≤ 4194368) => markEnt_any k i W (by omega) (by omega)
  have HM := Lib.hid mk
  clear hB hr hd hl hN h1 mk
  go_enter Tryz.func22, Tryz.ntmps22
  go_upto_block 0 with fail
  go_cut [2] (fun rv wx => rv = .bool false ∧ E1 w wx B base rs N 0)
  case first =>
    go_wp2_with fail
    go_loopw [3, 4] (fun kv _ wr => ∃ (k : Nat), kv = .int .i64 (k : Int) ∧ k ≤ N ∧ E1 w wr B base rs k 0) (fun kv _ _ => N - (intOf kv).toNat)
    case atStart => exact ⟨0, rfl, Nat.zero_le _, H1.out⟩
    case round =>
      obtain ⟨k, rfl, hk, hP⟩ := hrel
      by_cases hlt : k < N
      · obtain ⟨⟨v, n⟩, hkn⟩ : ∃ x, rs[k]? = some x := ⟨_, List.getElem?_eq_getElem (by rw [← HN.out]; exact hlt)⟩
        obtain ⟨xs, hx, _⟩ := hP.2 k v n hkn
        obtain ⟨o, cp, rfl, hnc, hcm2, hog⟩ := hx.val
        have hnl := Hl.out k _ n hkn
        have HP := Lib.hid hP
        have Hkn := Lib.hid hkn
        have Hog := Lib.hid hog
        clear hP hkn hx hog
        go_wp2_with fail
        obtain ⟨wo, hwo⟩ : ∃ x, x = wr := ⟨_, rfl⟩
        subst hwo
        go_loopw [4] (fun iv wr => ∃ (i : Nat), iv = .int .i64 (i : Int) ∧ i ≤ n ∧ E1 w wr B base rs k i) (fun iv _ => n - (intOf iv).toNat)
        case atStart => exact ⟨0, rfl, Nat.zero_le _, HP.out⟩
        case round =>
          obtain ⟨i, rfl, hi, hPi⟩ := hrel
          have c0 := hPi.1.cell Hkn.out
          have HPi := Lib.hid hPi
          clear hPi
          by_cases hilt : i < n
          · obtain ⟨g, rfl⟩ := Hog.out (by omega)
            obtain ⟨xs1, hx1, _, _⟩ := HPi.out.2 k _ n Hkn.out
            obtain ⟨y, hy⟩ : ∃ y, xs1[i]? = some y := ⟨_, List.getElem?_eq_getElem (by rw [hx1.len]; exact hilt)⟩
            obtain ⟨g', cp', hgg, hrg⟩ := hx1.look.cell hilt hy
            injection hgg with hgg _ _
            injection hgg with hgg
            injection hgg with hgg
            subst hgg
            have hnx : ∀ W, Below wr.heap.size wr W → (W.cell? ⟨B, k, none⟩ = some (.slice (some ⟨g, 0, none⟩) n cp) ∧ W.cell? ⟨g, i * 5, none⟩ = some (.string y.p) ∧ W.cell? ⟨g, i * 5 + 1, none⟩ = some (.int .i64 y.k) ∧ W.cell? ⟨g, i * 5 + 2, none⟩ = some (.int .i64 y.m) ∧ W.cell? ⟨g, i * 5 + 3, none⟩ = some (.string y.d) ∧ W.cell? ⟨g, i * 5 + 4, none⟩ = some (.string y.l) ∧ W.frozen? ⟨g, i * 5, none⟩ = false ∧ W.frozen? ⟨g, i * 5 + 1, none⟩ = false ∧ W.frozen? ⟨g, i * 5 + 2, none⟩ = false ∧ W.frozen? ⟨g, i * 5 + 3, none⟩ = false ∧ W.frozen? ⟨g, i * 5 + 4, none⟩ = false) ∧ E1 w (W.setCells g (i * 5) (xeC (markE k i))) B base rs k (i + 1) := fun W hW => by
              have hq := HPi.out.quiet hbase (grown_none hW)
              obtain ⟨a1, a2⟩ := hq.set hbase Hd.out Hkn.out hilt
              have hc : ∀ j v, (xeC y)[j]? = some v → W.cell? ⟨g, i * 5 + j, none⟩ = some v := fun j v hj => (hW.cell (p := ⟨g, i * 5 + j, none⟩) (lt_cellM (hrg j v hj))).trans (hrg j v hj)
              exact ⟨⟨hq.1.cell Hkn.out, hc 0 _ rfl, hc 1 _ rfl, hc 2 _ rfl, hc 3 _ rfl, hc 4 _ rfl, (a2 0 (by decide)).2, (a2 1 (by decide)).2, (a2 2 (by decide)).2, (a2 3 (by decide)).2, (a2 4 (by decide)).2⟩, a1⟩
            have hsd := (hnx wr.drew (below_drew (Below.refl _ _))).1
            have Hnx := Lib.hid hnx
            clear hnx hx1 hy hrg
            go_wp2_with fail
            clear c0
            have c0d := hsd.1
            clear hsd
            go_region_law (go_simp; go_at_call 52; refine (HM.out k i _ (by omega) (by omega)).mono ?_; rintro r w4 ⟨hb4, rfl⟩
                           obtain ⟨⟨z0, z1, z2, z3, z4, z5, z6, z7, z8, z9, z10⟩, d4⟩ := Hnx.out w4 ⟨hb4.os, hb4.tape, hb4.output, hb4.size, hb4.block⟩
                           have H4 := Lib.hid d4
                           clear hb4 d4)
            all_goals go_wp2_with fail
            all_goals go_roundw
            all_goals first
              | exact ⟨i + 1, by go_num, by omega, H4.out⟩
              | (simp [intOf]; omega)
          · obtain rfl : i = n := by omega
            go_wp2
            go_roundw
            case rel => exact ⟨k + 1, by go_num, by omega, HPi.out.next Hkn.out⟩
            case measure => simp [intOf]; omega
      · obtain rfl : k = N := by omega
        go_wp2
        go_meet
        exact ⟨rfl, hP⟩
  case rest =>
    obtain ⟨rfl, hP⟩ := hcut
    have H2 := Lib.hid (E1.second (HN.out ▸ hP))
    clear hP
    obtain ⟨i0, hi, hz0, hz1, hz2⟩ := info_parts infoX
    obtain ⟨i1, hi1, hy0, hy1, hy2⟩ := info_parts infoRowX
    have Hi := Lib.hid hi
    have Hz0 := Lib.hid hz0
    have Hz1 := Lib.hid hz1
    have Hz2 := Lib.hid hz2
    have Hi1 := Lib.hid hi1
    have Hy0 := Lib.hid hy0
    have Hy1 := Lib.hid hy1
    have Hy2 := Lib.hid hy2
    clear hi hz0 hz1 hz2 hi1 hy0 hy1 hy2
    go_upto_block 4 with fail
    go_cut [2, 5] (fun rv gv wx => rv = .bool false ∧ ∃ gs, E2 w wx B base rs gs gv N false)
    case first =>
      go_wp2_with fail
      go_loopw [5, 6, 7, 8] (fun gv kv _ _ wr => ∃ (k : Nat) (gs : List (Value × Nat)), kv = .int .i64 (k : Int) ∧ k ≤ N ∧ E2 w wr B base rs gs gv k false) (fun _ kv _ _ _ => N - (intOf kv).toNat)
      case atStart => exact ⟨0, [], rfl, Nat.zero_le _, H2.out⟩
      case round =>
        obtain ⟨k, gs, rfl, hk, hP⟩ := hrel
        by_cases hlt : k < N
        · obtain ⟨⟨v, n⟩, hkn⟩ : ∃ x, rs[k]? = some x := ⟨_, List.getElem?_eq_getElem (by rw [← HN.out]; exact hlt)⟩
          obtain ⟨o, cp, rfl, hnc, hcm2, hog⟩ := (hP.new k v n (Nat.le_refl _) (fun e => by cases e) hkn).val
          have hnl := Hl.out k _ n hkn
          have c0 := hP.st.cell hkn
          have HP := Lib.hid (hP.start hkn)
          have Hkn := Lib.hid hkn
          have Hgl := Lib.hid hP.gl
          clear hP hkn hog
          go_wp2_with fail
          obtain ⟨wo, hwo⟩ : ∃ x, x = wr := ⟨_, rfl⟩
          subst hwo
          clear c0
          go_loopw [7, 8] (fun g iv wr => ∃ (i : Nat), iv = .int .i64 (i : Int) ∧ i ≤ 64 ∧ E3 w wr B base rs gs _ k (.slice o n cp) n g i) (fun _ iv _ => 64 - (intOf iv).toNat)
          case atStart => exact ⟨0, rfl, Nat.zero_le _, HP.out⟩
          case round =>
            obtain ⟨i, rfl, hi, hPi⟩ := hrel
            obtain ⟨o2, cp2, rfl, hnc2, hcm3, _⟩ := hPi.row.val
            have c0 := hPi.rest.st.cell Hkn.out
            by_cases hilt : i < 64
            · have hm := HM.out k (n + i)
              rw [show ((n + i : Nat) : Int) = (n : Int) + (i : Int) from by simp] at hm
              have hsz := hPi.rest.st.bel.size
              have hcast : ((n + i : Nat) : Int) = (n : Int) + (i : Int) := by simp
              have nxt : ∀ W, Below wr.heap.size wr W → base ≤ W.heap.size ∧ (∀ (j : Nat) (u : Value), ([.string (bs (markI (k : Int) ((n : Int) + (i : Int)))), .int .i64 0, .int .i64 (-7 - (k : Int)), .string ⟨#[]⟩, .string ⟨#[]⟩] : List Value)[j]? = some u → (W.alloc (.cells #[.string (bs (markI (k : Int) ((n : Int) + (i : Int)))), .int .i64 0, .int .i64 (-7 - (k : Int)), .string ⟨#[]⟩, .string ⟨#[]⟩] 52)).cell? ((⟨W.heap.size, 0, none⟩ : Addr).add j) = some u) ∧ (W.alloc (.cells #[.string (bs (markI (k : Int) ((n : Int) + (i : Int)))), .int .i64 0, .int .i64 (-7 - (k : Int)), .string ⟨#[]⟩, .string ⟨#[]⟩] 52)).ownsRow base 52 5 (.slice o2 (n + i) cp2) (n + i) ((marksE k (n + i)).flatMap xeC) ∧ base ≤ (W.alloc (.cells #[.string (bs (markI (k : Int) ((n : Int) + (i : Int)))), .int .i64 0, .int .i64 (-7 - (k : Int)), .string ⟨#[]⟩, .string ⟨#[]⟩] 52)).heap.size ∧
                  ∀ v'' w6, w6.ownsRow base 52 5 v'' (n + i + 1) ((marksE k (n + i)).flatMap xeC ++ [.string (bs (markI (k : Int) ((n : Int) + (i : Int)))), .int .i64 0, .int .i64 (-7 - (k : Int)), .string ⟨#[]⟩, .string ⟨#[]⟩]) →
                    ((v''.ownBlock = (Value.slice o2 (n + i) cp2).ownBlock ∧ (W.alloc (.cells #[.string (bs (markI (k : Int) ((n : Int) + (i : Int)))), .int .i64 0, .int .i64 (-7 - (k : Int)), .string ⟨#[]⟩, .string ⟨#[]⟩] 52)).grownBy w6 (Value.slice o2 (n + i) cp2).ownBlock) ∨ (v''.ownBlock = some (W.alloc (.cells #[.string (bs (markI (k : Int) ((n : Int) + (i : Int)))), .int .i64 0, .int .i64 (-7 - (k : Int)), .string ⟨#[]⟩, .string ⟨#[]⟩] 52)).heap.size ∧ (W.alloc (.cells #[.string (bs (markI (k : Int) ((n : Int) + (i : Int)))), .int .i64 0, .int .i64 (-7 - (k : Int)), .string ⟨#[]⟩, .string ⟨#[]⟩] 52)).grownBy w6 none)) → E3 w w6 B base rs gs _ k (.slice o n cp) n v'' (i + 1) := fun W hW => by
                have hg0 := grown_none hW
                have hq := hPi.quiet hbase (by rw [← HN.out]; exact hn) hg0
                have hq2 := hq.quiet hbase (by rw [← HN.out]; exact hn) (grown_alloc (w := W) (.cells #[.string (bs (markI (k : Int) ((n : Int) + (i : Int)))), .int .i64 0, .int .i64 (-7 - (k : Int)), .string ⟨#[]⟩, .string ⟨#[]⟩] 52))
                have hWs := hW.size
                refine ⟨by omega, item_cells (cs := xeC (markE (k : Int) ((n : Int) + (i : Int)))) (World.alloc_heap_new W _), hq2.row.1, by rw [World.size_alloc]; omega, fun v'' w6 ho hs => hq2.step hbase (by rw [← HN.out]; exact hn) ?_ hs⟩
                rw [hcast]
                exact ho
              have Hm := Lib.hid hm
              have Hnx := Lib.hid nxt
              clear hm nxt hPi hsz
              go_wp2_with (first
                | (go_at_call 52; refine (Hm.out _ (by omega) (by omega)).mono ?_; rintro r w4 ⟨hb4, rfl⟩
                   obtain ⟨d2, d3, d4, d5, d6⟩ := Hnx.out w4 ⟨hb4.os, hb4.tape, hb4.output, hb4.size, hb4.block⟩
                   have D3 := Lib.hid d3
                   have D4 := Lib.hid d4
                   have D6 := Lib.hid d6
                   clear hb4 d3 d4 d6)
                | (refine wpList_append_split rfl _ _ 22 rfl base 52 i0 _ 5 64 Tryz.underlying22 Hi.out Hz0.out Hz1.out Hz2.out rfl (by decide) _ (n + i) _ rfl D4.out ⟨w4.heap.size, 0, none⟩ 1 1 [.string (bs (markI (k : Int) ((n : Int) + (i : Int)))), .int .i64 0, .int .i64 (-7 - (k : Int)), .string ⟨#[]⟩, .string ⟨#[]⟩] rfl rfl D3.out (by simp [Value.oneCell']) (by unfold maxLen; omega) (by omega) d5 ?_
                   intro v'' w6 ho6 _ hs6
                   have H6 := Lib.hid (D6.out v'' w6 ho6 hs6)
                   clear ho6 hs6))
              go_roundw
              case rel => exact ⟨i + 1, by go_num, by omega, H6.out⟩
              case measure => simp [intOf]; omega
            · obtain rfl : i = 64 := by omega
              have nxt := hPi.app hbase (by rw [← HN.out]; exact hn)
              obtain ⟨d4, d5, d3, d6⟩ := nxt
              have D3 := Lib.hid d3
              have D4 := Lib.hid d4
              have D6 := Lib.hid d6
              clear d3 d4 d6 hPi
              go_wp2_with (first
                | (refine wpList_append_split rfl _ _ 45 rfl base 22 i1 (.slice none 0 0) 1 24 Tryz.underlying45 Hi1.out Hy0.out Hy1.out Hy2.out rfl (by decide) _ k _ rfl D4.out ⟨wr.heap.size, 0, none⟩ 1 1 [.slice o2 (n + 64) cp2] rfl rfl D3.out (by intro u hu; rw [List.mem_singleton.1 hu]; rfl) (by unfold maxLen; omega) (by omega) d5 ?_
                   intro v'' w6 ho6 _ hs6
                   have H6 := Lib.hid (D6.out v'' w6 ho6 hs6)
                   clear ho6 hs6))
              go_roundw
              case rel => exact ⟨k + 1, _, by go_num, by omega, H6.out⟩
              case measure => simp [intOf]; omega
        · obtain rfl : k = N := by omega
          go_wp2
          go_meet
          exact ⟨rfl, gs, hP⟩
    case rest =>
      obtain ⟨rfl, gs, hP⟩ := hcut
      have HP := Lib.hid hP
      clear hP
      go_wp2_with fail
      go_loopw [9, 10, 11] (fun kv _ _ wr => ∃ (k : Nat), kv = .int .i64 (k : Int) ∧ k ≤ N ∧ E2 w wr B base rs gs _ N false) (fun kv _ _ _ => N - (intOf kv).toNat)
      case atStart => exact ⟨0, rfl, Nat.zero_le _, HP.out⟩
      case round =>
        obtain ⟨k, rfl, hk, hP⟩ := hrel
        by_cases hlt : k < N
        · obtain ⟨⟨v, n⟩, hkn⟩ : ∃ x, rs[k]? = some x := ⟨_, List.getElem?_eq_getElem (by rw [← HN.out]; exact hlt)⟩
          have hnl := Hl.out k _ n hkn
          obtain ⟨g, gcap, g2, c2, o, c, rfl, e1, e2, e3, e4, rfl, e5, e6, e7, e8⟩ := hP.read hbase hlt hkn
          have HP := Lib.hid hP
          have Hkn := Lib.hid hkn
          have E7 := Lib.hid e7
          obtain ⟨f1, f2, f3, f4⟩ := e8 wr (grown_none (Below.refl _ _))
          have E8 := Lib.hid e8
          clear hP hkn e7 e8 f3 f4
          go_wp2_with fail
          obtain ⟨wo, hwo⟩ : ∃ x, x = wr := ⟨_, rfl⟩
          subst hwo
          go_loopw [10, 11] (fun iv _ wr => ∃ (i : Nat), iv = .int .i64 (i : Int) ∧ i ≤ n + 64 ∧ E2 w wr B base rs gs (.slice (some ⟨g, 0, none⟩) N gcap) N false ∧ ∀ W, wr.grownBy W none → RD W g k g2 n c2 B o c) (fun iv _ _ => n + 64 - (intOf iv).toNat)
          case atStart => exact ⟨0, rfl, by omega, HP.out, E8.out⟩
          case round =>
            obtain ⟨i, rfl, hi, hPi, hci⟩ := hrel
            obtain ⟨f1, f2, f3, f4⟩ := hci wr (grown_none (Below.refl _ _))
            by_cases hilt : i < n + 64
            · have hm := HM.out k i
              have mid : ∀ w4, Below wr.heap.size wr w4 → Below wr.heap.size wr ((w4.alloc (.cells #[.string ⟨#[]⟩, .int .i64 0, .int .i64 0, .string ⟨#[]⟩, .string ⟨#[]⟩] 52)).setRow w4.heap.size #[.string (bs (markI (k : Int) (i : Int))), .int .i64 0, .int .i64 (-7 - (k : Int)), .string ⟨#[]⟩, .string ⟨#[]⟩]) ∧
                  (w4.alloc (.cells #[.string ⟨#[]⟩, .int .i64 0, .int .i64 0, .string ⟨#[]⟩, .string ⟨#[]⟩] 52)).heap[w4.heap.size]? = some (.cells #[.string ⟨#[]⟩, .int .i64 0, .int .i64 0, .string ⟨#[]⟩, .string ⟨#[]⟩] 52 (0, 0)) ∧
                  ((w4.alloc (.cells #[.string ⟨#[]⟩, .int .i64 0, .int .i64 0, .string ⟨#[]⟩, .string ⟨#[]⟩] 52)).setRow w4.heap.size #[.string (bs (markI (k : Int) (i : Int))), .int .i64 0, .int .i64 (-7 - (k : Int)), .string ⟨#[]⟩, .string ⟨#[]⟩]).heap[w4.heap.size]? = some (.cells #[.string (bs (markI (k : Int) (i : Int))), .int .i64 0, .int .i64 (-7 - (k : Int)), .string ⟨#[]⟩, .string ⟨#[]⟩] 52 (0, 0)) := fun w4 hW => by
                have h1 := World.alloc_heap_new w4 (.cells #[.string ⟨#[]⟩, .int .i64 0, .int .i64 0, .string ⟨#[]⟩, .string ⟨#[]⟩] 52)
                refine ⟨?_, h1, grow_at h1⟩
                have h2 := hW.alloc hW.size (.cells #[.string ⟨#[]⟩, .int .i64 0, .int .i64 0, .string ⟨#[]⟩, .string ⟨#[]⟩] 52)
                exact ⟨h2.os, h2.tape, h2.output, by simpa using h2.size, fun j hj => (setRow_other _ w4.heap.size j _ (by have := hW.size; omega)).trans (h2.block j hj)⟩
              have nxt : ∀ W, Below wr.heap.size wr W → RD W g k g2 n c2 B o c ∧ E2 w W B base rs gs (.slice (some ⟨g, 0, none⟩) N gcap) N false ∧ ∀ W', W.grownBy W' none → RD W' g k g2 n c2 B o c := fun W hW =>
                ⟨hci W (grown_none hW), hPi.quiet hbase (by rw [← HN.out]; exact hn) (grown_none hW), fun W' hW' => hci W' (grown_trans (grown_none hW) hW')⟩
              have Hm := Lib.hid hm
              have Hnx := Lib.hid nxt
              have Hmid := Lib.hid mid
              have Hone := Lib.hid (show (#[.string (bs (markI (k : Int) (i : Int))), .int .i64 0, .int .i64 (-7 - (k : Int)), .string ⟨#[]⟩, .string ⟨#[]⟩] : Array Value).all (·.oneCell') = true by simp [Value.oneCell'])
              clear hm nxt mid hPi hci f2 f3 f4
              go_wp2_with (first
                | (go_at_call 52; refine (Hm.out _ (by omega) (by omega)).mono ?_; rintro r w4 ⟨hb4, rfl⟩
                   obtain ⟨m1, m2, m3⟩ := Hmid.out w4 ⟨hb4.os, hb4.tape, hb4.output, hb4.size, hb4.block⟩
                   obtain ⟨w5, hw5⟩ : ∃ x, x = (w4.alloc (.cells #[.string ⟨#[]⟩, .int .i64 0, .int .i64 0, .string ⟨#[]⟩, .string ⟨#[]⟩] 52)).setRow w4.heap.size #[.string (bs (markI (k : Int) (i : Int))), .int .i64 0, .int .i64 (-7 - (k : Int)), .string ⟨#[]⟩, .string ⟨#[]⟩] := ⟨_, rfl⟩
                   have HW5 := Lib.hid hw5
                   have B6 := Lib.hid (show Below wr.heap.size wr w5 from (by rw [hw5]; exact m1))
                   have M2 := Lib.hid m2
                   have C6 := Lib.hid (item_cells (cs := xeC (markE (k : Int) (i : Int))) (show w5.heap[w4.heap.size]? = some (.cells #[.string (bs (markI (k : Int) (i : Int))), .int .i64 0, .int .i64 (-7 - (k : Int)), .string ⟨#[]⟩, .string ⟨#[]⟩] 52 (0, 0)) from (by rw [hw5]; exact m3)))
                   clear hb4 m1 m2 m3 hw5)
                | (refine wpList_store_row rfl _ _ _ rfl w4.heap.size #[.string (bs (markI (k : Int) (i : Int))), .int .i64 0, .int .i64 (-7 - (k : Int)), .string ⟨#[]⟩, .string ⟨#[]⟩] rfl rfl 52 _ M2.out (by kernel_rfl) rfl Hone.out ?_; rw [← HW5.out]
                   clear M2))
              generalize w4.heap.size = b5 at *
              obtain ⟨⟨q1, q2, q3, q4⟩, q5, q6⟩ := Hnx.out w5.drew (below_drew B6.out)
              have hc6 := C6.out
              have c60 : w5.drew.cell? ⟨b5, 0, none⟩ = some (.string (bs (markI (k : Int) (i : Int)))) := hc6 0 _ rfl
              have c61 : w5.drew.cell? ⟨b5, 1, none⟩ = some (.int .i64 0) := hc6 1 _ rfl
              have c62 : w5.drew.cell? ⟨b5, 2, none⟩ = some (.int .i64 (-7 - (k : Int))) := hc6 2 _ rfl
              have c63 : w5.drew.cell? ⟨b5, 3, none⟩ = some (.string ⟨#[]⟩) := hc6 3 _ rfl
              have c64 : w5.drew.cell? ⟨b5, 4, none⟩ = some (.string ⟨#[]⟩) := hc6 4 _ rfl
              have q3' := q3 i hilt
              have Q5 := Lib.hid q5
              have Q6 := Lib.hid q6
              clear q3 q5 q6 B6 hc6 Hnx Hmid Hone Hm HW5 f1
              by_cases hin : i < n
              · obtain ⟨g3, rfl⟩ := E7.out i hin
                have q4' := q4 i g3 hin rfl
                have hsd : w5.drew.cell? ⟨g, k, none⟩ = some (.slice (some ⟨g2, 0, none⟩) (n + 64) c2) ∧ w5.drew.cell? ⟨B, k, none⟩ = some (.slice (some ⟨g3, 0, none⟩) n c) ∧ w5.drew.cell? ⟨g2, i * 5, none⟩ = some (.string (bs (markI (k : Int) (i : Int)))) ∧ w5.drew.cell? ⟨g2, i * 5 + 1, none⟩ = some (.int .i64 0) ∧ w5.drew.cell? ⟨g2, i * 5 + 2, none⟩ = some (.int .i64 (-7 - (k : Int))) ∧ w5.drew.cell? ⟨g2, i * 5 + 3, none⟩ = some (.string ⟨#[]⟩) ∧ w5.drew.cell? ⟨g2, i * 5 + 4, none⟩ = some (.string ⟨#[]⟩) ∧ w5.drew.cell? ⟨b5, 0, none⟩ = some (.string (bs (markI (k : Int) (i : Int)))) ∧ w5.drew.cell? ⟨b5, 1, none⟩ = some (.int .i64 0) ∧ w5.drew.cell? ⟨b5, 2, none⟩ = some (.int .i64 (-7 - (k : Int))) ∧ w5.drew.cell? ⟨b5, 3, none⟩ = some (.string ⟨#[]⟩) ∧ w5.drew.cell? ⟨b5, 4, none⟩ = some (.string ⟨#[]⟩) ∧ w5.drew.cell? ⟨g3, i * 5, none⟩ = some (.string (bs (markI (k : Int) (i : Int)))) ∧ w5.drew.cell? ⟨g3, i * 5 + 1, none⟩ = some (.int .i64 0) ∧ w5.drew.cell? ⟨g3, i * 5 + 2, none⟩ = some (.int .i64 (-7 - (k : Int))) ∧ w5.drew.cell? ⟨g3, i * 5 + 3, none⟩ = some (.string ⟨#[]⟩) ∧ w5.drew.cell? ⟨g3, i * 5 + 4, none⟩ = some (.string ⟨#[]⟩) :=
                  ⟨q1, q2, q3' 0 _ rfl, q3' 1 _ rfl, q3' 2 _ rfl, q3' 3 _ rfl, q3' 4 _ rfl, c60, c61, c62, c63, c64, q4' 0 _ rfl, q4' 1 _ rfl, q4' 2 _ rfl, q4' 3 _ rfl, q4' 4 _ rfl⟩
                clear q1 q2 q3' q4 q4' c60 c61 c62 c63 c64
                go_region_held3 (fun W => W.cell? ⟨g, k, none⟩ = some (.slice (some ⟨g2, 0, none⟩) (n + 64) c2) ∧ W.cell? ⟨B, k, none⟩ = some (.slice (some ⟨g3, 0, none⟩) n c) ∧ W.cell? ⟨g2, i * 5, none⟩ = some (.string (bs (markI (k : Int) (i : Int)))) ∧ W.cell? ⟨g2, i * 5 + 1, none⟩ = some (.int .i64 0) ∧ W.cell? ⟨g2, i * 5 + 2, none⟩ = some (.int .i64 (-7 - (k : Int))) ∧ W.cell? ⟨g2, i * 5 + 3, none⟩ = some (.string ⟨#[]⟩) ∧ W.cell? ⟨g2, i * 5 + 4, none⟩ = some (.string ⟨#[]⟩) ∧ W.cell? ⟨b5, 0, none⟩ = some (.string (bs (markI (k : Int) (i : Int)))) ∧ W.cell? ⟨b5, 1, none⟩ = some (.int .i64 0) ∧ W.cell? ⟨b5, 2, none⟩ = some (.int .i64 (-7 - (k : Int))) ∧ W.cell? ⟨b5, 3, none⟩ = some (.string ⟨#[]⟩) ∧ W.cell? ⟨b5, 4, none⟩ = some (.string ⟨#[]⟩) ∧ W.cell? ⟨g3, i * 5, none⟩ = some (.string (bs (markI (k : Int) (i : Int)))) ∧ W.cell? ⟨g3, i * 5 + 1, none⟩ = some (.int .i64 0) ∧ W.cell? ⟨g3, i * 5 + 2, none⟩ = some (.int .i64 (-7 - (k : Int))) ∧ W.cell? ⟨g3, i * 5 + 3, none⟩ = some (.string ⟨#[]⟩) ∧ W.cell? ⟨g3, i * 5 + 4, none⟩ = some (.string ⟨#[]⟩)) (first | assumption | go_keep) (fail)
                go_wp2_with fail
                go_roundw
                case rel => exact ⟨i + 1, by go_num, by omega, Q5.out, Q6.out⟩
                case measure => simp [intOf]; omega
              · have hg2 : ∀ j v, (xeC (markE (k : Int) (i : Int)))[j]? = some v → w5.drew.cell? ((⟨g2, i * 5, none⟩ : Addr).add j) = some v := fun j v hj => by rw [Addr.add_mid]; exact q3' j v hj
                have hg5 : ∀ j v, (xeC (markE (k : Int) (i : Int)))[j]? = some v → w5.drew.cell? ((⟨b5, 0, none⟩ : Addr).add j) = some v := C6.out
                have HG2 := Lib.hid hg2
                have HG5 := Lib.hid hg5
                clear q3' q4 c60 c61 c62 c63 c64 hg2 hg5 C6
                refine region_still_name2 (by kernel_rfl) (by kernel_rfl) ?_
                intro wz hz
                rw [← hz] at q1 q2 HG2 HG5 Q5 Q6
                clear hz
                iterate 6 still_step
                refine still_load_guard (by rfl) _ _ rfl ⟨g2, i * 5, none⟩ rfl [.string (bs (markI (k : Int) (i : Int))), .int .i64 0, .int .i64 (-7 - (k : Int)), .string ⟨#[]⟩, .string ⟨#[]⟩] _ HG2.out Tryz.underlying52 rfl (by kernel_rfl) ?_
                refine still_load_guard (by rfl) _ _ rfl ⟨b5, 0, none⟩ rfl [.string (bs (markI (k : Int) (i : Int))), .int .i64 0, .int .i64 (-7 - (k : Int)), .string ⟨#[]⟩, .string ⟨#[]⟩] _ HG5.out Tryz.underlying52 rfl (by kernel_rfl) ?_
                iterate 10 still_step
                iterate 9 (rw [still_skip_eq]; rotate_left; rfl; simp only [Act.put, List.setIfInBounds_toArray, List.set_cons_zero, List.set_cons_succ])
                rw [still_val_eq (v := .bool false)]
                rotate_left
                rfl
                rfl
                simp only [Act.put, List.setIfInBounds_toArray, List.set_cons_zero, List.set_cons_succ]
                rw [still_val_eq (v := .bool false)]
                rotate_left
                rfl
                rfl
                simp only [Act.put, List.setIfInBounds_toArray, List.set_cons_zero, List.set_cons_succ]
                refine wpStill_nil ?_
                go_wp2_with fail
                go_roundw
                case rel => exact ⟨i + 1, by go_num, by omega, Q5.out, Q6.out⟩
                case measure => simp [intOf]; omega
            · obtain rfl : i = n + 64 := by omega
              have HPi := Lib.hid hPi
              clear hPi hci f2 f3 f4
              go_wp2
              go_roundw
              case rel => exact ⟨k + 1, by go_num, by omega, HPi.out⟩
              case measure => simp [intOf]; omega
        · obtain rfl : k = N := by omega
          go_wp2
          go_ret
          exact ⟨rfl, hP.st.bel⟩

end Go.Proofs.YtipfccfjniglbaaGreatDoor.ApEntries
