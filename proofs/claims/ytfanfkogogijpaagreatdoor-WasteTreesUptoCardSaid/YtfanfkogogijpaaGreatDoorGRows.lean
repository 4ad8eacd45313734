/- Rows of structs, whatever the struct: a slice that came in, a slice of the call's own; lists of lists. -/
import Derived.Test.YtfanfkogogijpaaGreatDoorSpec
import Derived.Test.YtfanfkogogijpaaGreatDoorFKeep
import Derived.Deep.Slices
import Derived.Laws.Rows
import Derived.Laws.Tables
import Derived.StillTailTactics
import Derived.OwnWalk
set_option linter.unusedSimpArgs false
set_option linter.unusedVariables false
namespace Go.Proofs.YtfanfkogogijpaaGreatDoor
open Go.RowKit
theorem gadd_block (a : Addr) (j : Nat) : (a.add j).block = a.block := by unfold Addr.add; split <;> rfl
theorem gadd_new (g i j : Nat) : ((⟨g, i, none⟩ : Addr).add j) = ⟨g, i + j, none⟩ := by unfold Addr.add; split <;> simp_all
theorem gheap_old (w : World) (o : Obj) {r : Nat} (hr : r < w.heap.size) : (w.alloc o).heap[r]? = w.heap[r]? := Below.heap_alloc w o r hr
theorem grow_at {w : World} {g : Nat} {cs old : Array Value} {t : TypeId} (h : w.heap[g]? = some (.cells old t (0, 0))) : (w.setRow g cs).heap[g]? = some (.cells cs t (0, 0)) := setRow_heap w g _ cs _ _ h
theorem gtake {α : Type} {L : List α} {k : Nat} {e : α} (h : L[k]? = some e) : L.take k ++ [e] = L.take (k + 1) := by rw [List.take_add_one, h]; rfl
/-- the cells of a struct in a block of its own -/
theorem item_cells {w : World} {b : Nat} {cs : List Value} {t : TypeId} (h : w.heap[b]? = some (.cells cs.toArray t (0, 0))) : ∀ j v, cs[j]? = some v → w.cell? ((⟨b, 0, none⟩ : Addr).add j) = some v := by
  intro j v hv
  rw [gadd_new, Nat.zero_add]
  unfold World.cell?
  rw [h]
  simpa using hv
theorem block_cell {w : World} {b j : Nat} {cs : Array Value} {t : TypeId} {v : Value} (h : w.heap[b]? = some (.cells cs t (0, 0))) (hv : cs[j]? = some v) : w.cell? ⟨b, j, none⟩ = some v := by
  unfold World.cell?
  rw [h]
  simpa using hv
theorem block_frozen {w : World} {b : Nat} {cs : Array Value} {t : TypeId} (h : w.heap[b]? = some (.cells cs t (0, 0))) (j : Nat) : w.frozen? ⟨b, j, none⟩ = false := by
  unfold World.frozen?
  rw [h]; simp
/-- a cell is written -/
theorem block_set {w : World} {b j : Nat} {cs : Array Value} {t : TypeId} (h : w.heap[b]? = some (.cells cs t (0, 0))) (v : Value) : (w.setCell ⟨b, j, none⟩ v).heap[b]? = some (.cells (cs.setIfInBounds j v) t (0, 0)) := by
  simp [World.setCell, Array.getElem?_modify, h]
section
variable {P : Program}
theorem run_load_items (w : World) (a : Addr) (ty : TypeId) (cs : List Value) (d : TypeDesc) (hc : ∀ j v, cs[j]? = some v → w.cell? (a.add j) = some v)
    (hu : P.underlying ty = some d) (hd : (match d with | .struct _ | .array _ _ => true | _ => false) = true) (hi : (P.info? ty).map (·.size) = some cs.length) :
    (loadVar ty a).run P w = .ok (.agg cs.toArray) w := by
  have hl : (loadCells a cs.length).run P w = .ok cs.toArray w := run_loadCells_list (P := P) w a cs hc
  cases hq : P.info? ty with
  | none => simp [hq] at hi
  | some i =>
    have hs : i.size = cs.length := by simpa [hq] using hi
    have hagg : (isAgg ty).run P w = .ok true w := by
      unfold isAgg
      rw [Sem.run_bind, run_underlying hu w]
      cases d <;> simp_all
    simp [loadVar, Sem.run_bind, hagg, sizeOf, typeInfo, hq, hs, hl]
theorem wpList_load_items {ops : Array Oper} {rest : List Oper} {o : Oper} {a : Act} {w : World} {Q : Exit → Act → World → Prop} (hgd : o.guard = none) (ty : TypeId) (x : Operand) (ho : o.op = .load ty x)
    (p : Addr) (hx : a.eval x = .pointer (some p)) (cs : List Value) (d : TypeDesc) (hc : ∀ j v, cs[j]? = some v → w.cell? (p.add j) = some v)
    (hu : P.underlying ty = some d) (hd : (match d with | .struct _ | .array _ _ => true | _ => false) = true) (hi : (P.info? ty).map (·.size) = some cs.length)
    (h : wpList P ops Q rest (a.put o.dst (.agg cs.toArray)) w) : wpList P ops Q (o :: rest) a w := by
  refine wpList_plain hgd fun K hK => ?_
  unfold Oper.wp execOp
  simp only [ho, hx, Instr.loadAt, Instr.sureAddr, Sem.run_bind, Sem.run_pure, Result.andThen_ok, run_load_items w p ty cs d hc hu hd hi]
  exact hK _ _ h
theorem still_load_items {ops : Array Oper} {rest : List Oper} {o : Oper} {a : Act} {w : World} {Q : Act → Prop} (hgd : o.guard = none) (ty : TypeId) (x : Operand) (ho : o.op = .load ty x)
    (p : Addr) (hx : a.eval x = .pointer (some p)) (cs : List Value) (d : TypeDesc) (hc : ∀ j v, cs[j]? = some v → w.cell? (p.add j) = some v)
    (hu : P.underlying ty = some d) (hd : (match d with | .struct _ | .array _ _ => true | _ => false) = true) (hi : (P.info? ty).map (·.size) = some cs.length)
    (h : wpStill P ops w Q rest (a.put o.dst (.agg cs.toArray))) : wpStill P ops w Q (o :: rest) a := by
  refine wpStill_step (fun K hK => ?_)
  rw [if_pos (show Region.wanted o (yielded ops a.tmps) = true by simp [Region.wanted, hgd])]
  unfold Oper.still execOp
  simp only [ho, hx, Instr.loadAt, Instr.sureAddr, Sem.run_bind, Sem.run_pure, Result.andThen_ok, run_load_items w p ty cs d hc hu hd hi]
  exact ⟨rfl, hK _ h⟩
/-- a region that only reads: the world behind the draw has a name -/
theorem gregion_named {id : Nat} {Q : Exit → Act → World → Prop} {a : Act} {w : World} {l : List Oper} (hm : P.follows .mixedOrders = true) (hB : Region.lexB .any l.toArray = true)
    (h : ∀ wz, wz = w.drew → wpStill P l.toArray wz (fun a' => Q .normal a' wz) l a) : (Code.region id l.toArray true).wp P Q a w := wp_region_still_lit hm hB (h _ rfl)
/-- an append to a row of the call's own, as a step -/
theorem gstep_append_own {w : World} {ops : Array Oper} {o : Oper} {a : Act} {K : Act → World → Prop} {Q : Exit → Act → World → Prop} {X : Prop} (hgd : o.guard = none) (s x : Operand) (t : TypeId)
    (ho : o.op = .call { callee := .builtin .append, args := #[s, x], argTypes := #[t, t] })
    (base : Nat) (e : TypeId) (i : TypeInfo) (z : Value) (size bytes : Nat) (ht : P.underlying t = some (.slice e)) (hi : P.info? e = some i) (hz : i.zero = some z)
    (hsize : i.size = size) (hby : i.bytes = bytes) (hzs : z.cells.size = size) (hsz : 0 < size)
    (v : Value) (n : Nat) (xs : List Value) (hs : a.eval s = v) (hown : w.ownsRow base e size v n xs)
    (ad : Addr) (m c : Nat) (news : List Value) (hx : a.eval x = .slice (some ad) m c) (hl : news.length = m * size) (hnews : ∀ j u, news[j]? = some u → w.cell? (ad.add j) = some u) (h1 : ∀ u ∈ news, u.oneCell' = true)
    (h63 : n + m ≤ maxLen) (hbytes : (n + m) * bytes ≤ 140737488355328) (hbase : base ≤ w.heap.size)
    (h : ∀ v' w', w'.ownsRow base e size v' (n + m) (xs ++ news) → w.grownBy w' v.ownBlock → (v' = .slice none 0 0 ↔ v = .slice none 0 0 ∧ m = 0) → K (a.put o.dst v') w') :
    if Region.wanted o (yielded ops a.tmps) = true then Oper.wp P o a w K Q else X := by
  have hwt : Region.wanted o (yielded ops a.tmps) = true := by simp [Region.wanted, hgd]
  rw [if_pos hwt]
  obtain ⟨v', w', hr, h2, h3, h4, h5⟩ := run_append_own_at (P := P) w base t o.type e i z size bytes ht hi hz hsize hby hzs hsz v n xs hown ad m c news hl hnews h1 h63 hbytes hbase
  unfold Oper.wp execOp
  simp only [ho, resolve, invoke, builtin, Sem.run_bind, Sem.run_pure, Result.andThen_ok, List.map_toArray, List.map_cons, List.map_nil, hs, hx, hr]
  exact h v' w' h2 h3 h4
/-- .. behind N operations that only read, the rest in the text's order -/
theorem gregion_tail {id : Nat} {Q : Exit → Act → World → Prop} {a : Act} {w : World} {l : List Oper} (n : Nat) (hm : P.follows .mixedOrders = true) (hB : Region.lexTailB .any l.toArray n = true)
    (h : ∀ wz, wz = w.drew → wpStill P l.toArray wz (fun a' => wpList P l.toArray Q (l.drop n) a' wz) (l.take n) a) : (Code.region id l.toArray true).wp P Q a w := wp_region_still_tail n hm hB (h _ rfl)
end
section
variable {α : Type} (enc : α → List Value) (sz : Nat)
/-- a slice of structs in memory -/
def ItemsAt (w : World) (v : Value) (L : List α) : Prop := ∃ o cap, v = .slice o L.length cap ∧ L.length ≤ cap ∧ cap ≤ maxLen ∧ ∀ (i : Nat) e, L[i]? = some e → ∃ a, o = some a ∧ a.block < w.heap.size ∧ ∀ j x, (enc e)[j]? = some x → w.cell? ((a.add (i * sz)).add j) = some x
variable {enc sz}
theorem ItemsAt.nil (w : World) : ItemsAt enc sz w (.slice none 0 0) ([] : List α) := ⟨none, 0, rfl, Nat.le_refl _, by simp, fun i e h => by cases h⟩
theorem ItemsAt.keep {w w' : World} {v : Value} {L : List α} (h : ItemsAt enc sz w v L) (hs : w.heap.size ≤ w'.heap.size) (hb : ∀ o n c k, v = .slice (some o) n c → k = o.block → w'.heap[k]? = w.heap[k]?) : ItemsAt enc sz w' v L := by
  obtain ⟨o, cap, h1, h2, h3, h4⟩ := h
  refine ⟨o, cap, h1, h2, h3, fun i e he => ?_⟩
  obtain ⟨a, rfl, hl, hc⟩ := h4 i e he
  refine ⟨a, rfl, Nat.lt_of_lt_of_le hl hs, fun j x hx => ?_⟩
  have := hc j x hx
  unfold World.cell? at this ⊢
  rw [hb a _ _ _ h1 (by rw [gadd_block, gadd_block])]
  exact this
theorem ItemsAt.below {w w' : World} {v : Value} {L : List α} {B : Nat} (h : ItemsAt enc sz w v L) (hb : Below B w w') (hB : w.heap.size ≤ B) : ItemsAt enc sz w' v L := by
  obtain ⟨o, cap, h1, h2, h3, h4⟩ := h
  refine ⟨o, cap, h1, h2, h3, fun i e he => ?_⟩
  obtain ⟨a, rfl, hl, hc⟩ := h4 i e he
  refine ⟨a, rfl, Nat.lt_of_lt_of_le hl hb.size, fun j x hx => ?_⟩
  have := hc j x hx
  unfold World.cell? at this ⊢
  rw [hb.block _ (by rw [gadd_block, gadd_block]; omega)]
  exact this
theorem gflat_get (hz : ∀ e, (enc e).length = sz) : ∀ {L : List α} {i j : Nat} {e : α} {x : Value}, L[i]? = some e → (enc e)[j]? = some x → (L.flatMap enc)[i * sz + j]? = some x
  | [], i, j, e, x, h, _ => by simp at h
  | y :: L, 0, j, e, x, h, hx => by
    simp at h
    subst h
    have hj : j < (enc y).length := (List.getElem?_eq_some_iff.1 hx).1
    rw [List.flatMap_cons, List.getElem?_append_left (by simpa using hj)]
    simpa using hx
  | y :: L, i + 1, j, e, x, h, hx => by
    have e1 : (i + 1) * sz + j = sz + (i * sz + j) := by rw [Nat.add_mul, Nat.one_mul]; omega
    rw [List.flatMap_cons, List.getElem?_append_right (by rw [hz]; omega), hz, e1, Nat.add_sub_cancel_left]
    exact gflat_get hz (L := L) (i := i) (by simpa using h) hx
theorem gflat_len (hz : ∀ e, (enc e).length = sz) (L : List α) : (L.flatMap enc).length = L.length * sz := by
  induction L with
  | nil => simp
  | cons e L ih => rw [List.flatMap_cons, List.length_append, ih, hz, List.length_cons, Nat.add_mul, Nat.one_mul]; omega
theorem items_of_row (hz : ∀ e, (enc e).length = sz) {w : World} {base : Nat} {T : TypeId} {v : Value} {L : List α} (h : w.ownsRow base T sz v L.length (L.flatMap enc)) : ItemsAt enc sz w v L := by
  obtain ⟨h1, h2⟩ := h
  rcases h2 with ⟨rfl, h0⟩ | ⟨g, cap, cur, rfl, hb, hg, hcap, hmx, hsz, htk⟩
  · obtain rfl : L = [] := List.eq_nil_of_length_eq_zero h0
    exact ⟨none, 0, rfl, Nat.le_refl _, by simp, fun i e he => by simp at he⟩
  · refine ⟨some ⟨g, 0, none⟩, cap, rfl, hcap, hmx, fun i e he => ⟨_, rfl, (Array.getElem?_eq_some_iff.1 hg).1, fun j x hx => ?_⟩⟩
    have hi : i < L.length := (List.getElem?_eq_some_iff.1 he).1
    have hj : j < sz := by have := (List.getElem?_eq_some_iff.1 hx).1; rwa [hz] at this
    have e1 : ((⟨g, 0, none⟩ : Addr).add (i * sz)).add j = ⟨g, i * sz + j, none⟩ := by rw [gadd_new, gadd_new, Nat.zero_add]
    rw [e1]
    have h3 := gflat_get hz he hx
    have h4 : i * sz + j < L.length * sz := by
      have : (i + 1) * sz ≤ L.length * sz := Nat.mul_le_mul_right _ hi
      rw [Nat.add_mul, Nat.one_mul] at this
      omega
    rw [← htk, List.getElem?_take, if_pos h4] at h3
    unfold World.cell?
    rw [hg]
    simpa using h3
theorem ItemsAt.len {w : World} {v : Value} {L : List α} (h : ItemsAt enc sz w v L) : ∃ o cap, v = .slice o L.length cap ∧ L.length ≤ cap ∧ cap ≤ maxLen := by
  obtain ⟨o, cap, h1, h2, h3, _⟩ := h
  exact ⟨o, cap, h1, h2, h3⟩
theorem ItemsAt.get {w : World} {o : Option Addr} {n cap : Nat} {L : List α} (h : ItemsAt enc sz w (.slice o n cap) L) {i : Nat} {e : α} (he : L[i]? = some e) : ∃ a, o = some a ∧ a.block < w.heap.size ∧ ∀ j x, (enc e)[j]? = some x → w.cell? ((a.add (i * sz)).add j) = some x := by
  obtain ⟨o', cap', h1, h2, h3, h4⟩ := h
  injection h1 with e1 e2 e3
  subst e1
  exact h4 i e he
variable (enc sz)
/-- a slice of slices of structs -/
def ListsAt (w : World) (v : Value) (LL : List (List α)) : Prop := ∃ o cap, v = .slice o LL.length cap ∧ LL.length ≤ cap ∧ cap ≤ maxLen ∧ ∀ (i : Nat) L, LL[i]? = some L → ∃ a x, o = some a ∧ a.block < w.heap.size ∧ w.cell? (a.add i) = some x ∧ ItemsAt enc sz w x L
variable {enc sz}
theorem ListsAt.below {w w' : World} {v : Value} {LL : List (List α)} {B : Nat} (h : ListsAt enc sz w v LL) (hb : Below B w w') (hB : w.heap.size ≤ B) : ListsAt enc sz w' v LL := by
  obtain ⟨o, cap, h1, h2, h3, h4⟩ := h
  refine ⟨o, cap, h1, h2, h3, fun i e he => ?_⟩
  obtain ⟨a, x, rfl, hl, hc, hi⟩ := h4 i e he
  refine ⟨a, x, rfl, Nat.lt_of_lt_of_le hl hb.size, ?_, hi.below hb hB⟩
  unfold World.cell? at hc ⊢
  rw [hb.block _ (by rw [gadd_block]; omega)]
  exact hc
theorem ListsAt.len {w : World} {v : Value} {LL : List (List α)} (h : ListsAt enc sz w v LL) : ∃ o cap, v = .slice o LL.length cap ∧ LL.length ≤ cap ∧ cap ≤ maxLen := by
  obtain ⟨o, cap, h1, h2, h3, _⟩ := h
  exact ⟨o, cap, h1, h2, h3⟩
theorem ListsAt.get {w : World} {o : Option Addr} {n cap : Nat} {LL : List (List α)} (h : ListsAt enc sz w (.slice o n cap) LL) {i : Nat} {L : List α} (he : LL[i]? = some L) : ∃ a o2 c2, o = some a ∧ a.block < w.heap.size ∧ w.cell? (a.add i) = some (.slice o2 L.length c2) ∧ L.length ≤ c2 ∧ c2 ≤ maxLen ∧ ItemsAt enc sz w (.slice o2 L.length c2) L := by
  obtain ⟨o', cap', h1, h2, h3, h4⟩ := h
  injection h1 with e1 e2 e3
  subst e1
  obtain ⟨a, x, h5, h6, h7, h8⟩ := h4 i L he
  obtain ⟨o2, c2, rfl, h9, h10⟩ := h8.len
  exact ⟨a, o2, c2, h5, h6, h7, h9, h10, h8⟩
end
end Go.Proofs.YtfanfkogogijpaaGreatDoor
