/- The walk (RWalk, RTold, RLink, RPiece, RRunA, RRun, RFind). -/
import Derived.Test.YtdkodedocklmdaaGreatRPieces
import Derived.Test.YtdkodedocklmdaaGreatTReach
import Derived.Test.YtdkodedocklmdaaGreatRPlain
import Derived.Test.YtdkodedocklmdaaGreatTItself
import Derived.Deep.RegionLaw
import Derived.Deep.DeepCutAuto
set_option linter.unusedSimpArgs false
set_option linter.unusedVariables false
namespace Go.Proofs.YtdkodedocklmdaaGreat
section
open Go.RowKit Go.Shelf
open Go.Lib hiding intOf
/-- all that lay in w lies in W as it lay, but for these blocks -/
structure But (ex : List Nat) (w W : World) : Prop where
  os : W.os = w.os
  tape : W.tape = w.tape
  output : W.output = w.output
  size : w.heap.size ≤ W.heap.size
  block : ∀ k, k < w.heap.size → k ∉ ex → W.heap[k]? = w.heap[k]?
theorem But.refl (ex : List Nat) (w : World) : But ex w w := ⟨rfl, rfl, rfl, Nat.le_refl _, fun _ _ _ => rfl⟩
theorem But.trans {ex ex2 : List Nat} {a b c : World} (h : But ex a b) (k : But ex2 b c) (he : ∀ i, i ∈ ex2 → i ∈ ex ∨ a.heap.size ≤ i) : But ex a c :=
  ⟨k.os.trans h.os, k.tape.trans h.tape, k.output.trans h.output, Nat.le_trans h.size k.size, fun i hi hn => (k.block i (Nat.lt_of_lt_of_le hi h.size) (fun e => (he i e).elim hn (fun e2 => by omega))).trans (h.block i hi hn)⟩
theorem But.mono {ex ex2 : List Nat} {a b : World} (h : But ex a b) (he : ∀ i, i ∈ ex → i ∈ ex2) : But ex2 a b := ⟨h.os, h.tape, h.output, h.size, fun i hi hn => h.block i hi (fun e => hn (he i e))⟩
theorem But.alloc {ex : List Nat} {w W : World} (h : But ex w W) (o : Obj) : But ex w (W.alloc o) :=
  ⟨h.os, h.tape, h.output, Nat.le_trans h.size (by simp), fun k hk hn => (heap_alloc_old W o (Nat.lt_of_lt_of_le hk h.size)).trans (h.block k hk hn)⟩
theorem But.setCell {ex : List Nat} {w W : World} (h : But ex w W) {p : Addr} (hp : p.block ∈ ex ∨ w.heap.size ≤ p.block) (v : Value) : But ex w (W.setCell p v) :=
  ⟨h.os, h.tape, h.output, Nat.le_trans h.size (by simp), fun k hk hn => (heap_setCell_other W p k v (fun e => hp.elim (fun x => hn (by rw [e]; exact x)) (fun x => by omega))).trans (h.block k hk hn)⟩
theorem But.below {ex : List Nat} {w W W' : World} (h : But ex w W) (hb : Below W.heap.size W W') : But ex w W' :=
  ⟨hb.os.trans h.os, hb.tape.trans h.tape, hb.output.trans h.output, Nat.le_trans h.size hb.size, fun k hk hn => (hb.block k (Nat.lt_of_lt_of_le hk h.size)).trans (h.block k hk hn)⟩
theorem But.grown {ex : List Nat} {w W W' : World} {row : Option Nat} (h : But ex w W) (hg : W.grownBy W' row) (hr : ∀ k, row = some k → k ∈ ex ∨ w.heap.size ≤ k) : But ex w W' :=
  ⟨hg.os.trans h.os, hg.tape.trans h.tape, hg.output.trans h.output, Nat.le_trans h.size hg.size, fun k hk hn => (hg.block k (Nat.lt_of_lt_of_le hk h.size) (fun e => (hr k e.symm).elim hn (fun x => by omega))).trans (h.block k hk hn)⟩
theorem But.drewN {ex : List Nat} {w W : World} (h : But ex w W) (n : Nat) : But ex w (W.drewN n) := ⟨h.os, h.tape, h.output, h.size, h.block⟩
theorem But.drew {ex : List Nat} {w W : World} (h : But ex w W) : But ex w W.drew := ⟨h.os, h.tape, h.output, h.size, h.block⟩
theorem But.to_below {ex : List Nat} {w W : World} {B : Nat} (h : But ex w W) (hB : B ≤ w.heap.size) (he : ∀ k ∈ ex, B ≤ k) : Below B w W :=
  ⟨h.os, h.tape, h.output, h.size, fun k hk => h.block k (by omega) (fun e => by have := he k e; omega)⟩
/-- a walk's block -/
def walkObj (T : Nat) (a : ByteArray) (lv : Value) (hops : Int) (keep : Bool) (sv : Value) : Obj :=
  .cells #[.pointer (some ⟨T, 0, none⟩), .string a, lv, .int .i64 hops, .bool keep, .bool false, .func (.func 19) #[] #[], sv] 48 (0, 0)
theorem walk_cells {w : World} {Wk T : Nat} {a : ByteArray} {lv : Value} {hops : Int} {keep : Bool} {sv : Value} (h : w.heap[Wk]? = some (walkObj T a lv hops keep sv)) :
    w.cell? ⟨Wk, 0, none⟩ = some (.pointer (some ⟨T, 0, none⟩)) ∧ w.cell? ⟨Wk, 1, none⟩ = some (.string a) ∧ w.cell? ⟨Wk, 2, none⟩ = some lv ∧ w.cell? ⟨Wk, 3, none⟩ = some (.int .i64 hops) ∧ w.cell? ⟨Wk, 4, none⟩ = some (.bool keep) ∧ w.cell? ⟨Wk, 5, none⟩ = some (.bool false) ∧ w.cell? ⟨Wk, 6, none⟩ = some (.func (.func 19) #[] #[]) ∧ w.cell? ⟨Wk, 7, none⟩ = some sv := by
  unfold World.cell? walkObj at *
  simp [h]
theorem walk_frozen {w : World} {Wk T : Nat} {a : ByteArray} {lv : Value} {hops : Int} {keep : Bool} {sv : Value} (h : w.heap[Wk]? = some (walkObj T a lv hops keep sv)) (i : Nat) : w.frozen? ⟨Wk, i, none⟩ = false := by
  unfold World.frozen? walkObj at *
  simp [h]
theorem walk_setAt {w : World} {Wk T : Nat} {a : ByteArray} {lv : Value} {hops : Int} {keep : Bool} {sv : Value} (h : w.heap[Wk]? = some (walkObj T a lv hops keep sv)) (b : ByteArray) : (w.setCell ⟨Wk, 1, none⟩ (.string b)).heap[Wk]? = some (walkObj T b lv hops keep sv) := by
  have := heap_setCell_same w Wk 1 _ _ (.string b) h
  rw [this]; rfl
theorem walk_setLeft {w : World} {Wk T : Nat} {a : ByteArray} {lv : Value} {hops : Int} {keep : Bool} {sv : Value} (h : w.heap[Wk]? = some (walkObj T a lv hops keep sv)) (v : Value) : (w.setCell ⟨Wk, 2, none⟩ v).heap[Wk]? = some (walkObj T a v hops keep sv) := by
  have := heap_setCell_same w Wk 2 _ _ v h
  rw [this]; rfl
theorem walk_setHops {w : World} {Wk T : Nat} {a : ByteArray} {lv : Value} {hops : Int} {keep : Bool} {sv : Value} (h : w.heap[Wk]? = some (walkObj T a lv hops keep sv)) (n : Int) : (w.setCell ⟨Wk, 3, none⟩ (.int .i64 n)).heap[Wk]? = some (walkObj T a lv n keep sv) := by
  have := heap_setCell_same w Wk 3 _ _ (.int .i64 n) h
  rw [this]; rfl
/-- a slice of texts, at whatever offset -/
structure LeftA (w : World) (o : Option Addr) (cap : Nat) (L : List (List UInt8)) : Prop where
  le : L.length ≤ cap
  max : cap ≤ maxLen
  lt : ∀ a, o = some a → a.block < w.heap.size
  cell : ∀ (i : Nat) x, L[i]? = some x → ∃ a, o = some a ∧ w.cell? (a.add i) = some (encS x)
def OutOf (ex : List Nat) (o : Option Addr) : Prop := ∀ a, o = some a → a.block ∉ ex
theorem LeftA.but {w W : World} {o : Option Addr} {cap : Nat} {L : List (List UInt8)} {ex : List Nat} (h : LeftA w o cap L) (hb : But ex w W) (ho : OutOf ex o) : LeftA W o cap L := by
  refine ⟨h.le, h.max, fun a ha => Nat.lt_of_lt_of_le (h.lt a ha) hb.size, fun i x hx => ?_⟩
  obtain ⟨a, ha, hc⟩ := h.cell i x hx
  refine ⟨a, ha, ?_⟩
  have hk := hb.block a.block (h.lt a ha) (ho a ha)
  unfold World.cell? at hc ⊢
  rw [add_block] at hc ⊢
  rw [hk]
  exact hc
theorem add_zero (a : Addr) : a.add 0 = a := by unfold Addr.add; simp
theorem add_add (a : Addr) (i j : Nat) : (a.add i).add j = a.add (i + j) := by
  unfold Addr.add
  by_cases hi : i = 0 <;> by_cases hj : j = 0 <;> simp [hi, hj, Nat.add_assoc]
theorem LeftA.tail {w : World} {a : Addr} {cap : Nat} {x : List UInt8} {L : List (List UInt8)} (h : LeftA w (some a) cap (x :: L)) : LeftA w (some (a.add 1)) (cap - 1) L := by
  have h1 := h.le
  have h2 := h.max
  simp at h1
  refine ⟨by omega, by omega, fun b hb => ?_, fun i y hy => ?_⟩
  · injection hb with hb
    subst hb
    rw [add_block]
    exact h.lt a rfl
  · obtain ⟨b, hb, hc⟩ := h.cell (i + 1) y (by simpa using hy)
    injection hb with hb
    subst hb
    exact ⟨_, rfl, by rw [add_add, Nat.add_comm 1 i]; exact hc⟩
theorem left_of_texts {w : World} {base : Nat} {v : Value} {L : List (List UInt8)} (h : Texts w base v L) : ∃ o cap, v = .slice o L.length cap ∧ LeftA w o cap L ∧ ∀ a, o = some a → base ≤ a.block := by
  have hx := h
  obtain ⟨h1, h2⟩ := hx
  rcases h2 with ⟨rfl, h0⟩ | ⟨g, cap, cur, rfl, hb, hg, hcap, hmx, h3⟩
  · obtain rfl : L = [] := List.eq_nil_of_length_eq_zero h0
    exact ⟨none, 0, rfl, ⟨Nat.le_refl _, by simp, fun a ha => (by cases ha), fun i x hx => (by simp at hx)⟩, fun a ha => (by cases ha)⟩
  · refine ⟨_, cap, rfl, ⟨hcap, hmx, fun a ha => ?_, fun i x hx => ⟨_, rfl, ?_⟩⟩, fun a ha => ?_⟩
    · injection ha with ha; subst ha
      exact (Array.getElem?_eq_some_iff.1 hg).1
    · have hlt : i < L.length := (List.getElem?_eq_some_iff.1 hx).1
      have := World.ownsRow.cellAt h i (by simpa using hlt)
      rw [List.getElem?_map, hx] at this
      have e : (⟨g, 0, none⟩ : Addr).add i = ⟨g, i, none⟩ := by unfold Addr.add; split <;> simp_all
      rw [e]
      exact this
    · injection ha with ha; subst ha; exact hb
/-- what is told behind each piece: nothing, or a trail is kept -/
def StepAt (w : World) (base : Nat) (sv : Value) (tr : List (List UInt8)) (F : List Nat) : Prop :=
  (sv = .nilFunc ∧ F = []) ∨ ∃ B v, (sv = .nilFunc ∧ False) ∧ Boxed w B 43 v ∧ Texts w base v tr ∧ base ≤ B ∧ F = B :: v.ownBlock.toList
theorem StepAt.lo {w : World} {base : Nat} {sv : Value} {tr : List (List UInt8)} {F : List Nat} (h : StepAt w base sv tr F) : ∀ k ∈ F, base ≤ k := by
  rcases h with ⟨_, rfl⟩ | ⟨B, v, _, _, ht, hB, rfl⟩
  · intro k hk; cases hk
  · intro k hk
    rcases List.mem_cons.1 hk with rfl | hk
    · exact hB
    · rcases ht.2 with ⟨rfl, _⟩ | ⟨g, cap, cur, rfl, hb, _⟩
      · simp [Value.ownBlock] at hk
      · simp [Value.ownBlock] at hk
        subst hk
        exact hb
theorem StepAt.lt {w : World} {base : Nat} {sv : Value} {tr : List (List UInt8)} {F : List Nat} (h : StepAt w base sv tr F) : ∀ k ∈ F, k < w.heap.size := by
  rcases h with ⟨_, rfl⟩ | ⟨B, v, _, hv, ht, hB, rfl⟩
  · intro k hk; cases hk
  · intro k hk
    rcases List.mem_cons.1 hk with rfl | hk
    · exact hv.lt
    · rcases ht.2 with ⟨rfl, _⟩ | ⟨g, cap, cur, rfl, hb, hg, _⟩
      · simp [Value.ownBlock] at hk
      · simp [Value.ownBlock] at hk
        subst hk
        exact (Array.getElem?_eq_some_iff.1 hg).1
theorem StepAt.but {w W : World} {base : Nat} {sv : Value} {tr : List (List UInt8)} {F ex : List Nat} (h : StepAt w base sv tr F) (hb : But ex w W) (he : ∀ k ∈ F, k ∉ ex) : StepAt W base sv tr F := by
  have hlt := h.lt
  rcases h with h | ⟨B, v, e, hv, ht, hB, rfl⟩
  · exact .inl h
  · refine .inr ⟨B, v, e, (hb.block B (hlt B (List.mem_cons_self ..)) (he B (List.mem_cons_self ..))).trans hv, ⟨ht.1, ?_⟩, hB, rfl⟩
    rcases ht.2 with h2 | ⟨g, cap, cur, rfl, b, c, d⟩
    · exact .inl h2
    · have hg : g ∈ B :: (Value.slice (some ⟨g, 0, none⟩) tr.length cap).ownBlock.toList := by simp [Value.ownBlock]
      exact .inr ⟨g, cap, cur, rfl, b, (hb.block g (hlt g hg) (he g hg)).trans c, d⟩
end
section
open Go.RowKit Go.Shelf Go.Maps
open Go.Lib hiding intOf size_eq
theorem own_list {v v' : Value} {n : Nat} (h : v'.ownBlock = v.ownBlock ∨ v'.ownBlock = some n) {k : Nat} (hk : k ∈ v'.ownBlock.toList) : k ∈ v.ownBlock.toList ∨ k = n := by
  rcases h with h | h
  · exact .inl (by rw [← h]; exact hk)
  · rw [h] at hk
    exact .inr (by simpa using hk)
theorem neq_nilFunc (w : World) : (binOp .neq 46 .nilFunc .nilFunc).run Tryz.prog w = .ok (.bool false) w := by kernel_rfl
theorem neq_func (w : World) (f : FuncId) (c : Array Value) : (binOp .neq 46 (.func (.func f) #[] c) .nilFunc).run Tryz.prog w = .ok (.bool true) w := by kernel_rfl
set_option maxRecDepth 100000 in
set_option maxHeartbeats 1000000 in
theorem told_any {T Wk base : Nat} {a : ByteArray} {lv : Value} {hops : Int} {keep : Bool} {sv : Value} {tr : List (List UInt8)} {F : List Nat} (x : List UInt8) (w : World) (hw : w.heap[Wk]? = some (walkObj T a lv hops keep sv)) (hs : StepAt w base sv tr F) (hbase : base ≤ w.heap.size) (hl : tr.length ≤ 1099511627776) :
    Calls Tryz.prog 37 #[.pointer (some ⟨Wk, 0, none⟩), .string (bs x)] w fun e w' => e = .returned (.tuple #[]) ∧ ∃ F', But F w w' ∧ StepAt w' base sv (tr ++ [x]) F' ∧ ∀ k ∈ F', k ∈ F ∨ w.heap.size ≤ k := by
  obtain ⟨_, _, _, _, _, _, _, c7⟩ := walk_cells hw
  clear hw
  rcases hs with ⟨rfl, rfl⟩ | ⟨B, v, hf, hv, ht, hB, rfl⟩
  · have e0 := neq_nilFunc w
    go_enter Tryz.func37, Tryz.ntmps37
    go_wp2
    refine bodyPost_end (results_none rfl _ _ _) rfl ⟨rfl, [], But.refl _ _, .inl ⟨rfl, rfl⟩, fun k hk => (by cases hk)⟩
  · exact hf.2.elim
end
section
open Go.RowKit Go.Shelf Go.Maps
open Go.Lib hiding intOf size_eq
theorem step_append_own {P : Program} {w : World} {ops : Array Oper} {o : Oper} {a : Act} {K : Act → World → Prop} {Q : Exit → Act → World → Prop} {X : Prop} (hgd : o.guard = none) (s x : Operand) (t : TypeId)
    (ho : o.op = .call { callee := .builtin .append, args := #[s, x], argTypes := #[t, t] })
    (base : Nat) (e : TypeId) (i : TypeInfo) (z : Value) (size bytes : Nat) (ht : P.underlying t = some (.slice e)) (hi : P.info? e = some i) (hz : i.zero = some z)
    (hsize : i.size = size) (hby : i.bytes = bytes) (hzs : z.cells.size = size) (hsz : 0 < size)
    (v : Value) (n : Nat) (xs : List Value) (hs : a.eval s = v) (hown : w.ownsRow base e size v n xs)
    (ad : Addr) (m c : Nat) (news : List Value) (hx : a.eval x = .slice (some ad) m c) (hl : news.length = m * size) (hnews : ∀ j u, news[j]? = some u → w.cell? (ad.add j) = some u) (h1 : ∀ u ∈ news, u.oneCell' = true)
    (h63 : n + m ≤ maxLen) (hbytes : (n + m) * bytes ≤ 140737488355328) (hbase : base ≤ w.heap.size)
    (h : ∀ v' w', w'.ownsRow base e size v' (n + m) (xs ++ news) → w.grownBy w' v.ownBlock → (v' = .slice none 0 0 ↔ v = .slice none 0 0 ∧ m = 0) → K (a.put o.dst v') w') :
    if Region.wanted o (yielded ops a.tmps) = true then Oper.wp P o a w K Q else X := by
  have hwt : Region.wanted o (yielded ops a.tmps) = true := by simp [Region.wanted, hgd]
  rw [if_pos hwt]
  obtain ⟨v', w', hr, h2, h3, h4, h5⟩ := run_append_own_at (P := P) w base t o.type e i z size bytes ht hi hz hsize hby hzs hsz v n xs hown ad m c news hl hnews h1 h63 hbytes hbase
  unfold Oper.wp execOp
  simp only [ho, resolve, invoke, builtin, Sem.run_bind, Sem.run_pure, Result.andThen_ok, List.map_toArray, List.map_cons, List.map_nil, hs, hx, hr]
  exact h v' w' h2 h3 h4
/-- what a link makes of a walk's place -/
def linkB (a t : ByteArray) : ByteArray := if t.data.toList.head? = some 47 then emp else a
theorem head_byte {t : ByteArray} (h : 0 < t.size) : t.data.toList.head? = some (t[0]'h) := by
  obtain ⟨⟨l⟩⟩ := t
  cases l with
  | nil => exact absurd (show 0 < 0 from h) (by omega)
  | cons x r => rfl
/-- how a link ends -/
def LinkEnd (w w5 : World) (T Wk : Nat) (a : ByteArray) (L : List (List UInt8)) (hops : Nat) (keep : Bool) (sv : Value) (o' : Option Addr) (n cap' : Nat) : Prop :=
  But [Wk] w (w5.setCell ⟨Wk, 2, none⟩ (.slice o' n cap')) ∧ (w5.setCell ⟨Wk, 2, none⟩ (.slice o' n cap')).heap[Wk]? = some (walkObj T a (.slice o' L.length cap') ((hops + 1 : Nat) : Int) keep sv) ∧ LeftA (w5.setCell ⟨Wk, 2, none⟩ (.slice o' n cap')) o' cap' L ∧ ∀ b, o' = some b → w.heap.size ≤ b.block
theorem link_end {w w5 : World} {T Wk : Nat} {a : ByteArray} {lv : Value} {L : List (List UInt8)} {hops : Nat} {keep : Bool} {sv : Value} {o' : Option Addr} {n cap' : Nat} (hb : But [Wk] w w5) (h : w5.heap[Wk]? = some (walkObj T a lv ((hops : Int) + 1) keep sv)) (hl : LeftA w5 o' cap' L)
    (hlo : ∀ b, o' = some b → w.heap.size ≤ b.block) (hne : ∀ b, o' = some b → b.block ≠ Wk) (hn : n = L.length) : LinkEnd w w5 T Wk a L hops keep sv o' n cap' := by
  subst hn
  refine ⟨hb.setCell (p := ⟨Wk, 2, none⟩) (.inl (List.mem_singleton.2 rfl)) _, ?_, ?_, hlo⟩
  · rw [walk_setLeft h]
    rfl
  · exact hl.but ((But.refl [Wk] w5).setCell (p := ⟨Wk, 2, none⟩) (.inl (List.mem_singleton.2 rfl)) _) (fun b hb2 => by simpa using hne b hb2)
set_option maxRecDepth 100000 in
set_option maxHeartbeats 4000000 in
theorem link_any {T Wk cap : Nat} {a : ByteArray} {ad : Addr} {left : List (List UInt8)} {hops : Nat} {keep : Bool} {sv : Value} (t : ByteArray) (w : World) (hw : w.heap[Wk]? = some (walkObj T a (.slice (some ad) left.length cap) hops keep sv))
    (hl : LeftA w (some ad) cap left) (ho : ad.block ≠ Wk) (ht0 : t.data.toList ≠ []) (ht : t.size ≤ 1099511627776) (hll : left.length ≤ 1099511627776) (hh : hops ≤ 40) :
    Calls Tryz.prog 57 #[.pointer (some ⟨Wk, 0, none⟩), .string t] w fun e w' => But [Wk] w w' ∧ (hops = 40 → e = .returned (.iface 57 (.int .i64 12))) ∧
      (hops ≠ 40 → e = .returned .nilIface ∧ ∃ o' cap', w'.heap[Wk]? = some (walkObj T (linkB a t) (.slice o' (pieces t.data.toList ++ left).length cap') ((hops + 1 : Nat) : Int) keep sv) ∧ LeftA w' o' cap' (pieces t.data.toList ++ left) ∧ ∀ b, o' = some b → w.heap.size ≤ b.block) := by
  obtain ⟨_, c1, c2, c3, _, _, _, _⟩ := walk_cells hw
  have f1 := walk_frozen hw 1
  have f2 := walk_frozen hw 2
  have f3 := walk_frozen hw 3
  by_cases h40 : hops = 40
  · subst h40
    clear hw hl
    go_enter Tryz.func57, Tryz.ntmps57
    go_wp2
    go_ret
    exact ⟨But.refl _ _, fun _ => rfl, fun h => absurd rfl h⟩
  · have b0 : ((hops : Int) == 40) = false := by simp; omega
    have hn0 : 0 < t.size := by rw [Lib.size_eq]; exact List.length_pos_iff.2 ht0
    obtain ⟨i0, hi, hz0, hz1, hz2⟩ := info_parts Tryz.infoString
    have Hi := Lib.hid hi
    have Hz0 := Lib.hid hz0
    have Hz1 := Lib.hid hz1
    have Hz2 := Lib.hid hz2
    obtain ⟨n, hnn⟩ : ∃ n, n = (pieces t.data.toList).length := ⟨_, rfl⟩
    have hlen : n + left.length ≤ 4398046511104 := by
      have h1 := weight_length (pieces t.data.toList)
      have h2 := weight_pieces t.data.toList
      rw [← Lib.size_eq] at h2
      omega
    clear hi hz0 hz1 hz2
    by_cases hb : t.data.toList.head? = some 47
    · have b1 : (((t[0]'hn0).toNat : Int) == 47) = true := by rw [head_byte hn0] at hb; injection hb with hb; rw [hb]; rfl
      go_enter Tryz.func57, Tryz.ntmps57
      go_upto_region 6 with fail
      obtain ⟨w3, hw3⟩ : ∃ x, x = ((w.setCell ⟨Wk, 3, none⟩ (.int .i64 ((hops : Int) + 1))).setCell ⟨Wk, 1, none⟩ (.string ⟨#[]⟩)) := ⟨_, rfl⟩
      have H3 : w3.heap[Wk]? = some (walkObj T emp (.slice (some ad) left.length cap) ((hops : Int) + 1) keep sv) := by rw [hw3]; exact walk_setAt (walk_setHops hw ((hops : Int) + 1)) ⟨#[]⟩
      have hB3 : But [Wk] w w3 := by rw [hw3]; exact ((But.refl [Wk] w).setCell (p := ⟨Wk, 3, none⟩) (.inl (List.mem_singleton.2 rfl)) _).setCell (p := ⟨Wk, 1, none⟩) (.inl (List.mem_singleton.2 rfl)) _
      have hlink : linkB a t = emp := if_pos hb
      have hL3 := hl.but hB3 (fun b hb2 => by injection hb2 with hb2; subst hb2; simpa using ho)
      have d2 := (walk_cells H3).2.2.1
      have hWk := heap_lt H3
      have after : ∀ w4 v, Texts w4 w3.heap.size v (pieces t.data.toList) → Below w3.heap.size w3 w4 → ∃ o2 cap2, v = .slice o2 n cap2 ∧ w4.ownsRow w3.heap.size 9 1 (.slice o2 n cap2) n ((pieces t.data.toList).map encS) ∧ (∀ j u, (left.map encS)[j]? = some u → w4.cell? (ad.add j) = some u) ∧ w3.heap.size ≤ w4.heap.size ∧ w4.cell? ⟨Wk, 2, none⟩ = some (.slice (some ad) left.length cap) ∧
          ∀ v' w5, w5.ownsRow w3.heap.size 9 1 v' (n + left.length) ((pieces t.data.toList).map encS ++ left.map encS) → w4.grownBy w5 (Value.slice o2 n cap2).ownBlock → ∃ o' cap', v' = .slice o' (n + left.length) cap' ∧ w5.frozen? ⟨Wk, 2, none⟩ = false ∧ w5.cell? ⟨Wk, 2, none⟩ = some (.slice (some ad) left.length cap) ∧ LinkEnd w w5 T Wk (linkB a t) (pieces t.data.toList ++ left) hops keep sv o' (n + left.length) cap' := by
        intro w4 v htx hb4
        obtain ⟨o2, cap2, rfl, hla2, hlo2⟩ := left_of_texts htx
        have h4 : w4.heap[Wk]? = _ := (hb4.block Wk hWk).trans H3
        refine ⟨o2, cap2, by rw [hnn], by rw [hnn]; exact htx, ?_, hb4.size, (walk_cells h4).2.2.1, ?_⟩
        · intro j u hu
          rw [List.getElem?_map] at hu
          obtain ⟨x, hx, rfl⟩ := Option.map_eq_some_iff.1 hu
          obtain ⟨b, hb2, hc⟩ := hL3.cell j x hx
          injection hb2 with hb2
          subst hb2
          have hlt := hL3.lt _ rfl
          unfold World.cell? at hc ⊢
          rw [add_block] at hc ⊢
          rw [hb4.block _ hlt]
          exact hc
        · intro v' w5 hown hgr
          have hown2 : Texts w5 w3.heap.size v' (pieces t.data.toList ++ left) := by
            unfold Texts
            rw [List.length_append, List.map_append, ← hnn]
            exact hown
          obtain ⟨o', cap', rfl, hla, hlo⟩ := left_of_texts hown2
          have h5 : w5.heap[Wk]? = _ := (hgr.block Wk (Nat.lt_of_lt_of_le hWk hb4.size) (fun e => by
            cases o2 with
            | none => simp [Value.ownBlock] at e
            | some g => simp [Value.ownBlock] at e; have := hlo2 g rfl; omega)).trans h4
          have hb5 : But [Wk] w w5 := (hB3.below hb4).grown hgr (fun k e => .inr (by
            cases o2 with
            | none => simp [Value.ownBlock] at e
            | some g => simp [Value.ownBlock] at e; have := hlo2 g rfl; have := hB3.size; omega))
          refine ⟨o', cap', by rw [List.length_append, hnn], walk_frozen h5 2, (walk_cells h5).2.2.1, ?_⟩
          refine link_end hb5 (by rw [hlink]; exact h5) hla (fun b hb2 => by have := hlo b hb2; have := hB3.size; omega) (fun b hb2 => by have := hlo b hb2; have hwk := heap_lt H3; omega) (by rw [List.length_append, hnn])
      have H2 := Lib.hid (fun W => pieces_any t W ht)
      have HA := Lib.hid after
      have Hlen := Lib.hid hlen
      have D2 := d2
      rw [← hw3]
      clear hnn hw hl hw3 H3 hB3 hlink hL3 after c1 c2 c3 f1 f2 f3 hb hlen
      go_region_law (first
        | (refine step_append_own (by rfl) _ _ 43 (by rfl) w3.heap.size 9 i0 (.string ⟨#[]⟩) 1 16 Tryz.underlying43 Hi.out Hz0.out Hz1.out Hz2.out rfl (by decide) _ n _ (by rfl) HR.out ad left.length cap (left.map encS) (by rfl) (by simp) HN.out (by intro u hu; obtain ⟨x, _, rfl⟩ := List.mem_map.1 hu; rfl) (by unfold maxLen; have := Hlen.out; omega) (by have := Hlen.out; omega) hs4 ?_
           intro v' w5 hown hgr _
           obtain ⟨o', cap', rfl, hf5, hc5, hend⟩ := HX.out v' w5 hown hgr
           have HE := Lib.hid hend
           clear hown hgr hend)
        | (go_simp; go_at_call 18; refine (H2.out _).mono ?_; rintro e w4 ⟨v, rfl, htx, hb4⟩
           obtain ⟨o2, cap2, rfl, hr, hnw, hs4, hc4, hx⟩ := HA.out w4 v htx ⟨hb4.os, hb4.tape, hb4.output, hb4.size, hb4.block⟩
           have HR := Lib.hid hr
           have HN := Lib.hid hnw
           have HX := Lib.hid hx
           clear htx hb4 hr hnw hx))
      all_goals go_wp2_with fail
      all_goals go_ret
      all_goals exact ⟨HE.out.1, fun h => absurd h h40, fun _ => ⟨rfl, _, _, HE.out.2.1, HE.out.2.2.1, HE.out.2.2.2⟩⟩
    · have b1 : (((t[0]'hn0).toNat : Int) == 47) = false := by
        rw [head_byte hn0] at hb
        simp only [beq_eq_false_iff_ne, ne_eq]
        intro h
        exact hb (by congr 1; exact UInt8.toNat_inj.1 (by have : (47 : UInt8).toNat = 47 := rfl; omega))
      go_enter Tryz.func57, Tryz.ntmps57
      go_upto_region 6 with fail
      obtain ⟨w3, hw3⟩ : ∃ x, x = (w.setCell ⟨Wk, 3, none⟩ (.int .i64 ((hops : Int) + 1))) := ⟨_, rfl⟩
      have H3 : w3.heap[Wk]? = some (walkObj T a (.slice (some ad) left.length cap) ((hops : Int) + 1) keep sv) := by rw [hw3]; exact walk_setHops hw ((hops : Int) + 1)
      have hB3 : But [Wk] w w3 := by rw [hw3]; exact (But.refl [Wk] w).setCell (p := ⟨Wk, 3, none⟩) (.inl (List.mem_singleton.2 rfl)) _
      have hlink : linkB a t = a := if_neg hb
      have hL3 := hl.but hB3 (fun b hb2 => by injection hb2 with hb2; subst hb2; simpa using ho)
      have d2 := (walk_cells H3).2.2.1
      have hWk := heap_lt H3
      have after : ∀ w4 v, Texts w4 w3.heap.size v (pieces t.data.toList) → Below w3.heap.size w3 w4 → ∃ o2 cap2, v = .slice o2 n cap2 ∧ w4.ownsRow w3.heap.size 9 1 (.slice o2 n cap2) n ((pieces t.data.toList).map encS) ∧ (∀ j u, (left.map encS)[j]? = some u → w4.cell? (ad.add j) = some u) ∧ w3.heap.size ≤ w4.heap.size ∧ w4.cell? ⟨Wk, 2, none⟩ = some (.slice (some ad) left.length cap) ∧
          ∀ v' w5, w5.ownsRow w3.heap.size 9 1 v' (n + left.length) ((pieces t.data.toList).map encS ++ left.map encS) → w4.grownBy w5 (Value.slice o2 n cap2).ownBlock → ∃ o' cap', v' = .slice o' (n + left.length) cap' ∧ w5.frozen? ⟨Wk, 2, none⟩ = false ∧ w5.cell? ⟨Wk, 2, none⟩ = some (.slice (some ad) left.length cap) ∧ LinkEnd w w5 T Wk (linkB a t) (pieces t.data.toList ++ left) hops keep sv o' (n + left.length) cap' := by
        intro w4 v htx hb4
        obtain ⟨o2, cap2, rfl, hla2, hlo2⟩ := left_of_texts htx
        have h4 : w4.heap[Wk]? = _ := (hb4.block Wk hWk).trans H3
        refine ⟨o2, cap2, by rw [hnn], by rw [hnn]; exact htx, ?_, hb4.size, (walk_cells h4).2.2.1, ?_⟩
        · intro j u hu
          rw [List.getElem?_map] at hu
          obtain ⟨x, hx, rfl⟩ := Option.map_eq_some_iff.1 hu
          obtain ⟨b, hb2, hc⟩ := hL3.cell j x hx
          injection hb2 with hb2
          subst hb2
          have hlt := hL3.lt _ rfl
          unfold World.cell? at hc ⊢
          rw [add_block] at hc ⊢
          rw [hb4.block _ hlt]
          exact hc
        · intro v' w5 hown hgr
          have hown2 : Texts w5 w3.heap.size v' (pieces t.data.toList ++ left) := by
            unfold Texts
            rw [List.length_append, List.map_append, ← hnn]
            exact hown
          obtain ⟨o', cap', rfl, hla, hlo⟩ := left_of_texts hown2
          have h5 : w5.heap[Wk]? = _ := (hgr.block Wk (Nat.lt_of_lt_of_le hWk hb4.size) (fun e => by
            cases o2 with
            | none => simp [Value.ownBlock] at e
            | some g => simp [Value.ownBlock] at e; have := hlo2 g rfl; omega)).trans h4
          have hb5 : But [Wk] w w5 := (hB3.below hb4).grown hgr (fun k e => .inr (by
            cases o2 with
            | none => simp [Value.ownBlock] at e
            | some g => simp [Value.ownBlock] at e; have := hlo2 g rfl; have := hB3.size; omega))
          refine ⟨o', cap', by rw [List.length_append, hnn], walk_frozen h5 2, (walk_cells h5).2.2.1, ?_⟩
          refine link_end hb5 (by rw [hlink]; exact h5) hla (fun b hb2 => by have := hlo b hb2; have := hB3.size; omega) (fun b hb2 => by have := hlo b hb2; have hwk := heap_lt H3; omega) (by rw [List.length_append, hnn])
      have H2 := Lib.hid (fun W => pieces_any t W ht)
      have HA := Lib.hid after
      have Hlen := Lib.hid hlen
      have D2 := d2
      rw [← hw3]
      clear hnn hw hl hw3 H3 hB3 hlink hL3 after c1 c2 c3 f1 f2 f3 hb hlen
      go_region_law (first
        | (refine step_append_own (by rfl) _ _ 43 (by rfl) w3.heap.size 9 i0 (.string ⟨#[]⟩) 1 16 Tryz.underlying43 Hi.out Hz0.out Hz1.out Hz2.out rfl (by decide) _ n _ (by rfl) HR.out ad left.length cap (left.map encS) (by rfl) (by simp) HN.out (by intro u hu; obtain ⟨x, _, rfl⟩ := List.mem_map.1 hu; rfl) (by unfold maxLen; have := Hlen.out; omega) (by have := Hlen.out; omega) hs4 ?_
           intro v' w5 hown hgr _
           obtain ⟨o', cap', rfl, hf5, hc5, hend⟩ := HX.out v' w5 hown hgr
           have HE := Lib.hid hend
           clear hown hgr hend)
        | (go_simp; go_at_call 18; refine (H2.out _).mono ?_; rintro e w4 ⟨v, rfl, htx, hb4⟩
           obtain ⟨o2, cap2, rfl, hr, hnw, hs4, hc4, hx⟩ := HA.out w4 v htx ⟨hb4.os, hb4.tape, hb4.output, hb4.size, hb4.block⟩
           have HR := Lib.hid hr
           have HN := Lib.hid hnw
           have HX := Lib.hid hx
           clear htx hb4 hr hnw hx))
      all_goals go_wp2_with fail
      all_goals go_ret
      all_goals exact ⟨HE.out.1, fun h => absurd h h40, fun _ => ⟨rfl, _, _, HE.out.2.1, HE.out.2.2.1, HE.out.2.2.2⟩⟩
end
section
open Go.RowKit Go.Shelf Go.Maps
open Go.Lib hiding intOf size_eq
theorem none_any (a b c : Value) (w : World) : Calls Tryz.prog 19 #[a, b, c] w fun e w' => e = .returned (.tuple #[.bool false, .iface 57 (.int .i64 10)]) ∧ w = w' := by
  go_enter Tryz.func19, Tryz.ntmps19
  go_wp2
  go_ret2
  exact ⟨rfl, rfl⟩
theorem link_bs (a : List UInt8) (e : Ent) : linkB (bs a) e.l = bs (linkAt a e) := by
  unfold linkB linkAt
  split
  · rfl
  · rfl
theorem after_get {w : World} {T Wk cap : Nat} {a : ByteArray} {ad : Addr} {left : List (List UInt8)} {hops : Nat} {keep : Bool} {sv : Value} (w1 : World) (e : Ent) (hw : w.heap[Wk]? = some (walkObj T a (.slice (some ad) left.length cap) hops keep sv))
    (hl : LeftA w (some ad) cap left) (ho : ad.block ≠ Wk) (h1 : Below w.heap.size w w1) :
    ∃ w2, w2 = (w1.alloc (.cells #[.string ⟨#[]⟩, .int .i64 0, .int .i64 0, .string ⟨#[]⟩, .string ⟨#[]⟩] 39)).setRow w1.heap.size #[.string e.p, .int .i64 e.k, .int .i64 e.m, .string e.d, .string e.l] ∧
      (w1.alloc (.cells #[.string ⟨#[]⟩, .int .i64 0, .int .i64 0, .string ⟨#[]⟩, .string ⟨#[]⟩] 39)).heap[w1.heap.size]? = some (.cells #[.string ⟨#[]⟩, .int .i64 0, .int .i64 0, .string ⟨#[]⟩, .string ⟨#[]⟩] 39 (0, 0)) ∧
      w2.cell? ⟨Wk, 1, none⟩ = some (.string a) ∧ w2.cell? ⟨Wk, 2, none⟩ = some (.slice (some ad) left.length cap) ∧ w2.cell? ⟨Wk, 3, none⟩ = some (.int .i64 hops) ∧ w2.cell? ⟨Wk, 4, none⟩ = some (.bool keep) ∧ w2.cell? ⟨Wk, 5, none⟩ = some (.bool false) ∧ w2.cell? ⟨Wk, 6, none⟩ = some (.func (.func 19) #[] #[]) ∧ w2.cell? ⟨Wk, 7, none⟩ = some sv ∧
      w2.cell? ⟨w1.heap.size, 1, none⟩ = some (.int .i64 e.k) ∧ w2.cell? ⟨w1.heap.size, 4, none⟩ = some (.string e.l) ∧ w2.frozen? ⟨Wk, 1, none⟩ = false ∧
      But [Wk] w w2 ∧ w2.heap[Wk]? = some (walkObj T a (.slice (some ad) left.length cap) hops keep sv) ∧ LeftA w2 (some ad) cap left := by
  have hb0 := World.alloc_heap_new w1 (.cells #[.string ⟨#[]⟩, .int .i64 0, .int .i64 0, .string ⟨#[]⟩, .string ⟨#[]⟩] 39)
  have hb := (But.refl [Wk] w).below h1
  have hb2 : But [Wk] w ((w1.alloc (.cells #[.string ⟨#[]⟩, .int .i64 0, .int .i64 0, .string ⟨#[]⟩, .string ⟨#[]⟩] 39)).setRow w1.heap.size #[.string e.p, .int .i64 e.k, .int .i64 e.m, .string e.d, .string e.l]) := by
    have h := hb.alloc (.cells #[.string ⟨#[]⟩, .int .i64 0, .int .i64 0, .string ⟨#[]⟩, .string ⟨#[]⟩] 39)
    exact ⟨h.os, h.tape, h.output, by simpa using h.size, fun k hk hn => (setRow_other _ w1.heap.size k _ (by have := h1.size; omega)).trans (h.block k hk hn)⟩
  have hrow := setRow_at (cs := #[.string e.p, .int .i64 e.k, .int .i64 e.m, .string e.d, .string e.l]) hb0
  have hwk : ((w1.alloc (.cells #[.string ⟨#[]⟩, .int .i64 0, .int .i64 0, .string ⟨#[]⟩, .string ⟨#[]⟩] 39)).setRow w1.heap.size #[.string e.p, .int .i64 e.k, .int .i64 e.m, .string e.d, .string e.l]).heap[Wk]? = some (walkObj T a (.slice (some ad) left.length cap) hops keep sv) := by
    have hlt := heap_lt hw
    rw [setRow_other _ w1.heap.size Wk _ (by have := h1.size; omega), heap_alloc_old w1 _ (Nat.lt_of_lt_of_le hlt h1.size), h1.block Wk hlt]
    exact hw
  obtain ⟨_, c1, c2, c3, c4, c5, c6, c7⟩ := walk_cells hwk
  refine ⟨_, rfl, hb0, c1, c2, c3, c4, c5, c6, c7, ?_, ?_, walk_frozen hwk 1, hb2, hwk, hl.but hb2 (fun b hb => by injection hb with hb; subst hb; simpa using ho)⟩
  · unfold World.cell?
    rw [hrow]
    rfl
  · unfold World.cell?
    rw [hrow]
    rfl
/-- what piece answers -/
def PieceR (L : List Ent) (keep : Bool) (T Wk : Nat) (sv : Value) (a q : List UInt8) (left : List (List UInt8)) (hops : Nat) (ad : Addr) (cap : Nat) (w : World) (r : Ending) (w' : World) : Prop :=
  But [Wk] w w' ∧ match pieceF L keep a q left hops with
    | .error n => r = .returned (.tuple #[.bool false, errV n])
    | .ok none => r = .returned (.tuple #[.bool true, .nilIface]) ∧ w'.heap[Wk]? = some (walkObj T (bs a) (.slice (some ad) left.length cap) hops keep sv)
    | .ok (some (a', left', hops')) => r = .returned (.tuple #[.bool false, .nilIface]) ∧ ∃ o' cap', w'.heap[Wk]? = some (walkObj T (bs a') (.slice o' left'.length cap') hops' keep sv) ∧ LeftA w' o' cap' left' ∧ (o' = some ad ∨ ∀ b, o' = some b → w.heap.size ≤ b.block)
set_option maxRecDepth 100000 in
set_option maxHeartbeats 8000000 in
theorem piece_any {T rt rm tb Wk cap : Nat} {nd : List Nd} {a : List UInt8} {ad : Addr} {left : List (List UInt8)} {hops : Nat} {keep : Bool} {sv : Value} (c : ByteArray) (q : List UInt8) (w : World) (ht : TreeAt w T rt rm tb nd) (hw : w.heap[Wk]? = some (walkObj T (bs a) (.slice (some ad) left.length cap) hops keep sv))
    (hl : LeftA w (some ad) cap left) (ho : ad.block ≠ Wk) (hqs : q.length < 4611686018427387904) (hll : left.length ≤ 1099511627776) (hh : hops ≤ 40) :
    Calls Tryz.prog 36 #[.pointer (some ⟨Wk, 0, none⟩), .string c, .string (bs q)] w fun r w' => PieceR (ents nd) keep T Wk sv a q left hops ad cap w r w' := by
  have hget := get_any (bs q) w ht (by rw [bs_size]; exact hqs)
  have hgood := ht.good
  obtain ⟨c0, _, _, _, _, _, _, _⟩ := walk_cells hw
  clear ht
  cases hq : lookE (ents nd) q with
  | none =>
    have hp : pieceF (ents nd) keep a q left hops = .error 10 := by unfold pieceF; rw [hq]
    have Hp := Lib.hid hp
    rw [bs_toList, hq] at hget
    obtain ⟨e, he⟩ : ∃ e : Ent, e = ⟨emp, 0, 0, emp, emp⟩ := ⟨_, rfl⟩
    have hget2 : Calls Tryz.prog 56 #[.pointer (some ⟨T, 0, none⟩), .string (bs q)] w fun r w' => r = .returned (.tuple #[.agg #[.string e.p, .int .i64 e.k, .int .i64 e.m, .string e.d, .string e.l], .bool false]) ∧ Below w.heap.size w w' := by rw [he]; exact hget
    have Hget := Lib.hid hget2
    have Haf := Lib.hid (fun w1 h1 => after_get w1 e hw hl ho h1)
    clear hp hget hget2 he hq hw hl
    go_enter Tryz.func36, Tryz.ntmps36
    go_wp2_with (first
      | (go_at_call 56; refine Hget.out.mono ?_; rintro e w1 ⟨rfl, hb1⟩
         obtain ⟨w2, hw2, hz, d0, d1, d2, d3, d4, d5, d6, x1, x4, g1, hb2, hblk, hla⟩ := Haf.out w1 hb1
         have Hz := Lib.hid hz
         have Hw2 := Lib.hid hw2
         have HB := Lib.hid hb2
         have HW := Lib.hid hblk
         have HL := Lib.hid hla
         clear hb1 hw2 hz hb2 hblk hla)
      | (refine wpList_store_row rfl _ _ _ rfl w1.heap.size #[.string e.p, .int .i64 e.k, .int .i64 e.m, .string e.d, .string e.l] rfl rfl 39 _ Hz.out (by kernel_rfl) rfl (by kernel_rfl) ?_; rw [← Hw2.out])
      | (refine (none_any _ _ _ _).mono ?_; rintro e w3 ⟨rfl, rfl⟩))

    go_ret2
    refine ⟨HB.out, ?_⟩
    rw [Hp.out]
    rfl
  | some e =>
    have hget2 : Calls Tryz.prog 56 #[.pointer (some ⟨T, 0, none⟩), .string (bs q)] w fun r w' => r = .returned (.tuple #[.agg #[.string e.p, .int .i64 e.k, .int .i64 e.m, .string e.d, .string e.l], .bool true]) ∧ Below w.heap.size w w' := by rw [bs_toList, hq] at hget; exact hget
    have Hget := Lib.hid hget2
    have Haf := Lib.hid (fun w1 h1 => after_get w1 e hw hl ho h1)
    have hpf : pieceF (ents nd) keep a q left hops = (if e.k = 1 then .ok (some (q, left, hops)) else if e.k = 2 then (if left ≠ [] then .error 13 else .ok none) else if keep = true ∧ left = [] then .ok none else if hops = 40 then .error 12 else .ok (some (linkAt a e, pieces e.l.data.toList ++ left, hops + 1))) := by unfold pieceF; rw [hq]
    by_cases k1 : e.k = 1
    · rw [if_pos k1] at hpf
      have Hp := Lib.hid hpf
      have b1 : (e.k == 1) = true := by simpa using k1
      clear hget hget2 hq hw hl hpf k1
      go_enter Tryz.func36, Tryz.ntmps36
      go_wp2_with (first
        | (go_at_call 56; refine Hget.out.mono ?_; rintro e w1 ⟨rfl, hb1⟩
           obtain ⟨w2, hw2, hz, d0, d1, d2, d3, d4, d5, d6, x1, x4, g1, hb2, hblk, hla⟩ := Haf.out w1 hb1
           have Hz := Lib.hid hz
           have Hw2 := Lib.hid hw2
           have HB := Lib.hid hb2
           have HW := Lib.hid hblk
           have HL := Lib.hid hla
           clear hb1 hw2 hz hb2 hblk hla)
        | (refine wpList_store_row rfl _ _ _ rfl w1.heap.size #[.string e.p, .int .i64 e.k, .int .i64 e.m, .string e.d, .string e.l] rfl rfl 39 _ Hz.out (by kernel_rfl) rfl (by kernel_rfl) ?_; rw [← Hw2.out]))

      go_ret2
      refine ⟨HB.out.setCell (p := ⟨Wk, 1, none⟩) (.inl (List.mem_singleton.2 rfl)) _, ?_⟩
      rw [Hp.out]
      exact ⟨rfl, _, _, walk_setAt HW.out _, HL.out.but ((But.refl [Wk] w2).setCell (p := ⟨Wk, 1, none⟩) (.inl (List.mem_singleton.2 rfl)) _) (fun b hb => by injection hb with hb; subst hb; simpa using ho), .inl rfl⟩
    have b1 : (e.k == 1) = false := by simpa using k1
    rw [if_neg k1] at hpf
    by_cases k2 : e.k = 2
    · have b2 : (e.k == 2) = true := by simpa using k2
      rw [if_pos k2] at hpf
      by_cases hn : left = []
      · rw [if_neg (by simpa using hn)] at hpf
        have b3 : ((left.length : Int) == 0) = true := by rw [hn]; rfl
        have Hp := Lib.hid hpf
        clear hget hget2 hq hw hl hpf k1 k2 hn
        go_enter Tryz.func36, Tryz.ntmps36
        go_wp2_with (first
          | (go_at_call 56; refine Hget.out.mono ?_; rintro e w1 ⟨rfl, hb1⟩
             obtain ⟨w2, hw2, hz, d0, d1, d2, d3, d4, d5, d6, x1, x4, g1, hb2, hblk, hla⟩ := Haf.out w1 hb1
             have Hz := Lib.hid hz
             have Hw2 := Lib.hid hw2
             have HB := Lib.hid hb2
             have HW := Lib.hid hblk
             have HL := Lib.hid hla
             clear hb1 hw2 hz hb2 hblk hla)
          | (refine wpList_store_row rfl _ _ _ rfl w1.heap.size #[.string e.p, .int .i64 e.k, .int .i64 e.m, .string e.d, .string e.l] rfl rfl 39 _ Hz.out (by kernel_rfl) rfl (by kernel_rfl) ?_; rw [← Hw2.out]))

        go_ret2
        refine ⟨HB.out, ?_⟩
        rw [Hp.out]
        exact ⟨rfl, HW.out⟩
      · rw [if_pos hn] at hpf
        have b3 : ((left.length : Int) == 0) = false := by have := List.length_pos_iff.2 hn; simp; omega
        have Hp := Lib.hid hpf
        clear hget hget2 hq hw hl hpf k1 k2 hn
        go_enter Tryz.func36, Tryz.ntmps36
        go_wp2_with (first
          | (go_at_call 56; refine Hget.out.mono ?_; rintro e w1 ⟨rfl, hb1⟩
             obtain ⟨w2, hw2, hz, d0, d1, d2, d3, d4, d5, d6, x1, x4, g1, hb2, hblk, hla⟩ := Haf.out w1 hb1
             have Hz := Lib.hid hz
             have Hw2 := Lib.hid hw2
             have HB := Lib.hid hb2
             have HW := Lib.hid hblk
             have HL := Lib.hid hla
             clear hb1 hw2 hz hb2 hblk hla)
          | (refine wpList_store_row rfl _ _ _ rfl w1.heap.size #[.string e.p, .int .i64 e.k, .int .i64 e.m, .string e.d, .string e.l] rfl rfl 39 _ Hz.out (by kernel_rfl) rfl (by kernel_rfl) ?_; rw [← Hw2.out]))

        go_ret2
        refine ⟨HB.out, ?_⟩
        rw [Hp.out]
        rfl
    have b2 : (e.k == 2) = false := by simpa using k2
    rw [if_neg k2] at hpf
    by_cases hkl : keep = true ∧ left = []
    · rw [if_pos hkl] at hpf
      obtain ⟨rfl, hn⟩ := hkl
      have b3 : ((left.length : Int) == 0) = true := by rw [hn]; rfl
      have Hp := Lib.hid hpf
      clear hget hget2 hq hw hl hpf k1 k2 hn
      go_enter Tryz.func36, Tryz.ntmps36
      go_wp2_with (first
        | (go_at_call 56; refine Hget.out.mono ?_; rintro e w1 ⟨rfl, hb1⟩
           obtain ⟨w2, hw2, hz, d0, d1, d2, d3, d4, d5, d6, x1, x4, g1, hb2, hblk, hla⟩ := Haf.out w1 hb1
           have Hz := Lib.hid hz
           have Hw2 := Lib.hid hw2
           have HB := Lib.hid hb2
           have HW := Lib.hid hblk
           have HL := Lib.hid hla
           clear hb1 hw2 hz hb2 hblk hla)
        | (refine wpList_store_row rfl _ _ _ rfl w1.heap.size #[.string e.p, .int .i64 e.k, .int .i64 e.m, .string e.d, .string e.l] rfl rfl 39 _ Hz.out (by kernel_rfl) rfl (by kernel_rfl) ?_; rw [← Hw2.out]))

      go_ret2
      refine ⟨HB.out, ?_⟩
      rw [Hp.out]
      exact ⟨rfl, HW.out⟩
    rw [if_neg hkl] at hpf
    have hlk := fun W (h1 : W.heap[Wk]? = some (walkObj T (bs a) (.slice (some ad) left.length cap) (hops : Int) keep sv)) h2 => link_any (sv := sv) e.l W h1 h2 ho (link_short hgood hq k1 k2).2 (by have := link_size hgood hq k1 k2; omega) hll hh
    have Hlk := Lib.hid hlk
    cases keep with
    | false =>
      by_cases h40 : hops = 40
      · rw [if_pos h40] at hpf
        have Hp := Lib.hid hpf
        have H40 := Lib.hid h40
        clear hget hget2 hq hw hl hpf k1 k2 hkl hlk h40
        go_enter Tryz.func36, Tryz.ntmps36
        go_wp2_with (first
          | (go_at_call 56; refine Hget.out.mono ?_; rintro e w1 ⟨rfl, hb1⟩
             obtain ⟨w2, hw2, hz, d0, d1, d2, d3, d4, d5, d6, x1, x4, g1, hb2, hblk, hla⟩ := Haf.out w1 hb1
             have Hz := Lib.hid hz
             have Hw2 := Lib.hid hw2
             have HB := Lib.hid hb2
             have HW := Lib.hid hblk
             have HL := Lib.hid hla
             clear hb1 hw2 hz hb2 hblk hla)
          | (refine wpList_store_row rfl _ _ _ rfl w1.heap.size #[.string e.p, .int .i64 e.k, .int .i64 e.m, .string e.d, .string e.l] rfl rfl 39 _ Hz.out (by kernel_rfl) rfl (by kernel_rfl) ?_; rw [← Hw2.out])
          | (go_at_call 57; refine (Hlk.out _ HW.out HL.out).mono ?_; rintro r w3 ⟨h1, h2, h3⟩
             obtain rfl := h2 H40.out
             have HB3 := Lib.hid h1
             clear h1 h2 h3))

        go_ret2
        refine ⟨HB.out.trans HB3.out (fun i hi => .inl hi), ?_⟩
        rw [Hp.out]
        rfl
      · rw [if_neg h40] at hpf
        have Hp := Lib.hid hpf
        have H40 := Lib.hid h40
        clear hget hget2 hq hw hl hpf k1 k2 hkl hlk h40
        go_enter Tryz.func36, Tryz.ntmps36
        go_wp2_with (first
          | (go_at_call 56; refine Hget.out.mono ?_; rintro e w1 ⟨rfl, hb1⟩
             obtain ⟨w2, hw2, hz, d0, d1, d2, d3, d4, d5, d6, x1, x4, g1, hb2, hblk, hla⟩ := Haf.out w1 hb1
             have Hz := Lib.hid hz
             have Hw2 := Lib.hid hw2
             have HB := Lib.hid hb2
             have HW := Lib.hid hblk
             have HL := Lib.hid hla
             clear hb1 hw2 hz hb2 hblk hla)
          | (refine wpList_store_row rfl _ _ _ rfl w1.heap.size #[.string e.p, .int .i64 e.k, .int .i64 e.m, .string e.d, .string e.l] rfl rfl 39 _ Hz.out (by kernel_rfl) rfl (by kernel_rfl) ?_; rw [← Hw2.out])
          | (go_at_call 57; refine (Hlk.out _ HW.out HL.out).mono ?_; rintro r w3 ⟨h1, h2, h3⟩
             obtain ⟨rfl, o', cap', h4, h5, h6⟩ := h3 H40.out
             have HB3 := Lib.hid h1
             have HW3 := Lib.hid h4
             have HL3 := Lib.hid h5
             have HO3 := Lib.hid h6
             clear h1 h2 h3 h4 h5 h6))

        go_ret2
        refine ⟨HB.out.trans HB3.out (fun i hi => .inl hi), ?_⟩
        rw [Hp.out]
        refine ⟨rfl, o', cap', ?_, HL3.out, .inr (fun b hb => Nat.le_trans HB.out.size (HO3.out b hb))⟩
        rw [HW3.out, link_bs]
    | true =>
      have b3 : ((left.length : Int) == 0) = false := by
        have hn : left ≠ [] := fun h => hkl ⟨rfl, h⟩
        have := List.length_pos_iff.2 hn; simp; omega
      by_cases h40 : hops = 40
      · rw [if_pos h40] at hpf
        have Hp := Lib.hid hpf
        have H40 := Lib.hid h40
        clear hget hget2 hq hw hl hpf k1 k2 hkl hlk h40
        go_enter Tryz.func36, Tryz.ntmps36
        go_wp2_with (first
          | (go_at_call 56; refine Hget.out.mono ?_; rintro e w1 ⟨rfl, hb1⟩
             obtain ⟨w2, hw2, hz, d0, d1, d2, d3, d4, d5, d6, x1, x4, g1, hb2, hblk, hla⟩ := Haf.out w1 hb1
             have Hz := Lib.hid hz
             have Hw2 := Lib.hid hw2
             have HB := Lib.hid hb2
             have HW := Lib.hid hblk
             have HL := Lib.hid hla
             clear hb1 hw2 hz hb2 hblk hla)
          | (refine wpList_store_row rfl _ _ _ rfl w1.heap.size #[.string e.p, .int .i64 e.k, .int .i64 e.m, .string e.d, .string e.l] rfl rfl 39 _ Hz.out (by kernel_rfl) rfl (by kernel_rfl) ?_; rw [← Hw2.out])
          | (go_at_call 57; refine (Hlk.out _ HW.out HL.out).mono ?_; rintro r w3 ⟨h1, h2, h3⟩
             obtain rfl := h2 H40.out
             have HB3 := Lib.hid h1
             clear h1 h2 h3))

        go_ret2
        refine ⟨HB.out.trans HB3.out (fun i hi => .inl hi), ?_⟩
        rw [Hp.out]
        rfl
      · rw [if_neg h40] at hpf
        have Hp := Lib.hid hpf
        have H40 := Lib.hid h40
        clear hget hget2 hq hw hl hpf k1 k2 hkl hlk h40
        go_enter Tryz.func36, Tryz.ntmps36
        go_wp2_with (first
          | (go_at_call 56; refine Hget.out.mono ?_; rintro e w1 ⟨rfl, hb1⟩
             obtain ⟨w2, hw2, hz, d0, d1, d2, d3, d4, d5, d6, x1, x4, g1, hb2, hblk, hla⟩ := Haf.out w1 hb1
             have Hz := Lib.hid hz
             have Hw2 := Lib.hid hw2
             have HB := Lib.hid hb2
             have HW := Lib.hid hblk
             have HL := Lib.hid hla
             clear hb1 hw2 hz hb2 hblk hla)
          | (refine wpList_store_row rfl _ _ _ rfl w1.heap.size #[.string e.p, .int .i64 e.k, .int .i64 e.m, .string e.d, .string e.l] rfl rfl 39 _ Hz.out (by kernel_rfl) rfl (by kernel_rfl) ?_; rw [← Hw2.out])
          | (go_at_call 57; refine (Hlk.out _ HW.out HL.out).mono ?_; rintro r w3 ⟨h1, h2, h3⟩
             obtain ⟨rfl, o', cap', h4, h5, h6⟩ := h3 H40.out
             have HB3 := Lib.hid h1
             have HW3 := Lib.hid h4
             have HL3 := Lib.hid h5
             have HO3 := Lib.hid h6
             clear h1 h2 h3 h4 h5 h6))

        go_ret2
        refine ⟨HB.out.trans HB3.out (fun i hi => .inl hi), ?_⟩
        rw [Hp.out]
        refine ⟨rfl, o', cap', ?_, HL3.out, .inr (fun b hb => Nat.le_trans HB.out.size (HO3.out b hb))⟩
        rw [HW3.out, link_bs]
end
section
open Go.RowKit Go.Shelf Go.Maps
open Go.Lib hiding intOf size_eq
structure WAt (w wr : World) (base Wk T rt rm tb : Nat) (nd : List Nd) (keep : Bool) (sv : Value) (a : List UInt8) (left : List (List UInt8)) (hops : Nat) (tr : List (List UInt8)) (F : List Nat) (o : Option Addr) (cap : Nat) : Prop where
  blk : wr.heap[Wk]? = some (walkObj T (bs a) (.slice o left.length cap) hops keep sv)
  la : LeftA wr o cap left
  out : OutOf (Wk :: F) o
  wkF : Wk ∉ F
  st : StepAt wr base sv tr F
  wb : base ≤ Wk
  bel : Below base w wr
  lo : base ≤ w.heap.size
  tree : TreeAt wr T rt rm tb nd
  tlo : ∀ b, IsBlk T rt rm nd b → b < base
theorem WAt.size {w wr : World} {base Wk T rt rm tb : Nat} {nd : List Nd} {keep : Bool} {sv : Value} {a : List UInt8} {left : List (List UInt8)} {hops : Nat} {tr : List (List UInt8)} {F : List Nat} {o : Option Addr} {cap : Nat}
    (h : WAt w wr base Wk T rt rm tb nd keep sv a left hops tr F o cap) : base ≤ wr.heap.size := Nat.le_trans h.lo h.bel.size
theorem WAt.told {w wr w4 : World} {base Wk T rt rm tb : Nat} {nd : List Nd} {keep : Bool} {sv : Value} {a : List UInt8} {left : List (List UInt8)} {hops : Nat} {tr tr' : List (List UInt8)} {F F' : List Nat} {o : Option Addr} {cap : Nat}
    (h : WAt w wr base Wk T rt rm tb nd keep sv a left hops tr F o cap) (hb : But F wr w4) (hs : StepAt w4 base sv tr' F') (hf : ∀ k ∈ F', k ∈ F ∨ wr.heap.size ≤ k) : WAt w w4 base Wk T rt rm tb nd keep sv a left hops tr' F' o cap := by
  have hlt := heap_lt h.blk
  refine ⟨(hb.block Wk hlt h.wkF).trans h.blk, h.la.but hb (fun b hb2 hx => h.out b hb2 (List.mem_cons_of_mem _ hx)), fun b hb2 hx => ?_, fun hx => ?_, hs, h.wb, h.bel.trans (hb.to_below h.size h.st.lo), h.lo, h.tree.same (fun b hx => hb.block b (h.tree.lt hx) (fun hF => ?_)), h.tlo⟩
  · rcases List.mem_cons.1 hx with hx | hx
    · exact h.out b hb2 (by rw [hx]; exact List.mem_cons_self ..)
    · rcases hf _ hx with hx | hx
      · exact h.out b hb2 (List.mem_cons_of_mem _ hx)
      · have := h.la.lt b hb2
        omega
  · rcases hf _ hx with hx | hx
    · exact h.wkF hx
    · omega
  · have h1 := h.tlo b hx
    have h2 := h.st.lo b hF
    omega
theorem WAt.but {w wr w4 : World} {base Wk T rt rm tb : Nat} {nd : List Nd} {keep : Bool} {sv : Value} {a a' : List UInt8} {left left' : List (List UInt8)} {hops hops' : Nat} {tr : List (List UInt8)} {F : List Nat} {o o' : Option Addr} {cap cap' : Nat}
    (h : WAt w wr base Wk T rt rm tb nd keep sv a left hops tr F o cap) (hb : But [Wk] wr w4) (hk : w4.heap[Wk]? = some (walkObj T (bs a') (.slice o' left'.length cap') hops' keep sv)) (hl : LeftA w4 o' cap' left') (ho : OutOf (Wk :: F) o') :
    WAt w w4 base Wk T rt rm tb nd keep sv a' left' hops' tr F o' cap' := by
  refine ⟨hk, hl, ho, h.wkF, h.st.but hb (fun k hk2 hx => ?_), h.wb, h.bel.trans (hb.to_below h.size (fun k hk2 => ?_)), h.lo, h.tree.same (fun b hx => hb.block b (h.tree.lt hx) (fun hF => ?_)), h.tlo⟩
  · rw [List.mem_singleton] at hx
    subst hx
    exact h.wkF hk2
  · rw [List.mem_singleton] at hk2
    subst hk2
    exact h.wb
  · rw [List.mem_singleton] at hF
    have h1 := h.tlo b hx
    have h2 := h.wb
    omega
/-- what piece moves -/
theorem WAt.piece {w wr w4 : World} {base Wk T rt rm tb : Nat} {nd : List Nd} {keep : Bool} {sv : Value} {a a' : List UInt8} {left left' : List (List UInt8)} {hops hops' : Nat} {tr : List (List UInt8)} {F : List Nat} {ad : Addr} {o' : Option Addr} {cap cap' : Nat}
    (h : WAt w wr base Wk T rt rm tb nd keep sv a left hops tr F (some ad) cap) (hb : But [Wk] wr w4) (hk : w4.heap[Wk]? = some (walkObj T (bs a') (.slice o' left'.length cap') hops' keep sv)) (hl : LeftA w4 o' cap' left') (ho : o' = some ad ∨ ∀ b, o' = some b → wr.heap.size ≤ b.block) :
    WAt w w4 base Wk T rt rm tb nd keep sv a' left' hops' tr F o' cap' := by
  refine h.but hb hk hl (fun b hb2 hx => ?_)
  rcases ho with ho | ho
  · rw [ho] at hb2
    exact h.out b hb2 hx
  · have h1 := ho b hb2
    rcases List.mem_cons.1 hx with hx | hx
    · have := heap_lt h.blk
      omega
    · have := h.st.lt _ hx
      omega
/-- where left begins behind its first piece -/
def tailO (ad : Addr) (cap : Nat) : Option Addr := if cap = 1 then some ad else some (ad.add 1)
theorem tailO_some (ad : Addr) (cap : Nat) : ∃ b, tailO ad cap = some b ∧ b.block = ad.block := by
  unfold tailO
  split
  · exact ⟨_, rfl, rfl⟩
  · exact ⟨_, rfl, add_block _ _⟩
theorem WAt.tail {w wr : World} {base Wk T rt rm tb : Nat} {nd : List Nd} {keep : Bool} {sv : Value} {a c : List UInt8} {left : List (List UInt8)} {hops : Nat} {tr : List (List UInt8)} {F : List Nat} {ad : Addr} {cap : Nat}
    (h : WAt w wr base Wk T rt rm tb nd keep sv a (c :: left) hops tr F (some ad) cap) :
    WAt w (wr.setCell ⟨Wk, 2, none⟩ (.slice (tailO ad cap) left.length (cap - 1))) base Wk T rt rm tb nd keep sv a left hops tr F (tailO ad cap) (cap - 1) := by
  have hb : But [Wk] wr (wr.setCell ⟨Wk, 2, none⟩ (.slice (tailO ad cap) left.length (cap - 1))) := (But.refl [Wk] wr).setCell (p := ⟨Wk, 2, none⟩) (.inl (List.mem_singleton.2 rfl)) _
  have ho : OutOf (Wk :: F) (tailO ad cap) := fun b hb2 => by
    obtain ⟨b2, e1, e2⟩ := tailO_some ad cap
    rw [e1] at hb2
    injection hb2 with hb2
    subst hb2
    rw [e2]
    exact h.out ad rfl
  have hl : LeftA wr (tailO ad cap) (cap - 1) left := by
    have hle := h.la.le
    simp at hle
    unfold tailO
    by_cases hc : cap = 1
    · rw [if_pos hc]
      obtain rfl : left = [] := List.eq_nil_of_length_eq_zero (by omega)
      exact ⟨by simp, by have := h.la.max; omega, h.la.lt, fun i x hx => by simp at hx⟩
    · rw [if_neg hc]
      exact h.la.tail
  exact h.but hb (walk_setLeft h.blk _) (hl.but hb (fun b hb2 hx => ho b hb2 (by rw [List.mem_singleton.1 hx]; exact List.mem_cons_self ..))) ho
theorem WAt.setAt {w wr : World} {base Wk T rt rm tb : Nat} {nd : List Nd} {keep : Bool} {sv : Value} {a : List UInt8} {left : List (List UInt8)} {hops : Nat} {tr : List (List UInt8)} {F : List Nat} {o : Option Addr} {cap : Nat}
    (h : WAt w wr base Wk T rt rm tb nd keep sv a left hops tr F o cap) (b : List UInt8) :
    WAt w (wr.setCell ⟨Wk, 1, none⟩ (.string (bs b))) base Wk T rt rm tb nd keep sv b left hops tr F o cap := by
  have hb : But [Wk] wr (wr.setCell ⟨Wk, 1, none⟩ (.string (bs b))) := (But.refl [Wk] wr).setCell (p := ⟨Wk, 1, none⟩) (.inl (List.mem_singleton.2 rfl)) _
  exact h.but hb (walk_setAt h.blk _) (h.la.but hb (fun b hb2 hx => h.out b hb2 (by rw [List.mem_singleton.1 hx]; exact List.mem_cons_self ..))) h.out
/-- what is left to go -/
def walkMeas (Wk : Nat) (w : World) : Nat := match w.cell? ⟨Wk, 2, none⟩, w.cell? ⟨Wk, 3, none⟩ with
  | some (.slice _ n _), some (.int _ h) => needF n h.toNat
  | _, _ => 0
theorem walkMeas_eq {w : World} {Wk T : Nat} {a : ByteArray} {o : Option Addr} {n cap : Nat} {hops : Nat} {keep : Bool} {sv : Value} (h : w.heap[Wk]? = some (walkObj T a (.slice o n cap) hops keep sv)) : walkMeas Wk w = needF n hops := by
  obtain ⟨_, _, c2, c3, _⟩ := walk_cells h
  unfold walkMeas
  rw [c2, c3]
  simp
theorem needF_ge (n hops : Nat) : n + 1 ≤ needF n hops := by unfold needF; omega
/-- the relation of run's loop -/
def RunI (w : World) (base Wk T rt rm tb : Nat) (nd : List Nd) (keep : Bool) (sv : Value) (R : Except Nat (List UInt8 × List (List UInt8))) (wr : World) : Prop :=
  ∃ a left hops tr F o cap, WAt w wr base Wk T rt rm tb nd keep sv a left hops tr F o cap ∧ a.length ≤ 255 ∧ (∀ c ∈ left, c.length ≤ 1099511627776) ∧ hops ≤ 40 ∧ tr.length + needF left.length hops ≤ 1099511627776 ∧ runF (ents nd) keep (needF left.length hops) a left hops tr = R
/-- what run answers -/
def RunR (w : World) (base : Nat) (sv : Value) (R : Except Nat (List UInt8 × List (List UInt8))) (r : Ending) (w' : World) : Prop :=
  Below base w w' ∧ match R with
    | .error n => r = .returned (.tuple #[.string ⟨#[]⟩, errV n])
    | .ok (p, t) => r = .returned (.tuple #[.string (bs p), .nilIface]) ∧ ∃ F, StepAt w' base sv t F
theorem parent_length (a : List UInt8) : (parent a).length ≤ a.length := by unfold parent; simp; omega
theorem joinP_length (a c : List UInt8) : (joinP a c).length ≤ a.length + 1 + c.length := by
  unfold joinP
  split <;> simp <;> omega
theorem pieceF_err {L : List Ent} {keep : Bool} {a q : List UInt8} {left : List (List UInt8)} {hops n : Nat} (h : pieceF L keep a q left hops = .error n) : n ≠ 0 := by
  unfold pieceF at h
  cases hq : lookE L q with
  | none => rw [hq] at h; injection h with h; omega
  | some e =>
    rw [hq] at h
    simp only [] at h
    split at h
    · cases h
    split at h
    · split at h
      · injection h with h; omega
      · cases h
    split at h
    · cases h
    split at h
    · injection h with h; omega
    · cases h
end
section
open Go.RowKit Go.Shelf Go.Maps
open Go.Lib hiding intOf size_eq
set_option maxRecDepth 100000 in
set_option maxHeartbeats 8000000 in
theorem run_any {base Wk T rt rm tb : Nat} {nd : List Nd} {keep : Bool} {sv : Value} {R : Except Nat (List UInt8 × List (List UInt8))} {w0 : World} (w : World) (hgood : Good (ents nd)) (h : RunI w0 base Wk T rt rm tb nd keep sv R w) :
    Calls Tryz.prog 20 #[.pointer (some ⟨Wk, 0, none⟩)] w fun r w' => RunR w0 base sv R r w' := by
  have Hi := Lib.hid h
  have Hgood := Lib.hid hgood
  clear h hgood
  go_enter Tryz.func20, Tryz.ntmps20
  go_wp2
  go_loopw [4, 5, 6, 7] (fun _ _ _ _ wr => RunI w0 base Wk T rt rm tb nd keep sv R wr) (fun _ _ _ _ wr => walkMeas Wk wr)
  case atStart => exact Hi.out
  case round =>
    obtain ⟨a, left, hops, tr, F, o, cap, hW, ha, hl, hh, hN, hR⟩ := hrel
    clear Hi
    obtain ⟨c0, c1, c2, c3, _, _, _, _⟩ := walk_cells hW.blk
    have f1 := walk_frozen hW.blk 1
    have f2 := walk_frozen hW.blk 2
    cases left with
    | nil =>
      have Hw := Lib.hid hW
      have HR := Lib.hid (hR.symm.trans runF_nil)
      clear hW hR
      go_wp2
      go_ret2
      refine ⟨Hw.out.bel, ?_⟩
      rw [HR.out]
      exact ⟨rfl, F, Hw.out.st⟩
    | cons c left =>
      obtain ⟨ad, hoa, hca⟩ := hW.la.cell 0 c rfl
      subst hoa
      rw [add_zero, show encS c = .string (bs c) from rfl] at hca
      have hc40 := hl c (List.mem_cons_self ..)
      have hl2 : ∀ x ∈ left, x.length ≤ 1099511627776 := fun x hx => hl x (List.mem_cons_of_mem _ hx)
      rw [needF_cons] at hN
      have hnd := needF_ge left.length hops
      by_cases hcap : cap = 1
      · subst hcap
        have ht := hW.tail
        have e1 : tailO ad 1 = some ad := rfl
        rw [e1] at ht
        rw [show (1 : Nat) - 1 = 0 from rfl] at ht
        obtain ⟨w1, hw1⟩ : ∃ x, x = wr.setCell ⟨Wk, 2, none⟩ (.slice (some ad) left.length 0) := ⟨_, rfl⟩
        rw [← hw1] at ht
        obtain ⟨d0, d1, _, _, _, _, _, _⟩ := walk_cells ht.blk
        have df1 := walk_frozen ht.blk 1
        have Hw := Lib.hid hW
        have Ht := Lib.hid ht
        have HR := Lib.hid hR
        have Hl2 := Lib.hid hl2
        have Hlen := Lib.hid (show tr.length ≤ 1099511627776 by omega)
        have HN := Lib.hid hN
        have Hw1 := Lib.hid hw1
        have Hh := Lib.hid hh
        have Ha := Lib.hid ha
        have Hc := Lib.hid hc40
        have Hge := Lib.hid hnd
        clear hW ht hR hl2 hN hw1 hh ha hc40 hnd hl e1
        by_cases h1 : c = [46]
        · subst h1
          have b1 : ((bs [46]).toList == [46]) = true := eqB_t (by rw [bs_toList])
          have Hnd := Lib.hid (Nat.le_refl (needF left.length hops))
          go_upto_region 4 with fail
          rw [← Hw1.out]
          go_wp2_with (first
          | (go_at_call 37; refine (told_any a _ Ht.out.blk Ht.out.st Ht.out.size Hlen.out).mono ?_; rintro r w5 ⟨rfl, F', hb5, hs5, hf5⟩
             have H5 := Lib.hid (Ht.out.told hb5 hs5 hf5)
             clear hb5 hs5 hf5))
          go_roundw
          case rel => exact ⟨_, _, _, _, _, _, _, H5.out, Ha.out, Hl2.out, Hh.out, by have := HN.out; rw [List.length_append]; simp; omega, by rw [← HR.out, runF_dot]⟩
          case measure =>
            rw [walkMeas_eq H5.out.blk, walkMeas_eq Hw.out.blk, needF_cons]
            have := Hnd.out
            omega
        by_cases h2 : c = [46, 46]
        · subst h2
          have b1 : ((bs [46, 46]).toList == [46]) = false := eqB_f (by rw [bs_toList]; decide)
          have b2 : ((bs [46, 46]).toList == [46, 46]) = true := eqB_t (by rw [bs_toList])
          have hpar := fun W => parent_any (bs a) W (by rw [bs_size]; have := Ha.out; omega)
          rw [bs_toList] at hpar
          have Hpar := Lib.hid hpar
          have Hnd := Lib.hid (Nat.le_refl (needF left.length hops))
          have Ht2 := Lib.hid (Ht.out.setAt (parent a))
          obtain ⟨w2, hw2⟩ : ∃ x, x = w1.setCell ⟨Wk, 1, none⟩ (.string (bs (parent a))) := ⟨_, rfl⟩
          rw [← hw2] at Ht2
          obtain ⟨_, g1, _, _, _, _, _, _⟩ := walk_cells Ht2.out.blk
          have Hw2 := Lib.hid hw2
          clear hpar hw2
          go_upto_region 4 with fail
          rw [← Hw1.out]
          go_upto_region 15 with (go_at_call 34; refine (Hpar.out _).mono ?_; rintro r w5 ⟨rfl, rfl⟩)
          rw [← Hw2.out]
          go_wp2_with (first
          | (go_at_call 37; refine (told_any (parent a) _ Ht2.out.blk Ht2.out.st Ht2.out.size Hlen.out).mono ?_; rintro r w5 ⟨rfl, F', hb5, hs5, hf5⟩
             have H5 := Lib.hid (Ht2.out.told hb5 hs5 hf5)
             clear hb5 hs5 hf5))
          go_roundw
          case rel => exact ⟨_, _, _, _, _, _, _, H5.out, Nat.le_trans (parent_length a) Ha.out, Hl2.out, Hh.out, by have := HN.out; rw [List.length_append]; simp; omega, by rw [← HR.out, runF_up]⟩
          case measure =>
            rw [walkMeas_eq H5.out.blk, walkMeas_eq Hw.out.blk, needF_cons]
            have := Hnd.out
            omega
        have b1 : ((bs c).toList == [46]) = false := eqB_f (by rw [bs_toList]; exact h1)
        have b2 : ((bs c).toList == [46, 46]) = false := eqB_f (by rw [bs_toList]; exact h2)
        have hrn := runF_name Hgood.out (keep := keep) (a := a) (tr := tr) (left := left) Hh.out h1 h2
        rw [HR.out] at hrn
        have hjl := joinP_length a c
        obtain ⟨q, hq⟩ : ∃ q, q = joinP a c := ⟨_, rfl⟩
        rw [← hq] at hrn hjl
        have hjoin := fun W => join_any (bs a) (bs c) W (by rw [bs_size, bs_size]; have := Ha.out; have := Hc.out; omega)
        rw [bs_toList, bs_toList, ← hq] at hjoin
        have hpc := piece_any (bs c) q w1 Ht.out.tree Ht.out.blk Ht.out.la (fun e => Ht.out.out _ rfl (by rw [e]; exact List.mem_cons_self ..)) (by have := Ha.out; have := Hc.out; omega) (by have := HN.out; have := Hge.out; omega) Hh.out
        have Hjoin := Lib.hid hjoin
        have Hpc := Lib.hid hpc
        clear hjoin hpc h1 h2 hjl hq
        cases hpf : pieceF (ents nd) keep a q left hops with
        | error n =>
          have Hn := Lib.hid (errV_pos (pieceF_err hpf))
          rw [hpf] at hrn
          have Hrn := Lib.hid hrn
          have Hpf := Lib.hid hpf
          clear hrn hpf
          go_upto_region 4 with fail
          rw [← Hw1.out]
          go_wp2_with (first
            | (go_at_call 35; refine (Hjoin.out _).mono ?_; rintro r w5 ⟨rfl, rfl⟩)
            | (go_at_call 36; refine Hpc.out.mono ?_; rintro r w3 ⟨hb3, hr3⟩; rw [Hpf.out] at hr3; simp only [] at hr3; rw [Hn.out] at hr3; subst hr3
               have HB3 := Lib.hid hb3
               clear hb3))
          go_ret2
          refine ⟨Ht.out.bel.trans (HB3.out.to_below Ht.out.size (fun k hk => by rw [List.mem_singleton.1 hk]; exact Ht.out.wb)), ?_⟩
          rw [Hrn.out]
          show _ = Ending.returned (.tuple #[.string ⟨#[]⟩, errV n])
          rw [Hn.out]
          rfl
        | ok z =>
          cases z with
          | none =>
            have hqs := pieceF_end Hgood.out hpf
            rw [hpf] at hrn
            have Hrn := Lib.hid hrn
            have Hpf := Lib.hid hpf
            clear hrn hpf hqs
            go_upto_region 4 with fail
            rw [← Hw1.out]
            go_wp2_with (first
              | (go_at_call 35; refine (Hjoin.out _).mono ?_; rintro r w5 ⟨rfl, rfl⟩)
              | (go_at_call 36; refine Hpc.out.mono ?_; rintro r w3 ⟨hb3, hr3⟩; rw [Hpf.out] at hr3; simp only [] at hr3; obtain ⟨rfl, hk3⟩ := hr3
                 have H3 := Lib.hid (Ht.out.piece hb3 hk3 (Ht.out.la.but hb3 (fun b hb2 hx => Ht.out.out b hb2 (by rw [List.mem_singleton.1 hx]; exact List.mem_cons_self ..))) (.inl rfl))
                 clear hb3 hk3)
              | (first
          | (go_at_call 37; refine (told_any q _ H3.out.blk H3.out.st H3.out.size Hlen.out).mono ?_; rintro r w5 ⟨rfl, F', hb5, hs5, hf5⟩
             have H5 := Lib.hid (H3.out.told hb5 hs5 hf5)
             clear hb5 hs5 hf5)))
            go_ret2
            refine ⟨H5.out.bel, ?_⟩
            rw [Hrn.out]
            exact ⟨rfl, _, H5.out.st⟩
          | some z =>
            obtain ⟨a', left', hops'⟩ := z
            obtain ⟨e1, e2, e3, e4⟩ := pieceF_on Hgood.out Hh.out Ha.out (by omega) Hl2.out hpf
            rw [hpf] at hrn
            have Hrn := Lib.hid hrn
            have Hpf := Lib.hid hpf
            have E1 := Lib.hid e1
            have E2 := Lib.hid e2
            have E3 := Lib.hid e3
            have Hnd := Lib.hid e4
            clear hrn hpf e1 e2 e3 e4
            go_upto_region 4 with fail
            rw [← Hw1.out]
            go_wp2_with (first
              | (go_at_call 35; refine (Hjoin.out _).mono ?_; rintro r w5 ⟨rfl, rfl⟩)
              | (go_at_call 36; refine Hpc.out.mono ?_; rintro r w3 ⟨hb3, hr3⟩; rw [Hpf.out] at hr3; simp only [] at hr3; obtain ⟨rfl, o', cap', hk3, hl3, ho3⟩ := hr3
                 have h3 := Ht.out.piece hb3 hk3 hl3 ho3
                 obtain ⟨_, g1, _, _, _, _, _, _⟩ := walk_cells h3.blk
                 have H3 := Lib.hid h3
                 clear hb3 hk3 hl3 ho3 h3)
              | (first
          | (go_at_call 37; refine (told_any a' _ H3.out.blk H3.out.st H3.out.size Hlen.out).mono ?_; rintro r w5 ⟨rfl, F', hb5, hs5, hf5⟩
             have H5 := Lib.hid (H3.out.told hb5 hs5 hf5)
             clear hb5 hs5 hf5)))
            go_roundw
            case rel => exact ⟨_, _, _, _, _, _, _, H5.out, E2.out, E3.out, E1.out, by have := HN.out; have := Hnd.out; rw [List.length_append]; simp; omega, Hrn.out.symm⟩
            case measure =>
              rw [walkMeas_eq H5.out.blk, walkMeas_eq Hw.out.blk, needF_cons]
              have := Hnd.out
              omega
      · skip
        have ht := hW.tail
        have e1 : tailO ad cap = some ⟨ad.block, ad.off + 1, none⟩ := by unfold tailO; rw [if_neg hcap]; rfl
        rw [e1] at ht
        skip
        obtain ⟨w1, hw1⟩ : ∃ x, x = wr.setCell ⟨Wk, 2, none⟩ (.slice (some ⟨ad.block, ad.off + 1, none⟩) left.length (cap - 1)) := ⟨_, rfl⟩
        rw [← hw1] at ht
        obtain ⟨d0, d1, _, _, _, _, _, _⟩ := walk_cells ht.blk
        have df1 := walk_frozen ht.blk 1
        have Hw := Lib.hid hW
        have Ht := Lib.hid ht
        have HR := Lib.hid hR
        have Hl2 := Lib.hid hl2
        have Hlen := Lib.hid (show tr.length ≤ 1099511627776 by omega)
        have HN := Lib.hid hN
        have Hw1 := Lib.hid hw1
        have Hh := Lib.hid hh
        have Ha := Lib.hid ha
        have Hc := Lib.hid hc40
        have Hge := Lib.hid hnd
        clear hW ht hR hl2 hN hw1 hh ha hc40 hnd hl e1
        by_cases h1 : c = [46]
        · subst h1
          have b1 : ((bs [46]).toList == [46]) = true := eqB_t (by rw [bs_toList])
          have Hnd := Lib.hid (Nat.le_refl (needF left.length hops))
          go_upto_region 4 with fail
          rw [← Hw1.out]
          go_wp2_with (first
          | (go_at_call 37; refine (told_any a _ Ht.out.blk Ht.out.st Ht.out.size Hlen.out).mono ?_; rintro r w5 ⟨rfl, F', hb5, hs5, hf5⟩
             have H5 := Lib.hid (Ht.out.told hb5 hs5 hf5)
             clear hb5 hs5 hf5))
          go_roundw
          case rel => exact ⟨_, _, _, _, _, _, _, H5.out, Ha.out, Hl2.out, Hh.out, by have := HN.out; rw [List.length_append]; simp; omega, by rw [← HR.out, runF_dot]⟩
          case measure =>
            rw [walkMeas_eq H5.out.blk, walkMeas_eq Hw.out.blk, needF_cons]
            have := Hnd.out
            omega
        by_cases h2 : c = [46, 46]
        · subst h2
          have b1 : ((bs [46, 46]).toList == [46]) = false := eqB_f (by rw [bs_toList]; decide)
          have b2 : ((bs [46, 46]).toList == [46, 46]) = true := eqB_t (by rw [bs_toList])
          have hpar := fun W => parent_any (bs a) W (by rw [bs_size]; have := Ha.out; omega)
          rw [bs_toList] at hpar
          have Hpar := Lib.hid hpar
          have Hnd := Lib.hid (Nat.le_refl (needF left.length hops))
          have Ht2 := Lib.hid (Ht.out.setAt (parent a))
          obtain ⟨w2, hw2⟩ : ∃ x, x = w1.setCell ⟨Wk, 1, none⟩ (.string (bs (parent a))) := ⟨_, rfl⟩
          rw [← hw2] at Ht2
          obtain ⟨_, g1, _, _, _, _, _, _⟩ := walk_cells Ht2.out.blk
          have Hw2 := Lib.hid hw2
          clear hpar hw2
          go_upto_region 4 with fail
          rw [← Hw1.out]
          go_upto_region 15 with (go_at_call 34; refine (Hpar.out _).mono ?_; rintro r w5 ⟨rfl, rfl⟩)
          rw [← Hw2.out]
          go_wp2_with (first
          | (go_at_call 37; refine (told_any (parent a) _ Ht2.out.blk Ht2.out.st Ht2.out.size Hlen.out).mono ?_; rintro r w5 ⟨rfl, F', hb5, hs5, hf5⟩
             have H5 := Lib.hid (Ht2.out.told hb5 hs5 hf5)
             clear hb5 hs5 hf5))
          go_roundw
          case rel => exact ⟨_, _, _, _, _, _, _, H5.out, Nat.le_trans (parent_length a) Ha.out, Hl2.out, Hh.out, by have := HN.out; rw [List.length_append]; simp; omega, by rw [← HR.out, runF_up]⟩
          case measure =>
            rw [walkMeas_eq H5.out.blk, walkMeas_eq Hw.out.blk, needF_cons]
            have := Hnd.out
            omega
        have b1 : ((bs c).toList == [46]) = false := eqB_f (by rw [bs_toList]; exact h1)
        have b2 : ((bs c).toList == [46, 46]) = false := eqB_f (by rw [bs_toList]; exact h2)
        have hrn := runF_name Hgood.out (keep := keep) (a := a) (tr := tr) (left := left) Hh.out h1 h2
        rw [HR.out] at hrn
        have hjl := joinP_length a c
        obtain ⟨q, hq⟩ : ∃ q, q = joinP a c := ⟨_, rfl⟩
        rw [← hq] at hrn hjl
        have hjoin := fun W => join_any (bs a) (bs c) W (by rw [bs_size, bs_size]; have := Ha.out; have := Hc.out; omega)
        rw [bs_toList, bs_toList, ← hq] at hjoin
        have hpc := piece_any (bs c) q w1 Ht.out.tree Ht.out.blk Ht.out.la (fun e => Ht.out.out _ rfl (by rw [e]; exact List.mem_cons_self ..)) (by have := Ha.out; have := Hc.out; omega) (by have := HN.out; have := Hge.out; omega) Hh.out
        have Hjoin := Lib.hid hjoin
        have Hpc := Lib.hid hpc
        clear hjoin hpc h1 h2 hjl hq
        cases hpf : pieceF (ents nd) keep a q left hops with
        | error n =>
          have Hn := Lib.hid (errV_pos (pieceF_err hpf))
          rw [hpf] at hrn
          have Hrn := Lib.hid hrn
          have Hpf := Lib.hid hpf
          clear hrn hpf
          go_upto_region 4 with fail
          rw [← Hw1.out]
          go_wp2_with (first
            | (go_at_call 35; refine (Hjoin.out _).mono ?_; rintro r w5 ⟨rfl, rfl⟩)
            | (go_at_call 36; refine Hpc.out.mono ?_; rintro r w3 ⟨hb3, hr3⟩; rw [Hpf.out] at hr3; simp only [] at hr3; rw [Hn.out] at hr3; subst hr3
               have HB3 := Lib.hid hb3
               clear hb3))
          go_ret2
          refine ⟨Ht.out.bel.trans (HB3.out.to_below Ht.out.size (fun k hk => by rw [List.mem_singleton.1 hk]; exact Ht.out.wb)), ?_⟩
          rw [Hrn.out]
          show _ = Ending.returned (.tuple #[.string ⟨#[]⟩, errV n])
          rw [Hn.out]
          rfl
        | ok z =>
          cases z with
          | none =>
            have hqs := pieceF_end Hgood.out hpf
            rw [hpf] at hrn
            have Hrn := Lib.hid hrn
            have Hpf := Lib.hid hpf
            clear hrn hpf hqs
            go_upto_region 4 with fail
            rw [← Hw1.out]
            go_wp2_with (first
              | (go_at_call 35; refine (Hjoin.out _).mono ?_; rintro r w5 ⟨rfl, rfl⟩)
              | (go_at_call 36; refine Hpc.out.mono ?_; rintro r w3 ⟨hb3, hr3⟩; rw [Hpf.out] at hr3; simp only [] at hr3; obtain ⟨rfl, hk3⟩ := hr3
                 have H3 := Lib.hid (Ht.out.piece hb3 hk3 (Ht.out.la.but hb3 (fun b hb2 hx => Ht.out.out b hb2 (by rw [List.mem_singleton.1 hx]; exact List.mem_cons_self ..))) (.inl rfl))
                 clear hb3 hk3)
              | (first
          | (go_at_call 37; refine (told_any q _ H3.out.blk H3.out.st H3.out.size Hlen.out).mono ?_; rintro r w5 ⟨rfl, F', hb5, hs5, hf5⟩
             have H5 := Lib.hid (H3.out.told hb5 hs5 hf5)
             clear hb5 hs5 hf5)))
            go_ret2
            refine ⟨H5.out.bel, ?_⟩
            rw [Hrn.out]
            exact ⟨rfl, _, H5.out.st⟩
          | some z =>
            obtain ⟨a', left', hops'⟩ := z
            obtain ⟨e1, e2, e3, e4⟩ := pieceF_on Hgood.out Hh.out Ha.out (by omega) Hl2.out hpf
            rw [hpf] at hrn
            have Hrn := Lib.hid hrn
            have Hpf := Lib.hid hpf
            have E1 := Lib.hid e1
            have E2 := Lib.hid e2
            have E3 := Lib.hid e3
            have Hnd := Lib.hid e4
            clear hrn hpf e1 e2 e3 e4
            go_upto_region 4 with fail
            rw [← Hw1.out]
            go_wp2_with (first
              | (go_at_call 35; refine (Hjoin.out _).mono ?_; rintro r w5 ⟨rfl, rfl⟩)
              | (go_at_call 36; refine Hpc.out.mono ?_; rintro r w3 ⟨hb3, hr3⟩; rw [Hpf.out] at hr3; simp only [] at hr3; obtain ⟨rfl, o', cap', hk3, hl3, ho3⟩ := hr3
                 have h3 := Ht.out.piece hb3 hk3 hl3 ho3
                 obtain ⟨_, g1, _, _, _, _, _, _⟩ := walk_cells h3.blk
                 have H3 := Lib.hid h3
                 clear hb3 hk3 hl3 ho3 h3)
              | (first
          | (go_at_call 37; refine (told_any a' _ H3.out.blk H3.out.st H3.out.size Hlen.out).mono ?_; rintro r w5 ⟨rfl, F', hb5, hs5, hf5⟩
             have H5 := Lib.hid (H3.out.told hb5 hs5 hf5)
             clear hb5 hs5 hf5)))
            go_roundw
            case rel => exact ⟨_, _, _, _, _, _, _, H5.out, E2.out, E3.out, E1.out, by have := HN.out; have := Hnd.out; rw [List.length_append]; simp; omega, Hrn.out.symm⟩
            case measure =>
              rw [walkMeas_eq H5.out.blk, walkMeas_eq Hw.out.blk, needF_cons]
              have := Hnd.out
              omega
end
section
open Go.RowKit Go.Shelf Go.Maps
open Go.Lib hiding intOf size_eq
/-- what Find answers -/
def FindR (w : World) (L : List Ent) (keep : Bool) (way : List UInt8) (r : Ending) (w' : World) : Prop :=
  Below w.heap.size w w' ∧ match wayF L keep way with
    | .error n => r = .returned (.tuple #[.string ⟨#[]⟩, errV n])
    | .ok (p, _) => r = .returned (.tuple #[.string (bs p), .nilIface])
/-- what Trail answers -/
def TrailR (w : World) (L : List Ent) (way : List UInt8) (r : Ending) (w' : World) : Prop :=
  Below w.heap.size w w' ∧ match wayF L false way with
    | .error n => r = .returned (.tuple #[.slice none 0 0, errV n])
    | .ok (_, t) => ∃ v, r = .returned (.tuple #[v, .nilIface]) ∧ Texts w' w.heap.size v t
theorem pieces_count (s : ByteArray) : (pieces s.data.toList).length ≤ s.size + 1 := by
  have h1 := weight_length (pieces s.data.toList)
  have h2 := weight_pieces s.data.toList
  rw [← Lib.size_eq] at h2
  omega
theorem wayF_err {L : List Ent} {keep : Bool} {way : List UInt8} {n : Nat} (h : wayF L keep way = .error n) : n ≠ 0 := by
  have := runF_errs _ _ _ _ _ _ h
  omega
/-- a walk begins -/
theorem walk_start {w w1 : World} {T rt rm tb cap : Nat} {nd : List Nd} {keep : Bool} {sv : Value} {F : List Nat} {o : Option Addr} (s : ByteArray) (ht : TreeAt w T rt rm tb nd) (hs : s.size ≤ 4294967296) (hla : LeftA w1 o cap (pieces s.data.toList)) (hb : Below w.heap.size w w1)
    (hst : StepAt w1 w.heap.size sv [[]] F) (hoF : OutOf F o) : RunI w w.heap.size w1.heap.size T rt rm tb nd keep sv (wayF (ents nd) keep s.data.toList) (w1.alloc (walkObj T ⟨#[]⟩ (.slice o (pieces s.data.toList).length cap) (0 : Nat) keep sv)) := by
  refine ⟨[], pieces s.data.toList, 0, [[]], F, o, cap, ⟨?_, ?_, ?_, ?_, ?_, hb.size, hb.alloc hb.size _, Nat.le_refl _, (ht.below hb (Nat.le_refl _)).alloc _, fun b hx => ht.lt hx⟩, by simp, fun c hc => ?_, by omega, ?_, rfl⟩
  · exact World.alloc_heap_new w1 _
  · exact hla.but ((But.refl F w1).alloc _) hoF
  · intro a ha hx
    rcases List.mem_cons.1 hx with hx | hx
    · have := hla.lt a ha
      omega
    · exact hoF a ha hx
  · intro hx
    have := hst.lt _ hx
    omega
  · exact hst.but ((But.refl [] w1).alloc _) (fun k _ hx => by cases hx)
  · have h1 := pieces_long hc
    have : s.data.toList.length = s.size := rfl
    omega
  · have := pieces_count s
    unfold needF
    simp
    omega
set_option maxRecDepth 100000 in
set_option maxHeartbeats 4000000 in
theorem find_way {T rt rm tb : Nat} {nd : List Nd} (s : ByteArray) (last : Bool) (w : World) (ht : TreeAt w T rt rm tb nd) (hs : s.size ≤ 4294967296) :
    Calls Tryz.prog 7 #[.pointer (some ⟨T, 0, none⟩), .string s, .bool last] w fun r w' => FindR w (ents nd) (!last) s.data.toList r w' := by
  have Hp := Lib.hid (pieces_any s w (by omega))
  have Ht := Lib.hid ht
  have Hs := Lib.hid hs
  obtain ⟨n, hn⟩ : ∃ n, n = (pieces s.data.toList).length := ⟨_, rfl⟩
  have Hn := Lib.hid hn
  obtain ⟨keep, hk⟩ : ∃ k, k = !last := ⟨_, rfl⟩
  rw [← hk]
  have Hk := Lib.hid hk
  clear ht hs hn hk
  go_enter Tryz.func7, Tryz.ntmps7
  go_upto_region 2 with (first
    | (go_at_call 18; refine Hp.out.mono ?_; rintro r w1 ⟨v, rfl, htx, hb⟩; obtain ⟨o, cap, rfl, hla, hlo⟩ := left_of_texts htx; rw [← Hn.out]
       have hst := walk_start (keep := keep) (sv := .nilFunc) (F := []) s Ht.out Hs.out hla hb (.inl ⟨rfl, rfl⟩) (fun _ _ hx => by cases hx)
       rw [← Hn.out] at hst
       have Hst := Lib.hid hst
       have HB := Lib.hid hb
       clear htx hb hla hlo hst))
  rw [← Hk.out]
  have hrun := run_any _ Ht.out.good Hst.out
  have Hrun := Lib.hid hrun
  clear hrun
  cases hw : wayF (ents nd) keep s.data.toList with
  | error m =>
    rw [hw] at Hrun
    have He := Lib.hid (errV_pos (wayF_err hw))
    have Hw := Lib.hid hw
    clear hw
    go_wp2_with (go_at_call 20; refine Hrun.out.mono ?_; rintro r w2 ⟨hb, hr⟩; simp only [] at hr; rw [He.out] at hr; subst hr
                 have HB2 := Lib.hid hb
                 clear hb)
    go_ret2
    refine ⟨HB2.out, ?_⟩
    rw [Hw.out]
    show _ = Ending.returned (.tuple #[.string ⟨#[]⟩, errV m])
    rw [He.out]
    rfl
  | ok z =>
    obtain ⟨p, t⟩ := z
    rw [hw] at Hrun
    have Hw := Lib.hid hw
    clear hw
    go_wp2_with (go_at_call 20; refine Hrun.out.mono ?_; rintro r w2 ⟨hb, hr⟩; obtain ⟨rfl, _⟩ := hr
                 have HB2 := Lib.hid hb
                 clear hb)
    go_ret2
    refine ⟨HB2.out, ?_⟩
    rw [Hw.out]
    rfl
end
end Go.Proofs.YtdkodedocklmdaaGreat
