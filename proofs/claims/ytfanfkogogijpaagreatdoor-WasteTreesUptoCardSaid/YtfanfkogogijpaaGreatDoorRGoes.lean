/- The walk (RWalk, RTold, RLink, RPiece, RRunA, RRun, RFind). -/
import Derived.Test.YtfanfkogogijpaaGreatDoorRPieces
import Derived.Test.YtfanfkogogijpaaGreatDoorTReach
import Derived.Test.YtfanfkogogijpaaGreatDoorRPlain
import Derived.Test.YtfanfkogogijpaaGreatDoorTItself
import Derived.Deep.RegionLaw
import Derived.Deep.DeepCutAuto
set_option linter.unusedSimpArgs false
set_option linter.unusedVariables false
namespace Go.Proofs.YtfanfkogogijpaaGreatDoor
section
open Go.RowKit Go.Shelf
open Go.Lib hiding intOf
/-- all that lay in w lies in W as it lay, but for these blocks -/
structure But (ex : List Nat) (w W : World) : Prop where
  os : W.os = w.os
  tape : W.tape = w.tape
  output : W.output = w.output
  size : w.heap.size ≤ W.heap.size
  block : ∀ k, k < w.heap.size → k ∉ ex → W.heap[k]? = w.heap[k]?
theorem But.refl (ex : List Nat) (w : World) : But ex w w := ⟨rfl, rfl, rfl, Nat.le_refl _, fun _ _ _ => rfl⟩
theorem But.trans {ex ex2 : List Nat} {a b c : World} (h : But ex a b) (k : But ex2 b c) (he : ∀ i, i ∈ ex2 → i ∈ ex ∨ a.heap.size ≤ i) : But ex a c :=
  ⟨k.os.trans h.os, k.tape.trans h.tape, k.output.trans h.output, Nat.le_trans h.size k.size, fun i hi hn => (k.block i (Nat.lt_of_lt_of_le hi h.size) (fun e => (he i e).elim hn (fun e2 => by omega))).trans (h.block i hi hn)⟩
theorem But.mono {ex ex2 : List Nat} {a b : World} (h : But ex a b) (he : ∀ i, i ∈ ex → i ∈ ex2) : But ex2 a b := ⟨h.os, h.tape, h.output, h.size, fun i hi hn => h.block i hi (fun e => hn (he i e))⟩
theorem But.alloc {ex : List Nat} {w W : World} (h : But ex w W) (o : Obj) : But ex w (W.alloc o) :=
  ⟨h.os, h.tape, h.output, Nat.le_trans h.size (by simp), fun k hk hn => (heap_alloc_old W o (Nat.lt_of_lt_of_le hk h.size)).trans (h.block k hk hn)⟩
theorem But.setCell {ex : List Nat} {w W : World} (h : But ex w W) {p : Addr} (hp : p.block ∈ ex ∨ w.heap.size ≤ p.block) (v : Value) : But ex w (W.setCell p v) :=
  ⟨h.os, h.tape, h.output, Nat.le_trans h.size (by simp), fun k hk hn => (heap_setCell_other W p k v (fun e => hp.elim (fun x => hn (by rw [e]; exact x)) (fun x => by omega))).trans (h.block k hk hn)⟩
theorem But.below {ex : List Nat} {w W W' : World} (h : But ex w W) (hb : Below W.heap.size W W') : But ex w W' :=
  ⟨hb.os.trans h.os, hb.tape.trans h.tape, hb.output.trans h.output, Nat.le_trans h.size hb.size, fun k hk hn => (hb.block k (Nat.lt_of_lt_of_le hk h.size)).trans (h.block k hk hn)⟩
theorem But.grown {ex : List Nat} {w W W' : World} {row : Option Nat} (h : But ex w W) (hg : W.grownBy W' row) (hr : ∀ k, row = some k → k ∈ ex ∨ w.heap.size ≤ k) : But ex w W' :=
  ⟨hg.os.trans h.os, hg.tape.trans h.tape, hg.output.trans h.output, Nat.le_trans h.size hg.size, fun k hk hn => (hg.block k (Nat.lt_of_lt_of_le hk h.size) (fun e => (hr k e.symm).elim hn (fun x => by omega))).trans (h.block k hk hn)⟩
theorem But.drewN {ex : List Nat} {w W : World} (h : But ex w W) (n : Nat) : But ex w (W.drewN n) := ⟨h.os, h.tape, h.output, h.size, h.block⟩
theorem But.drew {ex : List Nat} {w W : World} (h : But ex w W) : But ex w W.drew := ⟨h.os, h.tape, h.output, h.size, h.block⟩
theorem But.to_below {ex : List Nat} {w W : World} {B : Nat} (h : But ex w W) (hB : B ≤ w.heap.size) (he : ∀ k ∈ ex, B ≤ k) : Below B w W :=
  ⟨h.os, h.tape, h.output, h.size, fun k hk => h.block k (by omega) (fun e => by have := he k e; omega)⟩
/-- a slice of texts, at whatever offset -/
structure LeftA (w : World) (o : Option Addr) (cap : Nat) (L : List (List UInt8)) : Prop where
  le : L.length ≤ cap
  max : cap ≤ maxLen
  lt : ∀ a, o = some a → a.block < w.heap.size
  cell : ∀ (i : Nat) x, L[i]? = some x → ∃ a, o = some a ∧ w.cell? (a.add i) = some (encS x)
def OutOf (ex : List Nat) (o : Option Addr) : Prop := ∀ a, o = some a → a.block ∉ ex
theorem LeftA.but {w W : World} {o : Option Addr} {cap : Nat} {L : List (List UInt8)} {ex : List Nat} (h : LeftA w o cap L) (hb : But ex w W) (ho : OutOf ex o) : LeftA W o cap L := by
  refine ⟨h.le, h.max, fun a ha => Nat.lt_of_lt_of_le (h.lt a ha) hb.size, fun i x hx => ?_⟩
  obtain ⟨a, ha, hc⟩ := h.cell i x hx
  refine ⟨a, ha, ?_⟩
  have hk := hb.block a.block (h.lt a ha) (ho a ha)
  unfold World.cell? at hc ⊢
  rw [add_block] at hc ⊢
  rw [hk]
  exact hc
theorem add_zero (a : Addr) : a.add 0 = a := by unfold Addr.add; simp
theorem add_add (a : Addr) (i j : Nat) : (a.add i).add j = a.add (i + j) := by
  unfold Addr.add
  by_cases hi : i = 0 <;> by_cases hj : j = 0 <;> simp [hi, hj, Nat.add_assoc]
theorem LeftA.tail {w : World} {a : Addr} {cap : Nat} {x : List UInt8} {L : List (List UInt8)} (h : LeftA w (some a) cap (x :: L)) : LeftA w (some (a.add 1)) (cap - 1) L := by
  have h1 := h.le
  have h2 := h.max
  simp at h1
  refine ⟨by omega, by omega, fun b hb => ?_, fun i y hy => ?_⟩
  · injection hb with hb
    subst hb
    rw [add_block]
    exact h.lt a rfl
  · obtain ⟨b, hb, hc⟩ := h.cell (i + 1) y (by simpa using hy)
    injection hb with hb
    subst hb
    exact ⟨_, rfl, by rw [add_add, Nat.add_comm 1 i]; exact hc⟩
theorem left_of_texts {w : World} {base : Nat} {v : Value} {L : List (List UInt8)} (h : Texts w base v L) : ∃ o cap, v = .slice o L.length cap ∧ LeftA w o cap L ∧ ∀ a, o = some a → base ≤ a.block := by
  have hx := h
  obtain ⟨h1, h2⟩ := hx
  rcases h2 with ⟨rfl, h0⟩ | ⟨g, cap, cur, rfl, hb, hg, hcap, hmx, h3⟩
  · obtain rfl : L = [] := List.eq_nil_of_length_eq_zero h0
    exact ⟨none, 0, rfl, ⟨Nat.le_refl _, by simp, fun a ha => (by cases ha), fun i x hx => (by simp at hx)⟩, fun a ha => (by cases ha)⟩
  · refine ⟨_, cap, rfl, ⟨hcap, hmx, fun a ha => ?_, fun i x hx => ⟨_, rfl, ?_⟩⟩, fun a ha => ?_⟩
    · injection ha with ha; subst ha
      exact (Array.getElem?_eq_some_iff.1 hg).1
    · have hlt : i < L.length := (List.getElem?_eq_some_iff.1 hx).1
      have := World.ownsRow.cellAt h i (by simpa using hlt)
      rw [List.getElem?_map, hx] at this
      have e : (⟨g, 0, none⟩ : Addr).add i = ⟨g, i, none⟩ := by unfold Addr.add; split <;> simp_all
      rw [e]
      exact this
    · injection ha with ha; subst ha; exact hb
end
section
open Go.RowKit Go.Shelf Go.Maps
open Go.Lib hiding intOf size_eq
theorem own_list {v v' : Value} {n : Nat} (h : v'.ownBlock = v.ownBlock ∨ v'.ownBlock = some n) {k : Nat} (hk : k ∈ v'.ownBlock.toList) : k ∈ v.ownBlock.toList ∨ k = n := by
  rcases h with h | h
  · exact .inl (by rw [← h]; exact hk)
  · rw [h] at hk
    exact .inr (by simpa using hk)
end
section
open Go.RowKit Go.Shelf Go.Maps
open Go.Lib hiding intOf size_eq
theorem step_append_own {P : Program} {w : World} {ops : Array Oper} {o : Oper} {a : Act} {K : Act → World → Prop} {Q : Exit → Act → World → Prop} {X : Prop} (hgd : o.guard = none) (s x : Operand) (t : TypeId)
    (ho : o.op = .call { callee := .builtin .append, args := #[s, x], argTypes := #[t, t] })
    (base : Nat) (e : TypeId) (i : TypeInfo) (z : Value) (size bytes : Nat) (ht : P.underlying t = some (.slice e)) (hi : P.info? e = some i) (hz : i.zero = some z)
    (hsize : i.size = size) (hby : i.bytes = bytes) (hzs : z.cells.size = size) (hsz : 0 < size)
    (v : Value) (n : Nat) (xs : List Value) (hs : a.eval s = v) (hown : w.ownsRow base e size v n xs)
    (ad : Addr) (m c : Nat) (news : List Value) (hx : a.eval x = .slice (some ad) m c) (hl : news.length = m * size) (hnews : ∀ j u, news[j]? = some u → w.cell? (ad.add j) = some u) (h1 : ∀ u ∈ news, u.oneCell' = true)
    (h63 : n + m ≤ maxLen) (hbytes : (n + m) * bytes ≤ 140737488355328) (hbase : base ≤ w.heap.size)
    (h : ∀ v' w', w'.ownsRow base e size v' (n + m) (xs ++ news) → w.grownBy w' v.ownBlock → (v' = .slice none 0 0 ↔ v = .slice none 0 0 ∧ m = 0) → K (a.put o.dst v') w') :
    if Region.wanted o (yielded ops a.tmps) = true then Oper.wp P o a w K Q else X := by
  have hwt : Region.wanted o (yielded ops a.tmps) = true := by simp [Region.wanted, hgd]
  rw [if_pos hwt]
  obtain ⟨v', w', hr, h2, h3, h4, h5⟩ := run_append_own_at (P := P) w base t o.type e i z size bytes ht hi hz hsize hby hzs hsz v n xs hown ad m c news hl hnews h1 h63 hbytes hbase
  unfold Oper.wp execOp
  simp only [ho, resolve, invoke, builtin, Sem.run_bind, Sem.run_pure, Result.andThen_ok, List.map_toArray, List.map_cons, List.map_nil, hs, hx, hr]
  exact h v' w' h2 h3 h4
/-- what a link makes of a walk's place -/
def linkB (a t : ByteArray) : ByteArray := if t.data.toList.head? = some 47 then emp else a
theorem head_byte {t : ByteArray} (h : 0 < t.size) : t.data.toList.head? = some (t[0]'h) := by
  obtain ⟨⟨l⟩⟩ := t
  cases l with
  | nil => exact absurd (show 0 < 0 from h) (by omega)
  | cons x r => rfl
end
section
open Go.RowKit Go.Shelf Go.Maps
open Go.Lib hiding intOf size_eq
theorem link_bs (a : List UInt8) (e : Ent) : linkB (bs a) e.l = bs (linkAt a e) := by
  unfold linkB linkAt
  split
  · rfl
  · rfl
end
section
open Go.RowKit Go.Shelf Go.Maps
open Go.Lib hiding intOf size_eq
/-- where left begins behind its first piece -/
def tailO (ad : Addr) (cap : Nat) : Option Addr := if cap = 1 then some ad else some (ad.add 1)
theorem tailO_some (ad : Addr) (cap : Nat) : ∃ b, tailO ad cap = some b ∧ b.block = ad.block := by
  unfold tailO
  split
  · exact ⟨_, rfl, rfl⟩
  · exact ⟨_, rfl, add_block _ _⟩
/-- what is left to go -/
def walkMeas (Wk : Nat) (w : World) : Nat := match w.cell? ⟨Wk, 2, none⟩, w.cell? ⟨Wk, 3, none⟩ with
  | some (.slice _ n _), some (.int _ h) => needF n h.toNat
  | _, _ => 0
theorem needF_ge (n hops : Nat) : n + 1 ≤ needF n hops := by unfold needF; omega
theorem parent_length (a : List UInt8) : (parent a).length ≤ a.length := by unfold parent; simp; omega
theorem joinP_length (a c : List UInt8) : (joinP a c).length ≤ a.length + 1 + c.length := by
  unfold joinP
  split <;> simp <;> omega
theorem pieceF_err {L : List Ent} {keep : Bool} {a q : List UInt8} {left : List (List UInt8)} {hops n : Nat} (h : pieceF L keep a q left hops = .error n) : n ≠ 0 := by
  unfold pieceF at h
  cases hq : lookE L q with
  | none => rw [hq] at h; injection h with h; omega
  | some e =>
    rw [hq] at h
    simp only [] at h
    split at h
    · cases h
    split at h
    · split at h
      · injection h with h; omega
      · cases h
    split at h
    · cases h
    split at h
    · injection h with h; omega
    · cases h
end
section
open Go.RowKit Go.Shelf Go.Maps
open Go.Lib hiding intOf size_eq
end
section
open Go.RowKit Go.Shelf Go.Maps
open Go.Lib hiding intOf size_eq
/-- what Find answers -/
def FindR (w : World) (L : List Ent) (keep : Bool) (way : List UInt8) (r : Ending) (w' : World) : Prop :=
  Below w.heap.size w w' ∧ match wayF L keep way with
    | .error n => r = .returned (.tuple #[.string ⟨#[]⟩, errV n])
    | .ok (p, _) => r = .returned (.tuple #[.string (bs p), .nilIface])
/-- what Trail answers -/
def TrailR (w : World) (L : List Ent) (way : List UInt8) (r : Ending) (w' : World) : Prop :=
  Below w.heap.size w w' ∧ match wayF L false way with
    | .error n => r = .returned (.tuple #[.slice none 0 0, errV n])
    | .ok (_, t) => ∃ v, r = .returned (.tuple #[v, .nilIface]) ∧ Texts w' w.heap.size v t
theorem pieces_count (s : ByteArray) : (pieces s.data.toList).length ≤ s.size + 1 := by
  have h1 := weight_length (pieces s.data.toList)
  have h2 := weight_pieces s.data.toList
  rw [← Lib.size_eq] at h2
  omega
theorem wayF_err {L : List Ent} {keep : Bool} {way : List UInt8} {n : Nat} (h : wayF L keep way = .error n) : n ≠ 0 := by
  have := runF_errs _ _ _ _ _ _ h
  omega
end
end Go.Proofs.YtfanfkogogijpaaGreatDoor
