/- The reference's walk (SVal, SAt, SFoll, SStep, SName, SArm, SLink, SRound, SGoA, SGo, SFind, SSame). -/
import Derived.Test.YtdkodedocklmdaaGreatTListed
import Derived.Test.YtdkodedocklmdaaGreatRPlain
import Derived.Test.YtdkodedocklmdaaGreatTOf
import Derived.Test.YtdkodedocklmdaaGreatRGoes
import Derived.Test.YtdkodedocklmdaaGreatSmall
import Derived.StillTailTactics
import Derived.Laws.StructEq
set_option linter.unusedSimpArgs false
set_option linter.unusedVariables false
namespace Go.Proofs.YtdkodedocklmdaaGreat
section
open Go.RowKit Go.Maps Go.Shelf
open Go.Lib hiding intOf size_eq
/-- a walk as a value -/
def walkV (oa : Option Addr) (tn tc : Nat) (st : ByteArray) (lo : Option Addr) (ln lc : Nat) (hops : Int) (ro : Option Addr) (rn rc : Nat) (dn : Bool) (an : ByteArray) (no : Int) : Value :=
  .agg #[.slice oa tn tc, .string st, .slice lo ln lc, .int .i64 hops, .slice ro rn rc, .bool dn, .string an, .int .i64 no]
end
section
open Go.RowKit Go.Maps Go.Shelf
open Go.Lib hiding intOf size_eq
/-- the index of the entry at a path, or -1 -/
def atIx (L : List Ent) (q : List UInt8) : Int := match L.findIdx? (fun y => y.path == q) with
  | none => -1
  | some i => (i : Int)
theorem atIx_none {L : List Ent} {q : List UInt8} (h : ∀ e ∈ L, e.path ≠ q) : atIx L q = -1 := by
  have : L.findIdx? (fun y => y.path == q) = none := by
    rw [List.findIdx?_eq_none_iff]
    intro e he
    simp [h e he]
  unfold atIx
  rw [this]
theorem atIx_some {L : List Ent} {q : List UInt8} {k : Nat} {e : Ent} (hk : L[k]? = some e) (hq : e.path = q) (h : ∀ j x, j < k → L[j]? = some x → x.path ≠ q) : atIx L q = (k : Int) := by
  obtain ⟨hlt, hge⟩ := List.getElem?_eq_some_iff.1 hk
  have : L.findIdx? (fun y => y.path == q) = some k := by
    rw [List.findIdx?_eq_some_iff_getElem]
    refine ⟨hlt, by rw [hge]; simp [hq], fun j hj => ?_⟩
    have := h j _ hj (List.getElem?_eq_getElem (by omega))
    simpa using this
  unfold atIx
  rw [this]
theorem atIx_look {L : List Ent} {q : List UInt8} {e : Ent} (h : lookE L q = some e) : ∃ k : Nat, atIx L q = (k : Int) ∧ L[k]? = some e := by
  unfold lookE at h
  rw [List.find?_eq_some_iff_getElem] at h
  obtain ⟨hp, i, hi, hge, hn⟩ := h
  refine ⟨i, atIx_some (List.getElem?_eq_some_iff.2 ⟨hi, hge⟩) (by simpa using hp) fun j x hj hx => ?_, List.getElem?_eq_some_iff.2 ⟨hi, hge⟩⟩
  obtain ⟨h1, rfl⟩ := List.getElem?_eq_some_iff.1 hx
  simpa using hn j hj
theorem atIx_miss {L : List Ent} {q : List UInt8} (h : lookE L q = none) : atIx L q = -1 := atIx_none fun e he hp => by
  unfold lookE at h
  rw [List.find?_eq_none] at h
  exact h e he (by simp [hp])
end
section
open Go.RowKit Go.Maps Go.Shelf
open Go.Lib hiding intOf size_eq
/-- the cells of a walk's value -/
def walkC (oa : Option Addr) (tn tc : Nat) (st : ByteArray) (lo : Option Addr) (ln lc : Nat) (hops : Int) (ro : Option Addr) (rn rc : Nat) (dn : Bool) (an : ByteArray) (no : Int) : Array Value :=
  #[.slice oa tn tc, .string st, .slice lo ln lc, .int .i64 hops, .slice ro rn rc, .bool dn, .string an, .int .i64 no]
def walkZ : Array Value := walkC none 0 0 ⟨#[]⟩ none 0 0 0 none 0 0 false ⟨#[]⟩ 0
theorem LeftA.below {w W : World} {o : Option Addr} {cap : Nat} {L : List (List UInt8)} {B : Nat} (h : LeftA w o cap L) (hb : Below B w W) (hB : w.heap.size ≤ B) : LeftA W o cap L :=
  h.but (ex := []) ⟨hb.os, hb.tape, hb.output, hb.size, fun k hk _ => hb.block k (by omega)⟩ (fun a _ => by simp)
theorem below_rowSet {B g : Nat} {w W : World} (h : Below B w W) (hg : B ≤ g) (cs : Array Value) : Below B w (W.setRow g cs) :=
  ⟨h.os, h.tape, h.output, Nat.le_trans h.size (by simp [World.setRow]), fun k hk => (setRow_other W g k cs (by omega)).trans (h.block k hk)⟩
theorem LeftA.rowSet {W : World} {o : Option Addr} {cap : Nat} {L : List (List UInt8)} (h : LeftA W o cap L) (g : Nat) (cs : Array Value) (ho : ∀ a, o = some a → a.block ≠ g) : LeftA (W.setRow g cs) o cap L :=
  h.but (ex := [g]) ⟨rfl, rfl, rfl, by simp [World.setRow], fun k hk hn => setRow_other W g k cs (by simpa using hn)⟩ (fun a ha => by simpa using ho a ha)
theorem LeftA.cellSet {W : World} {o : Option Addr} {cap : Nat} {L : List (List UInt8)} (h : LeftA W o cap L) (p : Addr) (v : Value) (ho : ∀ a, o = some a → a.block ≠ p.block) : LeftA (W.setCell p v) o cap L :=
  h.but (ex := [p.block]) ((But.refl _ W).setCell (.inl (List.mem_singleton.2 rfl)) v) (fun a ha => by simpa using ho a ha)
theorem first_byte {t : ByteArray} (h : 0 < t.size) : (t.extract 0 1).toList = [t[0]'h] := by
  rw [toList_data]
  obtain ⟨⟨l⟩⟩ := t
  cases l with
  | nil => exact absurd (show 0 < 0 from h) (by omega)
  | cons x r =>
    simp [ByteArray.extract, ByteArray.copySlice]
    rfl
theorem link_cases {t : ByteArray} (st : ByteArray) (h : 0 < t.size) : (((t.extract 0 1).toList == [47]) = true ∧ linkB st t = (⟨#[]⟩ : ByteArray)) ∨ (((t.extract 0 1).toList == [47]) = false ∧ linkB st t = st) := by
  have h2 := head_byte h
  rw [first_byte h]
  unfold linkB
  rw [h2]
  by_cases h4 : t[0]'h = 47
  · rw [h4]; exact .inl ⟨rfl, rfl⟩
  · exact .inr ⟨by simp [h4], by rw [if_neg (by simpa using h4)]⟩
end
section
open Go.RowKit Go.Maps Go.Shelf
open Go.Lib hiding intOf size_eq
/-- what a step makes of a walk -/
def StepRes (w' : World) (B : Nat) (lo0 : Option Addr) (oa : Option Addr) (tn tc : Nat) (ro : Option Addr) (rn rc : Nat) (q : List UInt8) (R : Except Nat (Option (List UInt8 × List (List UInt8) × Nat))) (r : Ending) : Prop :=
  match R with
  | .error n => n ≠ 0 ∧ ∃ st lo ln lc hops, r = .returned (walkV oa tn tc st lo ln lc hops ro rn rc false emp (n : Int))
  | .ok none => ∃ st lo ln lc hops, r = .returned (walkV oa tn tc st lo ln lc hops ro rn rc true (bs q) 0)
  | .ok (some (a, left, hops)) => ∃ lo lc, r = .returned (walkV oa tn tc (bs a) lo left.length lc (hops : Int) ro rn rc false emp 0) ∧ LeftA w' lo lc left ∧ ∀ b, lo = some b → B ≤ b.block ∨ ∃ b0, lo0 = some b0 ∧ b.block = b0.block
theorem LeftA.tailO {w : World} {ad : Addr} {cap : Nat} {x : List UInt8} {L : List (List UInt8)} (h : LeftA w (some ad) cap (x :: L)) : LeftA w (tailO ad cap) (cap - 1) L := by
  have hle := h.le
  simp at hle
  unfold Go.Proofs.YtdkodedocklmdaaGreat.tailO
  by_cases hc : cap = 1
  · rw [if_pos hc]
    obtain rfl : L = [] := List.eq_nil_of_length_eq_zero (by omega)
    exact ⟨by simp, by have := h.max; omega, h.lt, fun i x hx => by simp at hx⟩
  · rw [if_neg hc]
    exact h.tail
theorem below2 (w : World) (o1 o2 : Obj) : Below w.heap.size w ((w.alloc o1).alloc o2) := ((Below.refl _ _).alloc (Nat.le_refl _) _).alloc (by simp) _
theorem tail_cases {w : World} {ad : Addr} {cap : Nat} {x : List UInt8} {L : List (List UInt8)} (h : LeftA w (some ad) cap (x :: L)) : (cap = 1 ∧ L.length = 0 ∧ LeftA w (some ad) 0 L) ∨ (cap ≠ 1 ∧ cap ≠ 1 ∧ LeftA w (some ⟨ad.block, ad.off + 1, none⟩) (cap - 1) L) := by
  have h2 := h.tailO
  by_cases hc : cap = 1
  · subst hc
    exact .inl ⟨rfl, by have := h.le; simp at this; simp [this], h2⟩
  · unfold tailO at h2
    rw [if_neg hc] at h2
    exact .inr ⟨hc, hc, h2⟩
end
section
open Go.RowKit Go.Maps Go.Shelf
open Go.Lib hiding intOf size_eq
section
variable {P : Program}
theorem still_load_row {ops : Array Oper} {rest : List Oper} {o : Oper} {a : Act} {w : World} {Q : Act → Prop} (hgd : o.guard = none) (ty : TypeId) (x : Operand) (ho : o.op = .load ty x)
    (g : Nat) (hx : a.eval x = .pointer (some ⟨g, 0, none⟩)) (t : TypeId) (cs : Array Value) (fr : Nat × Nat) (d : TypeDesc) (hg : w.heap[g]? = some (.cells cs t fr))
    (hu : P.underlying ty = some d) (hd : (match d with | .struct _ | .array _ _ => true | _ => false) = true) (hi : (P.info? ty).map (·.size) = some cs.size)
    (h : wpStill P ops w Q rest (a.put o.dst (.agg cs))) : wpStill P ops w Q (o :: rest) a := by
  refine wpStill_step (fun K hK => ?_)
  rw [if_pos (show Region.wanted o (yielded ops a.tmps) = true by simp [Region.wanted, hgd])]
  unfold Oper.still execOp
  simp only [ho, hx, Instr.loadAt, Instr.sureAddr, Sem.run_bind, Sem.run_pure, Result.andThen_ok, run_loadVar_row w g t ty cs fr d hg hu hd hi]
  exact ⟨rfl, hK _ h⟩
theorem still_load_at {ops : Array Oper} {rest : List Oper} {o : Oper} {a : Act} {w : World} {Q : Act → Prop} (hgd : o.guard = none) (ty : TypeId) (x : Operand) (ho : o.op = .load ty x)
    (p : Addr) (hx : a.eval x = .pointer (some p)) (cs : List Value) (d : TypeDesc) (hc : ∀ j v, cs[j]? = some v → w.cell? (p.add j) = some v)
    (hu : P.underlying ty = some d) (hd : (match d with | .struct _ | .array _ _ => true | _ => false) = true) (hi : (P.info? ty).map (·.size) = some cs.length)
    (h : wpStill P ops w Q rest (a.put o.dst (.agg cs.toArray))) : wpStill P ops w Q (o :: rest) a := by
  refine wpStill_step (fun K hK => ?_)
  rw [if_pos (show Region.wanted o (yielded ops a.tmps) = true by simp [Region.wanted, hgd])]
  unfold Oper.still execOp
  simp only [ho, hx, Instr.loadAt, Instr.sureAddr, Sem.run_bind, Sem.run_pure, Result.andThen_ok, run_loadVar_at w p ty cs d hc hu hd hi]
  exact ⟨rfl, hK _ h⟩
/-- a region that only reads and then does one thing after the other: the world behind the draw has a name -/
theorem region_tail_named {id : Nat} {Q : Exit → Act → World → Prop} {a : Act} {w : World} {l : List Oper} (n : Nat) (hm : P.follows .mixedOrders = true) (hB : Region.lexTailB .any l.toArray n = true)
    (h : ∀ wz, wz = w.drew → wpStill P l.toArray wz (fun a' => wpList P l.toArray Q (l.drop n) a' wz) (l.take n) a) : (Code.region id l.toArray true).wp P Q a w := wp_region_still_tail n hm hB (h _ rfl)
theorem below_drew1 {B : Nat} {w W : World} (h : Below B w W) : Below B w W.drew := ⟨h.os, h.tape, h.output, h.size, h.block⟩
end
def sortOf (keep : Bool) : Int := if keep = true then 1 else 0
theorem below_world2 {w : World} {o1 o2 : Obj} {W : World} (h : Below (w.heap.size + 2) ((w.alloc o1).alloc o2) W) : Below w.heap.size w W := (below2 w o1 o2).trans (h.mono (by omega))
end
section
open Go.RowKit Go.Maps Go.Shelf
open Go.Lib hiding intOf size_eq
end
section
open Go.RowKit Go.Maps Go.Shelf
open Go.Lib hiding intOf size_eq
theorem linkB_at (a : List UInt8) (e : Ent) : linkB (bs a) e.l = bs (linkAt a e) := by
  unfold linkB linkAt
  by_cases h : e.l.data.toList.head? = some 47
  · rw [if_pos h, if_pos h]; rfl
  · rw [if_neg h, if_neg h]
end
section
open Go.RowKit Go.Maps Go.Shelf
open Go.Lib hiding intOf size_eq
/-- one round, plain -/
def stepF (L : List Ent) (keep : Bool) (a c : List UInt8) (left : List (List UInt8)) (hops : Nat) : Except Nat (Option (List UInt8 × List (List UInt8) × Nat)) :=
  if c = [46] then .ok (some (a, left, hops)) else if c = [46, 46] then .ok (some (parent a, left, hops)) else pieceF L keep a (joinP a c) left hops
theorem stepF_run {L : List Ent} (hL : Good L) {keep : Bool} {a c : List UInt8} {left : List (List UInt8)} {hops : Nat} {tr : List (List UInt8)} (h0 : hops ≤ 40) :
    runF L keep (needF (c :: left).length hops) a (c :: left) hops tr = match stepF L keep a c left hops with
      | .error n => .error n
      | .ok none => .ok (joinP a c, tr ++ [joinP a c])
      | .ok (some (a', left', hops')) => runF L keep (needF left'.length hops') a' left' hops' (tr ++ [a']) := by
  unfold stepF
  by_cases h1 : c = [46]
  · subst h1
    rw [if_pos rfl, runF_dot]
  · rw [if_neg h1]
    by_cases h2 : c = [46, 46]
    · subst h2
      rw [if_pos rfl, runF_up]
    · rw [if_neg h2, runF_name hL h0 h1 h2]; cases pieceF L keep a (joinP a c) left hops with
      | error n => rfl
      | ok x => cases x <;> rfl
theorem stepF_on {L : List Ent} (hL : Good L) {keep : Bool} {a c a' : List UInt8} {left left' : List (List UInt8)} {hops hops' N : Nat} (h0 : hops ≤ 40) (ha : a.length ≤ 255) (hN : 100 ≤ N) (hl : ∀ c ∈ left, c.length ≤ N)
    (h : stepF L keep a c left hops = .ok (some (a', left', hops'))) : hops' ≤ 40 ∧ a'.length ≤ 255 ∧ (∀ c ∈ left', c.length ≤ N) ∧ needF left'.length hops' ≤ needF left.length hops := by
  unfold stepF at h
  split at h
  · injection h with h; injection h with h; injection h with h1 h; injection h with h2 h3
    subst h1; subst h2; subst h3
    exact ⟨h0, ha, hl, Nat.le_refl _⟩
  split at h
  · injection h with h; injection h with h; injection h with h1 h; injection h with h2 h3
    subst h1; subst h2; subst h3
    exact ⟨h0, Nat.le_trans (parent_length a) ha, hl, Nat.le_refl _⟩
  exact pieceF_on hL h0 ha hN hl h
end
section
open Go.RowKit Go.Maps Go.Shelf
open Go.Lib hiding intOf size_eq
structure LeftOut (wr : World) (R D : Nat) (T : Option Nat) (lo : Option Addr) (lc : Nat) (left : List (List UInt8)) : Prop where
  la : LeftA wr lo lc left
  out : ∀ b, lo = some b → b.block ≠ R ∧ b.block ≠ D ∧ some b.block ≠ T
theorem texts_own_lt {W : World} {base k : Nat} {v : Value} {L : List (List UInt8)} (h : Texts W base v L) (hk : v.ownBlock = some k) : k < W.heap.size ∧ base ≤ k := by
  rcases h.2 with ⟨rfl, _⟩ | ⟨g, cap, cur, rfl, b, c, d⟩
  · simp [Value.ownBlock] at hk
  · obtain rfl : g = k := by simpa [Value.ownBlock] using hk
    exact ⟨(Array.getElem?_eq_some_iff.1 c).1, b⟩
end
section
open Go.RowKit Go.Maps Go.Shelf
open Go.Lib hiding intOf size_eq
/-- what Go answers -/
def GoRes (w' : World) (base : Nat) (oa : Option Addr) (tn tc : Nat) (R : Except Nat (List UInt8 × List (List UInt8))) (r : Ending) : Prop :=
  match R with
  | .error n => n ≠ 0 ∧ r = .returned (walkV oa tn tc emp none 0 0 0 none 0 0 false emp (n : Int))
  | .ok (p, tr) => ∃ st lo ln lc hops ro rc, r = .returned (walkV oa tn tc st lo ln lc hops ro tr.length rc true (bs p) 0) ∧ Texts w' base (.slice ro tr.length rc) tr
def goMeas (D : Nat) (w : World) : Nat := match w.cell? ⟨D, 2, none⟩, w.cell? ⟨D, 3, none⟩ with
  | some (.slice _ n _), some (.int _ h) => needF n h.toNat
  | _, _ => 0
theorem cell_of_row {W : World} {D i : Nat} {cs : Array Value} {t : TypeId} {v : Value} (h : W.heap[D]? = some (.cells cs t (0, 0))) (hi : cs[i]? = some v) : W.cell? ⟨D, i, none⟩ = some v := by
  unfold World.cell?
  rw [h]
  exact hi
theorem frozen_of_row {W : World} {D i : Nat} {cs : Array Value} {t : TypeId} (h : W.heap[D]? = some (.cells cs t (0, 0))) : W.frozen? ⟨D, i, none⟩ = false := by
  unfold World.frozen?
  rw [h]
  simp
end
section
open Go.RowKit Go.Maps Go.Shelf
open Go.Lib hiding intOf size_eq
/-- what Find answers, and its error -/
def findB (R : Except Nat (List UInt8 × List (List UInt8))) : ByteArray := match R with
  | .error _ => emp
  | .ok (p, _) => bs p
def findN (R : Except Nat (List UInt8 × List (List UInt8))) : Nat := match R with
  | .error n => n
  | .ok _ => 0
theorem goRes_find {w' : World} {base : Nat} {oa : Option Addr} {tn tc : Nat} {R : Except Nat (List UInt8 × List (List UInt8))} {r : Ending} (h : GoRes w' base oa tn tc R r) :
    ∃ oa tn tc st lo ln lc hops ro rn rc dn, r = .returned (walkV oa tn tc st lo ln lc hops ro rn rc dn (findB R) (findN R)) ∧ (∀ p tr, R = .ok (p, tr) → rn = tr.length ∧ Texts w' base (.slice ro rn rc) tr) ∧ ((∃ n, R = .error n) → ro = none ∧ rn = 0 ∧ rc = 0) := by
  unfold GoRes at h
  cases R with
  | error n =>
    obtain ⟨_, rfl⟩ := h
    exact ⟨_, _, _, _, _, _, _, _, _, _, _, _, rfl, (fun p tr e => by cases e), (fun _ => ⟨rfl, rfl, rfl⟩)⟩
  | ok x =>
    obtain ⟨p, tr⟩ := x
    obtain ⟨st, lo, ln, lc, hops, ro, rc, rfl, ht⟩ := h
    exact ⟨_, _, _, _, _, _, _, _, _, _, _, _, rfl, (fun p2 tr2 e => by injection e with e; injection e with e1 e2; subst e1; subst e2; exact ⟨rfl, ht⟩), (fun ⟨n, e⟩ => by cases e)⟩
end
section
open Go.RowKit Go.Maps Go.Shelf
open Go.Lib hiding intOf size_eq
/-- a region that only reads: the world behind the draw has a name -/
theorem region_still_named {P : Program} {id : Nat} {Q : Exit → Act → World → Prop} {a : Act} {w : World} {l : List Oper} (hm : P.follows .mixedOrders = true) (hB : Region.lexB .any l.toArray = true)
    (h : ∀ wz, wz = w.drew → wpStill P l.toArray wz (fun a' => Q .normal a' wz) l a) : (Code.region id l.toArray true).wp P Q a w := wp_region_still_lit hm hB (h _ rfl)
set_option maxRecDepth 100000 in
set_option maxHeartbeats 1000000 in
theorem same_any (va vb : Value) (L : List Ent) (w : World) (ha : EntsAt w va L) (hb : EntsAt w vb L) (hl : L.length ≤ 1099511627776) :
    Calls Tryz.prog 10 #[va, vb] w fun r w' => Below w.heap.size w w' ∧ r = .returned (.bool true) := by
  obtain ⟨o1, cap1, rfl, hlc1, hcm1, hcells1⟩ := ha
  obtain ⟨o2, cap2, rfl, hlc2, hcm2, hcells2⟩ := hb
  obtain ⟨n, hn⟩ : ∃ n, n = L.length := ⟨_, rfl⟩
  rw [← hn] at hlc1 hlc2 hl ⊢
  have Hc1 := Lib.hid hcells1
  have Hc2 := Lib.hid hcells2
  have Hn := Lib.hid hn
  clear hcells1 hcells2 hn
  go_enter Tryz.func10, Tryz.ntmps10
  go_wp2
  go_loopw [5] (fun iv wr => ∃ (k : Nat), iv = .int .i64 (k : Int) ∧ k ≤ n ∧ Below w.heap.size w wr) (fun iv _ => n - (intOf iv).toNat)
  case atStart => exact ⟨0, rfl, Nat.zero_le _, Below.refl _ _⟩
  case round =>
    obtain ⟨k, rfl, hk, hbr⟩ := hrel
    have Hbr := Lib.hid hbr
    by_cases hlt : k < n
    · obtain ⟨e, hek⟩ : ∃ e, L[k]? = some e := ⟨_, List.getElem?_eq_getElem (by rw [← Hn.out]; exact hlt)⟩
      obtain ⟨a1, rfl, hal1, hcs1⟩ := Hc1.out k e hek
      obtain ⟨a2, rfl, hal2, hcs2⟩ := Hc2.out k e hek
      have up : ∀ (a : Addr), a.block < w.heap.size → (∀ j x, (entC e)[j]? = some x → w.cell? ((a.add (k * 5)).add j) = some x) → ∀ W, Below w.heap.size wr W → ∀ j x, (entC e)[j]? = some x → W.cell? ((a.add (k * 5)).add j) = some x := fun a hal hcs W hW j x hx => by
        have := hcs j x hx
        unfold World.cell? at this ⊢
        rw [hW.block _ (by rw [add_block, add_block]; have := hbr.size; omega), hbr.block _ (by rw [add_block, add_block]; omega)]
        exact this
      have Hu1 := Lib.hid (up a1 hal1 hcs1)
      have Hu2 := Lib.hid (up a2 hal2 hcs2)
      clear hcs1 hcs2 hbr hek up
      go_wp2_with fail
      refine region_still_named (by kernel_rfl) (by kernel_rfl) ?_
      intro wz hz
      have hbz : Below w.heap.size wr wz := by rw [hz]; exact below_drew1 (Below.refl _ _)
      have HC1 := Lib.hid (Hu1.out wz hbz)
      have HC2 := Lib.hid (Hu2.out wz hbz)
      have Hbz := Lib.hid (Hbr.out.trans hbz)
      clear hz hbz
      iterate 3 still_step
      refine still_load_at rfl _ _ rfl (a1.add (k * 5)) rfl [.string e.p, .int .i64 e.k, .int .i64 e.m, .string e.d, .string e.l] _ HC1.out Tryz.underlying39 rfl (by kernel_rfl) ?_
      iterate 3 still_step
      refine still_load_at rfl _ _ rfl (a2.add (k * 5)) rfl [.string e.p, .int .i64 e.k, .int .i64 e.m, .string e.d, .string e.l] _ HC2.out Tryz.underlying39 rfl (by kernel_rfl) ?_
      still_step
      refine wpStill_nil ?_
      go_wp2
      go_roundw
      case rel => exact ⟨k + 1, by go_num, by omega, Hbz.out⟩
      case measure => simp [intOf]; omega
    · obtain rfl : k = n := by omega
      clear hbr
      go_wp2
      go_ret
      exact ⟨Hbr.out, rfl⟩
end
end Go.Proofs.YtdkodedocklmdaaGreat
