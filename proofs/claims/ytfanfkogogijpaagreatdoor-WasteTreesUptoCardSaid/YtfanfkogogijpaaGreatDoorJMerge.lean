/- Joined: what these texts prove stands at the head of each part: DOne, DBoth, DMerge. -/
import Derived.Test.YtfanfkogogijpaaGreatDoorJPlain
import Derived.Test.YtfanfkogogijpaaGreatDoorGRows
import Derived.Test.YtfanfkogogijpaaGreatDoorCompare
import Derived.Test.YtfanfkogogijpaaGreatDoorName
import Derived.Test.YtfanfkogogijpaaGreatDoorRGoes
import Derived.Test.YtfanfkogogijpaaGreatDoorFKeep
import Derived.RangeFuncBox
import Derived.Laws.StructEq
import Derived.StillTailTactics
set_option linter.unusedSimpArgs false
set_option linter.unusedVariables false
namespace Go.Proofs.YtfanfkogogijpaaGreatDoor
section
open Go.RowKit Go.Maps Go.Shelf
open Go.Lib hiding intOf size_eq
def chgC (c : Chg) : List Value := [.string c.p, .bool c.g, .string c.e.p, .int .i64 c.e.k, .int .i64 c.e.m, .string c.e.d, .string c.e.l]
theorem chgC_len (c : Chg) : (chgC c).length = 7 := rfl
theorem Tryz.infoChange : (Tryz.prog.info? 49).map (fun i => (i.zero, i.size, i.bytes)) = some (some (.agg #[.string ⟨#[]⟩, .bool false, .string ⟨#[]⟩, .int .i64 0, .int .i64 0, .string ⟨#[]⟩, .string ⟨#[]⟩]), 7, 88) := by kernel_rfl
/-- two entries are compared -/
@[go_sem] theorem eqEnt (a : ByteArray) (b c : Int) (d e a2 : ByteArray) (b2 c2 : Int) (d2 e2 : ByteArray) (w : World) :
    (Op.equalIn 10000 33 (.agg #[.string a, .int .i64 b, .int .i64 c, .string d, .string e]) (.agg #[.string a2, .int .i64 b2, .int .i64 c2, .string d2, .string e2])).run Tryz.prog w = .ok (entEq ⟨a, b, c, d, e⟩ ⟨a2, b2, c2, d2, e2⟩) w := by
  have hS : Tryz.prog.underlying 33 = some (.struct (Tryz.prog.fieldsOf 33)) := by kernel_rfl
  have hp : Tryz.prog.stoodInHeld 33 = false := by kernel_rfl
  rw [show (10000 : Nat) = 9999 + 1 from rfl, run_equalIn_agg w 9999 33 _ _ hS hp]
  simp only [Program.fieldsOf, Tryz.underlying33]
  have u1 := Tryz.underlying9
  have u2 := Tryz.underlying3
  have u3 := Tryz.underlying31
  go_simp
  unfold entEq
  simp only [ByteArray.toList_eq]
  obtain ⟨⟨a⟩⟩ := a
  obtain ⟨⟨d⟩⟩ := d
  obtain ⟨⟨e⟩⟩ := e
  obtain ⟨⟨a2⟩⟩ := a2
  obtain ⟨⟨d2⟩⟩ := d2
  obtain ⟨⟨e2⟩⟩ := e2
  by_cases h1 : a = a2 <;> by_cases h2 : b = b2 <;> by_cases h3 : c = c2 <;> by_cases h4 : d = d2 <;> by_cases h5 : e = e2 <;> simp [h1, h2, h3, h4, h5]
def topO (b : Bool) (t : ByteArray) : Option (List UInt8) := if b = true then some t.data.toList else none
/-- the blocks of the variables that the closures hold -/
structure Blks where
  h : Nat
  t : Nat
  o : Nat
  g : Nat
  l : Nat
structure Blks.Ok (K : Blks) (base : Nat) : Prop where
  lo : base ≤ K.h ∧ base ≤ K.t ∧ base ≤ K.o ∧ base ≤ K.g ∧ base ≤ K.l
  ht : K.h ≠ K.t
  ho : K.h ≠ K.o
  kto : K.t ≠ K.o
  gh : K.g ≠ K.h
  gt : K.g ≠ K.t
  go : K.g ≠ K.o
  lh : K.l ≠ K.h
  lt : K.l ≠ K.t
  lo' : K.l ≠ K.o
/-- the closures gone and lay -/
def goneF (K : Blks) : Value := .func (.func 25) #[] #[.pointer (some ⟨K.h, 0, none⟩), .pointer (some ⟨K.t, 0, none⟩), .pointer (some ⟨K.o, 0, none⟩)]
def layF (K : Blks) : Value := .func (.func 26) #[] #[.pointer (some ⟨K.o, 0, none⟩)]
/-- the variables: hidden, top, out; gone and lay -/
structure EnvAt (w : World) (base : Nat) (K : Blks) (b : Bool) (tp : ByteArray) (L : List Chg) : Prop where
  h : Boxed w K.h 4 (.bool b)
  t : Boxed w K.t 9 (.string tp)
  o : ∃ v, (L = [] → v = .slice none 0 0) ∧ Boxed w K.o 28 v ∧ w.ownsRow base 49 7 v L.length (L.flatMap chgC)
  g : Boxed w K.g 75 (goneF K)
  l : Boxed w K.l 75 (layF K)
  ok : K.Ok base
  tl : tp.size < 4611686018427387904
/-- what the closures leave as it was -/
def okE (K : Blks) (base : Nat) (k : Nat) (o : Obj) : Prop := k ≠ K.h ∧ k ≠ K.t ∧ k ≠ K.o ∧ (k < base ∨ notRow 49 o)
section
variable {w w' : World} {base B : Nat} {K : Blks} {b : Bool} {t : ByteArray} {L : List Chg}
theorem EnvAt.alloc (h : EnvAt w base K b t L) (o : Obj) : EnvAt (w.alloc o) base K b t L := by
  obtain ⟨v, hz, h1, h2⟩ := h.o
  exact ⟨h.h.alloc o, h.t.alloc o, ⟨v, hz, h1.alloc o, h2.alloc o⟩, h.g.alloc o, h.l.alloc o, h.ok, h.tl⟩
theorem EnvAt.drew (h : EnvAt w base K b t L) : EnvAt w.drew base K b t L := ⟨h.h, h.t, h.o, h.g, h.l, h.ok, h.tl⟩
/-- what only made blocks -/
theorem EnvAt.below (h : EnvAt w base K b t L) (hw : Below B w w') (hB : w.heap.size ≤ B) : EnvAt w' base K b t L := by
  obtain ⟨v, hz, h1, h2⟩ := h.o
  refine ⟨(hw.block _ (Nat.lt_of_lt_of_le h.h.lt hB)).trans h.h, (hw.block _ (Nat.lt_of_lt_of_le h.t.lt hB)).trans h.t, ⟨v, hz, (hw.block _ (Nat.lt_of_lt_of_le h1.lt hB)).trans h1, h2.1, ?_⟩, (hw.block _ (Nat.lt_of_lt_of_le h.g.lt hB)).trans h.g, (hw.block _ (Nat.lt_of_lt_of_le h.l.lt hB)).trans h.l, h.ok, h.tl⟩
  rcases h2.2 with h3 | ⟨g, cap, cur, a, b, c, d⟩
  · exact .inl h3
  · exact .inr ⟨g, cap, cur, a, b, (hw.block g (Nat.lt_of_lt_of_le (Array.getElem?_eq_some_iff.1 c).1 hB)).trans c, d⟩
/-- top and hidden are written -/
theorem EnvAt.mark (h : EnvAt w base K b t L) (p : ByteArray) (hp : p.size < 4611686018427387904) : EnvAt ((w.setCell ⟨K.t, 0, none⟩ (.string p)).setCell ⟨K.h, 0, none⟩ (.bool true)) base K true p L := by
  obtain ⟨v, hz, h1, h2⟩ := h.o
  have k := h.ok
  refine ⟨(h.h.other k.ht _).set _, (h.t.set _).other (Ne.symm k.ht) _, ⟨v, hz, (h1.other (Ne.symm k.kto) _).other (Ne.symm k.ho) _, ?_⟩, (h.g.other k.gt _).other k.gh _, (h.l.other k.lt _).other k.lh _, k, hp⟩
  have k1 := h2.kept (grownBy_setCell' w K.t (.string p)) (.inr (Ne.symm (h.t.not_row (by decide) h2)))
  exact k1.kept (grownBy_setCell' _ K.h (.bool true)) (.inr (Ne.symm ((h.h.other k.ht _).not_row (by decide) k1)))
theorem EnvAt.mark_keeps (h : EnvAt w base K b t L) (p : ByteArray) : Keeps (okE K base) w ((w.setCell ⟨K.t, 0, none⟩ (.string p)).setCell ⟨K.h, 0, none⟩ (.bool true)) :=
  ((Keeps.refl _ w).set K.t _ (fun _ h => h.2.1 rfl)).set K.h _ (fun _ h => h.1 rfl)
theorem keeps_below (hK : K.Ok base) (hB : base ≤ w.heap.size) (h : Keeps (okE K base) w w') : Below base w w' :=
  h.below hB fun k o hk => ⟨by have := hK.lo.1; omega, by have := hK.lo.2.1; omega, by have := hK.lo.2.2.1; omega, .inl hk⟩
/-- a change behind the others: what stands after the append and the store -/
theorem EnvAt.push {w1 : World} (h : EnvAt w base K b t L) (hbase : base ≤ w.heap.size) {tmp : Obj} {v v' : Value} {c : Chg}
    (ho : Boxed w K.o 28 v) (hr : w.ownsRow base 49 7 v L.length (L.flatMap chgC)) (hown : w1.ownsRow base 49 7 v' (L.length + 1) (L.flatMap chgC ++ chgC c)) (hg : (w.alloc tmp).grownBy w1 v.ownBlock) :
    Boxed w1 K.o 28 v ∧ EnvAt (w1.setCell ⟨K.o, 0, none⟩ v') base K b t (L ++ [c]) ∧ Keeps (okE K base) w (w1.setCell ⟨K.o, 0, none⟩ v') := by
  have k := h.ok
  have hra : (w.alloc tmp).ownsRow base 49 7 v L.length (L.flatMap chgC) := hr.alloc _
  have h1 : Boxed w1 K.h 4 (.bool b) := (h.h.alloc tmp).kept hg ((h.h.alloc tmp).not_row (by decide) hra)
  have h2 : Boxed w1 K.t 9 (.string t) := (h.t.alloc tmp).kept hg ((h.t.alloc tmp).not_row (by decide) hra)
  have h3 : Boxed w1 K.g 75 (goneF K) := (h.g.alloc tmp).kept hg ((h.g.alloc tmp).not_row (by decide) hra)
  have h4 : Boxed w1 K.l 75 (layF K) := (h.l.alloc tmp).kept hg ((h.l.alloc tmp).not_row (by decide) hra)
  obtain ⟨a1, a2, a3, a4, a5⟩ := ho.appended (by decide) hr hbase k.lo.2.2.1 hown hg
  refine ⟨a1, ⟨h1.other k.ho _, h2.other k.kto _, ⟨v', fun e => absurd e (by simp), a2, ?_⟩, h3.other k.go _, h4.other k.lo' _, k, h.tl⟩, (((Keeps.refl _ w).alloc tmp).grown hg fun k o _ hb hok => notRow_row hra hb hok.2.2.2).set K.o v' (fun _ h => h.2.2.1 rfl)⟩
  rw [List.length_append, List.length_singleton, List.flatMap_append, List.flatMap_singleton]
  exact a3
end
theorem ent_heap {w : World} (e : Ent) : ∀ j u, ([.string e.p, .int .i64 e.k, .int .i64 e.m, .string e.d, .string e.l] : List Value)[j]? = some u → (w.alloc (.cells #[.string e.p, .int .i64 e.k, .int .i64 e.m, .string e.d, .string e.l] 33)).cell? ((⟨w.heap.size, 0, none⟩ : Addr).add j) = some u := item_cells (World.alloc_heap_new w _)
set_option maxRecDepth 100000 in
set_option maxHeartbeats 2000000 in
/-- lay: a change that lays -/
theorem lay_any {w : World} {base : Nat} {K : Blks} {b : Bool} {t : ByteArray} {L : List Chg} (y : Ent) (h : EnvAt w base K b t L) (hbase : base ≤ w.heap.size) (hl : L.length < 1099511627776) :
    Calls Tryz.prog 26 #[.agg #[.string y.p, .int .i64 y.k, .int .i64 y.m, .string y.d, .string y.l], .pointer (some ⟨K.o, 0, none⟩)] w fun r w' => r = .returned (.tuple #[]) ∧ Keeps (okE K base) w w' ∧ EnvAt w' base K b t (L ++ [layOf y]) := by
  obtain ⟨i0, hi, hz0, hz1, hz2⟩ := info_parts Tryz.infoChange
  obtain ⟨w0, hw0⟩ : ∃ x, x = w.alloc (.cells #[.string y.p, .int .i64 y.k, .int .i64 y.m, .string y.d, .string y.l] 33) := ⟨_, rfl⟩
  have h0 : EnvAt w0 base K b t L := by rw [hw0]; exact h.alloc _
  have hs0 : base ≤ w0.heap.size := by rw [hw0]; simp; omega
  have hb0 : Keeps (okE K base) w w0 := by rw [hw0]; exact (Keeps.refl _ _).alloc _
  have hc0 : w0.heap[w.heap.size]? = some (.cells #[.string y.p, .int .i64 y.k, .int .i64 y.m, .string y.d, .string y.l] 33 (0, 0)) := by rw [hw0]; exact World.alloc_heap_new w _
  obtain ⟨v, _, ho, hr⟩ := h0.o
  have hvc := ho.cell
  have hvf := ho.frozen
  have hp0 : w0.cell? ⟨w.heap.size, 0, none⟩ = some (.string y.p) := block_cell (j := 0) hc0 rfl
  have hnew : ∀ j u, (chgC (layOf y))[j]? = some u → (w0.alloc (.cells #[.string y.p, .bool false, .string y.p, .int .i64 y.k, .int .i64 y.m, .string y.d, .string y.l] 49)).cell? ((⟨w0.heap.size, 0, none⟩ : Addr).add j) = some u := item_cells (World.alloc_heap_new w0 _)
  obtain ⟨n, hn⟩ : ∃ n, n = L.length := ⟨_, rfl⟩
  have hr2 := hr
  rw [← hn] at hr2 hl
  have Hi := Lib.hid hi
  have Hz0 := Lib.hid hz0
  have Hz1 := Lib.hid hz1
  have Hz2 := Lib.hid hz2
  have H0 := Lib.hid h0
  have Ho := Lib.hid ho
  have Hr := Lib.hid hr
  have Hr2 := Lib.hid hr2
  have Hw0 := Lib.hid hw0
  have Hb0 := Lib.hid hb0
  have Hc0 := Lib.hid hc0
  have Hnew := Lib.hid hnew
  have Hn := Lib.hid hn
  clear hi hz0 hz1 hz2 h0 ho hr hr2 hw0 hb0 hc0 hnew h hn
  go_enter Tryz.func26, Tryz.ntmps26
  go_upto_region 1 with fail
  rw [← Hw0.out]
  go_wp2_with (first
    | (refine wpList_load_row rfl _ _ rfl w.heap.size rfl 33 #[.string y.p, .int .i64 y.k, .int .i64 y.m, .string y.d, .string y.l] (0, 0) _ Hc0.out Tryz.underlying33 rfl (by kernel_rfl) ?_)
    | (at_builtin; go_loud (refine wpList_append_own_at _ rfl _ _ 28 rfl base 49 i0 _ 7 88 Tryz.underlying28 Hi.out Hz0.out Hz1.out Hz2.out rfl (by decide) _ _ _ rfl (Hr2.out.alloc _) ⟨w0.heap.size, 0, none⟩ 1 1 (chgC (layOf y)) rfl rfl Hnew.out (by simp [Value.oneCell', chgC]) (by unfold maxLen; omega) (by omega) (by simp; omega) ?_); intro v' w1 hown' hgrow _ hblk; obtain ⟨g', cap', rfl⟩ := ownsRow_succ hown'; obtain ⟨hv1, hv2, hv3⟩ := H0.out.push hs0 Ho.out Hr.out (by rw [← Hn.out]; exact hown') hgrow; have hc1 := hv1.cell; have hf1 := hv1.frozen
       have Hv2 := Lib.hid hv2
       have Hv3 := Lib.hid hv3
       clear hown' hgrow hblk hv1 hv2 hv3))
  exact bodyPost_end (results_none rfl _ _ _) rfl ⟨rfl, Hb0.out.trans Hv3.out, Hv2.out⟩
set_option maxRecDepth 100000 in
set_option maxHeartbeats 2000000 in
/-- gone: a change that takes away, but where the path is hidden -/
theorem gone_any {w : World} {base : Nat} {K : Blks} {b : Bool} {t : ByteArray} {L : List Chg} (x : Ent) (h : EnvAt w base K b t L) (hbase : base ≤ w.heap.size) (hl : L.length < 1099511627776) (hx : x.p.size < 4611686018427387904) :
    Calls Tryz.prog 25 #[.agg #[.string x.p, .int .i64 x.k, .int .i64 x.m, .string x.d, .string x.l], .pointer (some ⟨K.h, 0, none⟩), .pointer (some ⟨K.t, 0, none⟩), .pointer (some ⟨K.o, 0, none⟩)] w fun r w' => r = .returned (.tuple #[]) ∧ Keeps (okE K base) w w' ∧
      (if hid (topO b t) x.path = true then EnvAt w' base K b t L else EnvAt w' base K true x.p (L ++ [goneOf x])) := by
  obtain ⟨i0, hi, hz0, hz1, hz2⟩ := info_parts Tryz.infoChange
  obtain ⟨w0, hw0⟩ : ∃ x', x' = w.alloc (.cells #[.string x.p, .int .i64 x.k, .int .i64 x.m, .string x.d, .string x.l] 33) := ⟨_, rfl⟩
  have h0 : EnvAt w0 base K b t L := by rw [hw0]; exact h.alloc _
  have hs0 : base ≤ w0.heap.size := by rw [hw0]; simp; omega
  have hb0 : Keeps (okE K base) w w0 := by rw [hw0]; exact (Keeps.refl _ _).alloc _
  have hc0 : w0.heap[w.heap.size]? = some (.cells #[.string x.p, .int .i64 x.k, .int .i64 x.m, .string x.d, .string x.l] 33 (0, 0)) := by rw [hw0]; exact World.alloc_heap_new w _
  have hp0 : w0.cell? ⟨w.heap.size, 0, none⟩ = some (.string x.p) := block_cell (j := 0) hc0 rfl
  have hhc := h0.h.cell
  have hhf := h0.h.frozen
  have htc := h0.t.cell
  have htf := h0.t.frozen
  have hltb := h.t.lt
  have hlhb := h.h.lt
  obtain ⟨w1, hw1⟩ : ∃ x', x' = (w0.setCell ⟨K.t, 0, none⟩ (.string x.p)).setCell ⟨K.h, 0, none⟩ (.bool true) := ⟨_, rfl⟩
  have hfh : (w0.setCell ⟨K.t, 0, none⟩ (.string x.p)).frozen? ⟨K.h, 0, none⟩ = false := (h0.h.other h0.ok.ht _).frozen
  have hfc : (w0.setCell ⟨K.t, 0, none⟩ (.string x.p)).cell? ⟨K.h, 0, none⟩ = some (.bool b) := (h0.h.other h0.ok.ht _).cell
  have h1 : EnvAt w1 base K true x.p L := by rw [hw1]; exact h0.mark x.p hx
  have hs1 : base ≤ w1.heap.size := by rw [hw1]; simp; omega
  have hb1 : Keeps (okE K base) w0 w1 := by rw [hw1]; exact h0.mark_keeps _
  have hp1 : w1.cell? ⟨w.heap.size, 0, none⟩ = some (.string x.p) := by
    refine block_cell (j := 0) (cs := #[.string x.p, .int .i64 x.k, .int .i64 x.m, .string x.d, .string x.l]) (t := 33) ?_ rfl
    rw [hw1, heap_setCell_other _ ⟨K.h, 0, none⟩ w.heap.size _ (show w.heap.size ≠ K.h by omega), heap_setCell_other _ ⟨K.t, 0, none⟩ w.heap.size _ (show w.heap.size ≠ K.t by omega)]
    exact hc0
  obtain ⟨v, _, ho, hr⟩ := h1.o
  have hvc := ho.cell
  have hvf := ho.frozen
  have hnew : ∀ j u, (chgC (goneOf x))[j]? = some u → (w1.alloc (.cells #[.string x.p, .bool true, .string ⟨#[]⟩, .int .i64 0, .int .i64 0, .string ⟨#[]⟩, .string ⟨#[]⟩] 49)).cell? ((⟨w1.heap.size, 0, none⟩ : Addr).add j) = some u := item_cells (World.alloc_heap_new w1 _)
  have hbel := fun W => below_any t x.p W h0.tl hx
  obtain ⟨n, hn⟩ : ∃ n, n = L.length := ⟨_, rfl⟩
  have hr2 := hr
  rw [← hn] at hr2 hl
  have hhid : hid (topO b t) x.path = (b && belowP t.data.toList x.p.data.toList) := by unfold hid topO; cases b <;> rfl
  rw [hhid]
  generalize belowP t.data.toList x.p.data.toList = bl at *
  have Hw1 := Lib.hid hw1
  clear hw1
  have Hi := Lib.hid hi
  have Hz0 := Lib.hid hz0
  have Hz1 := Lib.hid hz1
  have Hz2 := Lib.hid hz2
  have H0 := Lib.hid h0
  have H1 := Lib.hid h1
  have Ho := Lib.hid ho
  have Hr := Lib.hid hr
  have Hr2 := Lib.hid hr2
  have Hw0 := Lib.hid hw0
  have Hb0 := Lib.hid hb0
  have Hb1 := Lib.hid hb1
  have Hc0 := Lib.hid hc0
  have Hnew := Lib.hid hnew
  have Hn := Lib.hid hn
  have Hbel := Lib.hid hbel
  clear hi hz0 hz1 hz2 h0 h1 ho hr hr2 hw0 hb0 hb1 hc0 hnew h hn hbel hhid hltb hlhb
  go_enter Tryz.func25, Tryz.ntmps25
  go_upto_region 1 with fail
  rw [← Hw0.out]
  cases b with
  | false =>
    go_wp2_with (first
                 | (rw [← Hw1.out])
                 | (at_builtin; go_loud (refine wpList_append_own_at _ rfl _ _ 28 rfl base 49 i0 _ 7 88 Tryz.underlying28 Hi.out Hz0.out Hz1.out Hz2.out rfl (by decide) _ _ _ rfl (Hr2.out.alloc _) ⟨w1.heap.size, 0, none⟩ 1 1 (chgC (goneOf x)) rfl rfl Hnew.out (by simp [Value.oneCell', chgC]) (by unfold maxLen; omega) (by omega) (by simp; omega) ?_); intro v' w2 hown' hgrow _ hblk; obtain ⟨g', cap', rfl⟩ := ownsRow_succ hown'; obtain ⟨hv1, hv2, hv3⟩ := H1.out.push hs1 Ho.out Hr.out (by rw [← Hn.out]; exact hown') hgrow; have hc1 := hv1.cell; have hf1 := hv1.frozen
                    have Hv2 := Lib.hid hv2
                    have Hv3 := Lib.hid hv3
                    clear hown' hgrow hblk hv1 hv2 hv3))
    exact bodyPost_end (results_none rfl _ _ _) rfl ⟨rfl, Hb0.out.trans (Hb1.out.trans Hv3.out), Hv2.out⟩
  | true =>
    cases bl with
    | true =>
      go_wp2_with (go_at_call 11; refine (Hbel.out _).mono ?_; rintro e w2 ⟨rfl, rfl⟩)
      exact bodyPost_end (results_none rfl _ _ _) rfl ⟨rfl, Hb0.out, H0.out⟩
    | false =>
      go_wp2_with (first
                 | (go_at_call 11; refine (Hbel.out _).mono ?_; rintro e w2 ⟨rfl, rfl⟩)
                 | (rw [← Hw1.out])
                 | (at_builtin; go_loud (refine wpList_append_own_at _ rfl _ _ 28 rfl base 49 i0 _ 7 88 Tryz.underlying28 Hi.out Hz0.out Hz1.out Hz2.out rfl (by decide) _ _ _ rfl (Hr2.out.alloc _) ⟨w1.heap.size, 0, none⟩ 1 1 (chgC (goneOf x)) rfl rfl Hnew.out (by simp [Value.oneCell', chgC]) (by unfold maxLen; omega) (by omega) (by simp; omega) ?_); intro v' w2 hown' hgrow _ hblk; obtain ⟨g', cap', rfl⟩ := ownsRow_succ hown'; obtain ⟨hv1, hv2, hv3⟩ := H1.out.push hs1 Ho.out Hr.out (by rw [← Hn.out]; exact hown') hgrow; have hc1 := hv1.cell; have hf1 := hv1.frozen
                    have Hv2 := Lib.hid hv2
                    have Hv3 := Lib.hid hv3
                    clear hown' hgrow hblk hv1 hv2 hv3))
      exact bodyPost_end (results_none rfl _ _ _) rfl ⟨rfl, Hb0.out.trans (Hb1.out.trans Hv3.out), Hv2.out⟩
set_option maxRecDepth 100000 in
set_option maxHeartbeats 2000000 in
/-- the paths are compared -/
theorem cmp3_any (x y : Ent) (w : World) (hx : x.p.size < 4611686018427387904) (hy : y.p.size < 4611686018427387904) :
    Calls Tryz.prog 28 #[.agg #[.string x.p, .int .i64 x.k, .int .i64 x.m, .string x.d, .string x.l], .agg #[.string y.p, .int .i64 y.k, .int .i64 y.m, .string y.d, .string y.l]] w fun r w' => r = .returned (.int .i64 (compareP x.path y.path)) ∧ Below w.heap.size w w' := by
  have hcmp := fun W => compare_any x.p y.p W hx hy
  rw [show compareP x.path y.path = compareP x.p.data.toList y.p.data.toList from rfl]
  generalize compareP x.p.data.toList y.p.data.toList = d at *
  have Hc := Lib.hid hcmp
  clear hcmp
  go_enter Tryz.func28, Tryz.ntmps28
  go_wp2_with (go_at_call 16; refine (Hc.out _).mono ?_; rintro e w2 ⟨rfl, q, rfl⟩)
  go_ret
  exact ⟨rfl, below_drewN (((Below.refl _ _).alloc (Nat.le_refl _) _).alloc (by simp) _) _⟩
theorem neq_ent (x y : Ent) (w : World) : (binOp .neq 33 (.agg #[.string x.p, .int .i64 x.k, .int .i64 x.m, .string x.d, .string x.l]) (.agg #[.string y.p, .int .i64 y.k, .int .i64 y.m, .string y.d, .string y.l])).run Tryz.prog w = .ok (.bool (!entEq x y)) w := by
  have h := eqEnt x.p x.k x.m x.d x.l y.p y.k y.m y.d y.l w
  simp only [binOp]
  simp [Op.equal, Op.maxDepth, h]
/-- what the variables say -/
abbrev DSt := Bool × ByteArray × List Chg
def goneS (x : Ent) (s : DSt) : DSt := if hid (topO s.1 s.2.1) x.path = true then s else (true, x.p, s.2.2 ++ [goneOf x])
def layS (y : Ent) (s : DSt) : DSt := (s.1, s.2.1, s.2.2 ++ [layOf y])
def bothS (x y : Ent) (s : DSt) : DSt := if alike x y = true then (if entEq x y = true then s else layS y s) else layS y (goneS x s)
def EnvS (w : World) (base : Nat) (K : Blks) (s : DSt) : Prop := EnvAt w base K s.1 s.2.1 s.2.2
theorem goneS_len (x : Ent) (s : DSt) : s.2.2.length ≤ (goneS x s).2.2.length ∧ (goneS x s).2.2.length ≤ s.2.2.length + 1 := by
  unfold goneS
  split <;> simp
theorem EnvS.below {w w' : World} {base B : Nat} {K : Blks} {s : DSt} (h : EnvS w base K s) (hw : Below B w w') (hB : w.heap.size ≤ B) : EnvS w' base K s := EnvAt.below h hw hB
theorem gone_s {w : World} {base : Nat} {K : Blks} {s : DSt} (x : Ent) (h : EnvS w base K s) (hbase : base ≤ w.heap.size) (hl : s.2.2.length < 1099511627776) (hx : x.p.size < 4611686018427387904) :
    Calls Tryz.prog 25 #[.agg #[.string x.p, .int .i64 x.k, .int .i64 x.m, .string x.d, .string x.l], .pointer (some ⟨K.h, 0, none⟩), .pointer (some ⟨K.t, 0, none⟩), .pointer (some ⟨K.o, 0, none⟩)] w fun r w' => r = .returned (.tuple #[]) ∧ Keeps (okE K base) w w' ∧ EnvS w' base K (goneS x s) := by
  refine (gone_any x h hbase hl hx).mono ?_
  rintro r w' ⟨h1, h2, h3⟩
  refine ⟨h1, h2, ?_⟩
  unfold goneS EnvS
  by_cases hh : hid (topO s.1 s.2.1) x.path = true
  · rw [if_pos hh] at h3 ⊢; exact h3
  · rw [if_neg hh] at h3 ⊢; exact h3
theorem lay_s {w : World} {base : Nat} {K : Blks} {s : DSt} (y : Ent) (h : EnvS w base K s) (hbase : base ≤ w.heap.size) (hl : s.2.2.length < 1099511627776) :
    Calls Tryz.prog 26 #[.agg #[.string y.p, .int .i64 y.k, .int .i64 y.m, .string y.d, .string y.l], .pointer (some ⟨K.o, 0, none⟩)] w fun r w' => r = .returned (.tuple #[]) ∧ Keeps (okE K base) w w' ∧ EnvS w' base K (layS y s) := lay_any y h hbase hl
theorem okE_ent {K : Blks} {base : Nat} {w : World} {k : Nat} {cs : Array Value} (hn : ∀ g ∈ [K.h, K.t, K.o], k ≠ g) : okE K base k (.cells cs 33 (0, 0)) := ⟨hn _ (by simp), hn _ (by simp), hn _ (by simp), .inr (fun cs' fz hh => absurd (by injection hh : 33 = 49) (by decide))⟩
end
end Go.Proofs.YtfanfkogogijpaaGreatDoor
namespace Go.Proofs.YtfanfkogogijpaaGreatDoor
section
open Go.RowKit Go.Maps Go.Shelf
open Go.Lib hiding intOf size_eq
set_option maxRecDepth 100000 in
set_option maxHeartbeats 2000000 in
/-- two entries of one path -/
theorem both_any {w : World} {base : Nat} {K : Blks} {s : DSt} (x y : Ent) (h : EnvS w base K s) (hbase : base ≤ w.heap.size) (hl : s.2.2.length + 1 < 1099511627776) (hx : x.p.size < 4611686018427387904) :
    Calls Tryz.prog 29 #[.agg #[.string x.p, .int .i64 x.k, .int .i64 x.m, .string x.d, .string x.l], .agg #[.string y.p, .int .i64 y.k, .int .i64 y.m, .string y.d, .string y.l], .pointer (some ⟨K.g, 0, none⟩), .pointer (some ⟨K.l, 0, none⟩)] w fun r w' => r = .returned (.tuple #[]) ∧ Keeps (okE K base) w w' ∧ EnvS w' base K (bothS x y s) := by
  obtain ⟨w1, hw1⟩ : ∃ x', x' = (w.alloc (.cells #[.string x.p, .int .i64 x.k, .int .i64 x.m, .string x.d, .string x.l] 33)).alloc (.cells #[.string y.p, .int .i64 y.k, .int .i64 y.m, .string y.d, .string y.l] 33) := ⟨_, rfl⟩
  have h1 : EnvS w1 base K s := by rw [hw1]; exact EnvAt.alloc (EnvAt.alloc h _) _
  have hk1 : Keeps (okE K base) w w1 := by rw [hw1]; exact ((Keeps.refl _ w).alloc _).alloc _
  have hs1 : base ≤ w1.heap.size := by rw [hw1]; simp; omega
  have hx1 : w1.heap[w.heap.size]? = some (.cells #[.string x.p, .int .i64 x.k, .int .i64 x.m, .string x.d, .string x.l] 33 (0, 0)) := by rw [hw1]; exact (heap_alloc_old _ _ (by simp)).trans (World.alloc_heap_new w _)
  have hy1 : w1.heap[w.heap.size + 1]? = some (.cells #[.string y.p, .int .i64 y.k, .int .i64 y.m, .string y.d, .string y.l] 33 (0, 0)) := by
    rw [hw1]
    have := World.alloc_heap_new (w.alloc (.cells #[.string x.p, .int .i64 x.k, .int .i64 x.m, .string x.d, .string x.l] 33)) (.cells #[.string y.p, .int .i64 y.k, .int .i64 y.m, .string y.d, .string y.l] 33)
    simpa using this
  have l1 := (EnvAt.h h).lt
  have l2 := (EnvAt.t h).lt
  have l3 : K.o < w.heap.size := by obtain ⟨v, _, hv, _⟩ := EnvAt.o h; exact hv.lt
  have okx : ∀ cs, okE K base w.heap.size (.cells cs 33 (0, 0)) := fun cs => okE_ent (w := w) (by simp; omega)
  have oky : ∀ cs, okE K base (w.heap.size + 1) (.cells cs 33 (0, 0)) := fun cs => okE_ent (w := w) (by simp; omega)
  have xk : w1.cell? ⟨w.heap.size, 1, none⟩ = some (.int .i64 x.k) := block_cell (j := 1) hx1 rfl
  have yk : w1.cell? ⟨w.heap.size + 1, 1, none⟩ = some (.int .i64 y.k) := block_cell (j := 1) hy1 rfl
  have gc1 := (EnvAt.g h1).cell
  have lc1 := (EnvAt.l h1).cell
  have hg := gone_s x h1 hs1 (by omega) hx
  have hlay : ∀ (s' : DSt) W, EnvS W base K s' → base ≤ W.heap.size → s'.2.2.length ≤ s.2.2.length + 1 → _ := fun s' W a b c => lay_s (w := W) y a b (by omega)
  have hgl := (goneS_len x s).2
  have hneq : ∀ W, (binOp .neq 33 (.agg #[.string x.p, .int .i64 x.k, .int .i64 x.m, .string x.d, .string x.l]) (.agg #[.string y.p, .int .i64 y.k, .int .i64 y.m, .string y.d, .string y.l])).run Tryz.prog W = .ok (.bool (!entEq x y)) W := fun W => neq_ent x y W
  have eb : entEq x y = entEq ⟨x.p, x.k, x.m, x.d, x.l⟩ ⟨y.p, y.k, y.m, y.d, y.l⟩ := rfl
  have hal : alike x y = (decide (x.k = 1) == decide (y.k = 1)) := rfl
  have hEqAl : alike x y = false → entEq x y = false := fun e => by
    cases he : entEq x y with
    | false => rfl
    | true => rw [entEq_iff.1 he] at e; unfold alike at e; simp at e
  have res : (alike x y = true ∧ entEq x y = true ∧ bothS x y s = s) ∨ (alike x y = true ∧ entEq x y = false ∧ bothS x y s = layS y s) ∨ (alike x y = false ∧ entEq x y = false ∧ bothS x y s = layS y (goneS x s)) := by
    unfold bothS
    cases ha : alike x y with
    | false => exact .inr (.inr ⟨rfl, hEqAl ha, by simp⟩)
    | true => cases he : entEq x y with
      | true => exact .inl ⟨rfl, rfl, by simp⟩
      | false => exact .inr (.inl ⟨rfl, rfl, by simp⟩)
  generalize bothS x y s = S at *
  clear hEqAl eb
  have H1 := Lib.hid h1
  have Hk1 := Lib.hid hk1
  have Hs1 := Lib.hid hs1
  have Hx1 := Lib.hid hx1
  have Hy1 := Lib.hid hy1
  have Okx := Lib.hid okx
  have Oky := Lib.hid oky
  have Hg := Lib.hid hg
  have Hlay := Lib.hid hlay
  have Hw1 := Lib.hid hw1
  have Hgl := Lib.hid hgl
  clear h1 hk1 hs1 hx1 hy1 okx oky hg hlay hw1 hgl h l1 l2 l3
  unfold goneF at gc1
  unfold layF at lc1
  rcases res with ⟨ra, re, rfl⟩ | ⟨ra, re, rfl⟩ | ⟨ra, re, rfl⟩
  · rw [re] at hneq
    obtain ⟨d, k1, k2⟩ : ∃ d, (x.k == 1) = d ∧ (y.k == 1) = d := ⟨x.k == 1, rfl, by rw [ra] at hal; exact (beq_iff_eq.1 hal.symm).symm⟩
    clear hal
    go_enter Tryz.func29, Tryz.ntmps29
    go_upto_region 1 with fail
    rw [← Hw1.out]
    cases d
    all_goals go_wp2_with (first
      | (refine wpList_load_row rfl _ _ rfl w.heap.size rfl 33 #[.string x.p, .int .i64 x.k, .int .i64 x.m, .string x.d, .string x.l] (0, 0) _ Hx1.out Tryz.underlying33 rfl (by kernel_rfl) ?_)
      | (refine wpList_load_row rfl _ _ rfl (w.heap.size + 1) rfl 33 #[.string y.p, .int .i64 y.k, .int .i64 y.m, .string y.d, .string y.l] (0, 0) _ Hy1.out Tryz.underlying33 rfl (by kernel_rfl) ?_))
    all_goals exact bodyPost_end (results_none rfl _ _ _) rfl ⟨rfl, Hk1.out, H1.out⟩
  · rw [re] at hneq
    obtain ⟨d, k1, k2⟩ : ∃ d, (x.k == 1) = d ∧ (y.k == 1) = d := ⟨x.k == 1, rfl, by rw [ra] at hal; exact (beq_iff_eq.1 hal.symm).symm⟩
    clear hal
    have HL := Lib.hid (Hlay.out s w1 H1.out Hs1.out (by omega))
    clear Hg
    go_enter Tryz.func29, Tryz.ntmps29
    go_upto_region 1 with fail
    rw [← Hw1.out]
    cases d
    all_goals go_wp2_with (first
      | (refine wpList_load_row rfl _ _ rfl w.heap.size rfl 33 #[.string x.p, .int .i64 x.k, .int .i64 x.m, .string x.d, .string x.l] (0, 0) _ Hx1.out Tryz.underlying33 rfl (by kernel_rfl) ?_)
      | (refine wpList_load_row rfl _ _ rfl (w.heap.size + 1) rfl 33 #[.string y.p, .int .i64 y.k, .int .i64 y.m, .string y.d, .string y.l] (0, 0) _ Hy1.out Tryz.underlying33 rfl (by kernel_rfl) ?_)
      | (refine HL.out.mono ?_; rintro e w2 ⟨rfl, h2, h3⟩; have H2 := Lib.hid h2; have H3 := Lib.hid h3; clear h2 h3 HL))
    all_goals exact bodyPost_end (results_none rfl _ _ _) rfl ⟨rfl, Hk1.out.trans H2.out, H3.out⟩
  · rw [re] at hneq
    obtain ⟨d, k1, k2⟩ : ∃ d, (x.k == 1) = d ∧ (y.k == 1) = !d := ⟨x.k == 1, rfl, by rw [ra] at hal; show decide (y.k = 1) = !decide (x.k = 1); revert hal; cases decide (x.k = 1) <;> cases decide (y.k = 1) <;> decide⟩
    clear hal
    go_enter Tryz.func29, Tryz.ntmps29
    go_upto_region 1 with fail
    rw [← Hw1.out]
    cases d
    all_goals go_wp2_with (first
      | (refine wpList_load_row rfl _ _ rfl w.heap.size rfl 33 #[.string x.p, .int .i64 x.k, .int .i64 x.m, .string x.d, .string x.l] (0, 0) _ Hx1.out Tryz.underlying33 rfl (by kernel_rfl) ?_)
      | (refine wpList_load_row rfl _ _ rfl (w.heap.size + 1) rfl 33 #[.string y.p, .int .i64 y.k, .int .i64 y.m, .string y.d, .string y.l] (0, 0) _ Hy1.out Tryz.underlying33 rfl (by kernel_rfl) ?_)
      | (refine wpList_load_row rfl _ _ rfl w.heap.size rfl 33 #[.string x.p, .int .i64 x.k, .int .i64 x.m, .string x.d, .string x.l] (0, 0) _ Hx2.out Tryz.underlying33 rfl (by kernel_rfl) ?_)
      | (refine wpList_load_row rfl _ _ rfl (w.heap.size + 1) rfl 33 #[.string y.p, .int .i64 y.k, .int .i64 y.m, .string y.d, .string y.l] (0, 0) _ Hy2.out Tryz.underlying33 rfl (by kernel_rfl) ?_)
      | (refine Hg.out.mono ?_; rintro e w2 ⟨rfl, h2, h3⟩
         have Hx2 := Lib.hid (h2.block _ _ Hx1.out (Okx.out _))
         have Hy2 := Lib.hid (h2.block _ _ Hy1.out (Oky.out _))
         have lc2 := (EnvAt.l h3).cell
         have HL := Lib.hid (Hlay.out (goneS x s) w2 h3 (Nat.le_trans Hs1.out h2.size) Hgl.out)
         have H2 := Lib.hid h2
         unfold layF at lc2
         clear h2 h3 Hg)
      | (refine HL.out.mono ?_; rintro e w3 ⟨rfl, h2, h3⟩; have H4 := Lib.hid h2; have H3 := Lib.hid h3; clear h2 h3 HL))
    all_goals exact bodyPost_end (results_none rfl _ _ _) rfl ⟨rfl, Hk1.out.trans (H2.out.trans H4.out), H3.out⟩
end
end Go.Proofs.YtfanfkogogijpaaGreatDoor
namespace Go.Proofs.YtfanfkogogijpaaGreatDoor
section
open Go.RowKit Go.Maps Go.Shelf
open Go.Lib hiding intOf size_eq
/-- where merge stands -/
structure MergeI (W0 wr : World) (K : Blks) (total : List Chg) (N : Nat) (va vb : Value) (ra rb : List Ent) (s : DSt) : Prop where
  ea : EntsAt W0 va ra
  eb : EntsAt W0 vb rb
  below : Below W0.heap.size W0 wr
  env : EnvS wr W0.heap.size K s
  fuel : ∃ f, ra.length + rb.length ≤ f ∧ s.2.2 ++ chgF f ra rb (topO s.1 s.2.1) = total
  sa : ∀ x ∈ ra, x.p.size < 4611686018427387904
  sb : ∀ x ∈ rb, x.p.size < 4611686018427387904
  len : s.2.2.length + (ra.length + rb.length) ≤ N
theorem topO_gone (x : Ent) (s : DSt) : topO (goneS x s).1 (goneS x s).2.1 = if hid (topO s.1 s.2.1) x.path = true then topO s.1 s.2.1 else some x.path := by
  unfold goneS
  split <;> rfl
theorem out_gone (x : Ent) (s : DSt) : (goneS x s).2.2 = if hid (topO s.1 s.2.1) x.path = true then s.2.2 else s.2.2 ++ [goneOf x] := by
  unfold goneS
  split <;> rfl
section
variable {W0 wr w' : World} {K : Blks} {total : List Chg} {N : Nat} {va vb va' vb' : Value} {ra rb : List Ent} {s : DSt} {x y : Ent}
theorem EnvS.ok {w : World} {base : Nat} (h : EnvS w base K s) : K.Ok base := EnvAt.ok h
theorem MergeI.gone (h : MergeI W0 wr K total N va vb (x :: ra) rb s) (hc : rb = [] ∨ ∃ y r, rb = y :: r ∧ compareP x.path y.path < 0) (ha : EntsAt W0 va' ra) (hk : Keeps (okE K W0.heap.size) wr w') (he : EnvS w' W0.heap.size K (goneS x s)) :
    MergeI W0 w' K total N va' vb ra rb (goneS x s) := by
  obtain ⟨f, hf, ht⟩ := h.fuel
  refine ⟨ha, h.eb, h.below.trans (keeps_below h.env.ok h.below.size hk), he, ?_, fun z hz => h.sa z (List.mem_cons_of_mem _ hz), h.sb, ?_⟩
  · obtain ⟨f, rfl⟩ : ∃ g, f = g + 1 := ⟨f - 1, by simp at hf; omega⟩
    refine ⟨f, by simp at hf; omega, ?_⟩
    rw [topO_gone, out_gone, ← ht]
    rcases hc with rfl | ⟨y, r, rfl, hc⟩
    · conv => rhs; unfold chgF
      split <;> simp
    · conv => rhs; unfold chgF
      rw [if_pos hc]
      split <;> simp
  · have h1 := h.len
    have h2 := (goneS_len x s).2
    simp at h1
    omega
theorem MergeI.lay (h : MergeI W0 wr K total N va vb ra (y :: rb) s) (hc : ra = [] ∨ ∃ x r, ra = x :: r ∧ 0 < compareP x.path y.path) (hb : EntsAt W0 vb' rb) (hk : Keeps (okE K W0.heap.size) wr w') (he : EnvS w' W0.heap.size K (layS y s)) :
    MergeI W0 w' K total N va vb' ra rb (layS y s) := by
  obtain ⟨f, hf, ht⟩ := h.fuel
  refine ⟨h.ea, hb, h.below.trans (keeps_below h.env.ok h.below.size hk), he, ?_, h.sa, fun z hz => h.sb z (List.mem_cons_of_mem _ hz), ?_⟩
  · obtain ⟨f, rfl⟩ : ∃ g, f = g + 1 := ⟨f - 1, by simp at hf; omega⟩
    refine ⟨f, by simp at hf; omega, ?_⟩
    rw [← ht]
    unfold layS
    rcases hc with rfl | ⟨x, r, rfl, hc⟩
    · conv => rhs; unfold chgF
      simp
    · conv => rhs; unfold chgF
      rw [if_neg (by omega), if_pos hc]
      simp
  · have h1 := h.len
    unfold layS
    simp at h1 ⊢
    omega
theorem MergeI.both (h : MergeI W0 wr K total N va vb (x :: ra) (y :: rb) s) (hc : compareP x.path y.path = 0) (ha : EntsAt W0 va' ra) (hb : EntsAt W0 vb' rb) (hk : Keeps (okE K W0.heap.size) wr w') (he : EnvS w' W0.heap.size K (bothS x y s)) :
    MergeI W0 w' K total N va' vb' ra rb (bothS x y s) := by
  obtain ⟨f, hf, ht⟩ := h.fuel
  refine ⟨ha, hb, h.below.trans (keeps_below h.env.ok h.below.size hk), he, ?_, fun z hz => h.sa z (List.mem_cons_of_mem _ hz), fun z hz => h.sb z (List.mem_cons_of_mem _ hz), ?_⟩
  · obtain ⟨f, rfl⟩ : ∃ g, f = g + 1 := ⟨f - 1, by simp at hf; omega⟩
    refine ⟨f, by simp at hf; omega, ?_⟩
    rw [← ht]
    conv => rhs; unfold chgF
    rw [if_neg (by omega), if_neg (by omega)]
    unfold bothS
    by_cases h1 : alike x y = true
    · rw [if_pos h1, if_pos h1]
      by_cases h2 : entEq x y = true
      · rw [if_pos h2, if_pos h2]
      · rw [if_neg h2, if_neg h2]
        unfold layS
        simp
    · rw [if_neg h1, if_neg h1]
      show (goneS x s).2.2 ++ [layOf y] ++ chgF f ra rb (topO (goneS x s).1 (goneS x s).2.1) = _
      rw [topO_gone, out_gone]
      split <;> simp
  · have h1 := h.len
    have h2 := (goneS_len x s).2
    unfold bothS layS
    simp at h1
    split
    · split
      · omega
      · simp; omega
    · simp; omega
end
/-- the rest of a list -/
theorem EntsAt.tail {w : World} {a : Addr} {n cap : Nat} {x : Ent} {r : List Ent} (h : EntsAt w (.slice (some a) n cap) (x :: r)) : EntsAt w (.slice (if cap = 1 then some a else some ⟨a.block, a.off + 5, none⟩) r.length (cap - 1)) r := by
  have e5 : (⟨a.block, a.off + 5, none⟩ : Addr) = a.add 5 := by unfold Addr.add; rw [if_neg (by decide)]
  rw [e5]
  obtain ⟨o, cap', h1, h2, h3, h4⟩ := h
  injection h1 with e1 e2 e3
  subst e1 e3
  simp only [List.length_cons] at h2
  refine ⟨_, _, rfl, by omega, by omega, fun i e he => ?_⟩
  obtain ⟨a', e1, hl, hc⟩ := h4 (i + 1) e (by simpa using he)
  injection e1 with e1
  subst e1
  have hr : 0 < r.length := by have := (List.getElem?_eq_some_iff.1 he).1; omega
  refine ⟨_, if_neg (by omega), ?_, fun j u hu => ?_⟩
  · rw [add_block]; exact hl
  · rw [add_add, add_add, show 5 + (i * 5 + j) = (i + 1) * 5 + j by omega, ← add_add]
    exact hc j u hu
def lenV : Value → Nat
  | .slice _ n _ => n
  | _ => 0
/-- what a head is in memory -/
theorem EntsAt.head {w wr : World} {o : Option Addr} {n cap : Nat} {x : Ent} {r : List Ent} (h : EntsAt w (.slice o n cap) (x :: r)) (hb : Below w.heap.size w wr) : ∃ a, o = some a ∧ n = r.length + 1 ∧ n ≤ cap ∧ cap ≤ maxLen ∧ ∀ W, Below wr.heap.size wr W → ∀ j u, ([.string x.p, .int .i64 x.k, .int .i64 x.m, .string x.d, .string x.l] : List Value)[j]? = some u → W.cell? ((a.add (0 * 5)).add j) = some u := by
  obtain ⟨o', cap', h1, h2, h3, h4⟩ := h
  injection h1 with e1 e2 e3
  subst e1 e2 e3
  obtain ⟨a, e1, hl, hc⟩ := h4 0 x rfl
  refine ⟨a, e1, rfl, h2, h3, fun W hW j u hu => ?_⟩
  have := hc j u hu
  unfold World.cell? at this ⊢
  rw [hW.block _ (by rw [add_block, add_block]; have := hb.size; omega), hb.block _ (by rw [add_block, add_block]; omega)]
  exact this
set_option maxRecDepth 100000 in
set_option maxHeartbeats 4000000 in
theorem merge_any {W0 w : World} {K : Blks} {total : List Chg} {N : Nat} {va vb : Value} {A B : List Ent} {s : DSt} (h : MergeI W0 w K total N va vb A B s) (hN : N < 1099511627776) :
    Calls Tryz.prog 27 #[va, vb, .func (.func 28) #[] #[], goneF K, .func (.func 29) #[] #[.pointer (some ⟨K.g, 0, none⟩), .pointer (some ⟨K.l, 0, none⟩)], layF K] w fun r w' =>
      r = .returned (.tuple #[]) ∧ Below W0.heap.size W0 w' ∧ ∃ s', EnvS w' W0.heap.size K s' ∧ s'.2.2 = total := by
  have H := Lib.hid h
  clear h
  unfold goneF layF
  go_enter Tryz.func27, Tryz.ntmps27
  go_wp2
  go_loopw [0, 1] (fun xv yv wr => ∃ (ra rb : List Ent) (s' : DSt), Hid (MergeI W0 wr K total N xv yv ra rb s')) (fun xv yv _ => lenV xv + lenV yv)
  case atStart => exact ⟨A, B, s, H⟩
  case round =>
    obtain ⟨ra, rb, s', hI⟩ := hrel
    obtain ⟨oa, ca, rfl, hla, hca, _⟩ := hI.out.ea
    obtain ⟨ob, cb, rfl, hlb, hcb, _⟩ := hI.out.eb
    clear H
    have hNl := hI.out.len
    cases ra with
    | nil =>
      cases rb with
      | nil =>
        go_wp2
        refine bodyPost_end (results_none rfl _ _ _) rfl ⟨rfl, hI.out.below, s', hI.out.env, ?_⟩
        obtain ⟨f, _, hf⟩ := hI.out.fuel
        rw [← hf]
        cases f <;> simp [chgF]
      | cons y rb =>
        obtain ⟨b, rfl, _, _, _, hcy⟩ := hI.out.eb.head hI.out.below
        have hW := Lib.hid hcy
        simp only [List.length_cons, List.length_nil] at *
        obtain ⟨n, hn⟩ : ∃ n, n = rb.length := ⟨_, rfl⟩
        try rw [← hn] at hla
        try rw [← hn] at hlb
        try rw [← hn] at hNl
        try rw [← hn] at hI
        rw [← hn]
        have HL := Lib.hid (lay_s (w := wr) y hI.out.env hI.out.below.size (by omega))
        go_wp2_with (first
          | (refine wpList_load_items rfl _ _ rfl (b.add (0 * 5)) rfl [.string y.p, .int .i64 y.k, .int .i64 y.m, .string y.d, .string y.l] _ (hW.out _ (Below.refl _ _)) Tryz.underlying33 rfl (by kernel_rfl) ?_)
          | (refine HL.out.mono ?_; rintro e w2 ⟨rfl, hk, he⟩; have Hk := Lib.hid hk; have He := Lib.hid he; clear hk he HL))
        go_roundw
        case rel => exact ⟨[], rb, layS y s', Lib.hid (hI.out.lay (.inl rfl) hI.out.eb.tail Hk.out He.out)⟩
        case measure => first | (simp [lenV]; done) | (simp [lenV]; omega)
    | cons x ra =>
      obtain ⟨a, rfl, _, _, _, hcx⟩ := hI.out.ea.head hI.out.below
      have hWx := Lib.hid hcx
      have hxs := hI.out.sa x (List.mem_cons_self ..)
      cases rb with
      | nil =>
        simp only [List.length_cons, List.length_nil] at *
        obtain ⟨n, hn⟩ : ∃ n, n = ra.length := ⟨_, rfl⟩
        try rw [← hn] at hla
        try rw [← hn] at hlb
        try rw [← hn] at hNl
        try rw [← hn] at hI
        rw [← hn]
        have HL := Lib.hid (gone_s (w := wr) x hI.out.env hI.out.below.size (by omega) hxs)
        go_wp2_with (first
          | (refine wpList_load_items rfl _ _ rfl (a.add (0 * 5)) rfl [.string x.p, .int .i64 x.k, .int .i64 x.m, .string x.d, .string x.l] _ (hWx.out _ (Below.refl _ _)) Tryz.underlying33 rfl (by kernel_rfl) ?_)
          | (refine HL.out.mono ?_; rintro e w2 ⟨rfl, hk, he⟩; have Hk := Lib.hid hk; have He := Lib.hid he; clear hk he HL))
        go_roundw
        case rel => exact ⟨ra, [], goneS x s', Lib.hid (hI.out.gone (.inl rfl) hI.out.ea.tail Hk.out He.out)⟩
        case measure => first | (simp [lenV]; done) | (simp [lenV]; omega)
      | cons y rb =>
        obtain ⟨b, rfl, _, _, _, hcy⟩ := hI.out.eb.head hI.out.below
        have hWy := Lib.hid hcy
        have hys := hI.out.sb y (List.mem_cons_self ..)
        simp only [List.length_cons, List.length_nil] at *
        obtain ⟨n, hn⟩ : ∃ n, n = ra.length := ⟨_, rfl⟩
        obtain ⟨m, hm⟩ : ∃ m, m = rb.length := ⟨_, rfl⟩
        try rw [← hn] at hla
        try rw [← hn] at hlb
        try rw [← hn] at hNl
        try rw [← hn] at hI
        try rw [← hm] at hla
        try rw [← hm] at hlb
        try rw [← hm] at hNl
        try rw [← hm] at hI
        rw [← hn, ← hm]
        have hcmp := fun W => cmp3_any x y W hxs hys
        obtain ⟨c, hc⟩ : ∃ c, c = compareP x.path y.path := ⟨_, rfl⟩
        rw [← hc] at hcmp
        have HC := Lib.hid hcmp
        have Hn := Lib.hid hn
        have Hm := Lib.hid hm
        have Hc := Lib.hid hc
        clear hcmp hn hm hc hcx hcy
        go_wp2
        refine gregion_tail 7 (by kernel_rfl) (by kernel_rfl) ?_
        intro wz hz
        have hbz : Below wr.heap.size wr wz := by rw [hz]; exact (Below.refl _ _).drew
        have HB := Lib.hid hbz
        have Henv := Lib.hid (hI.out.env.below hbz (Nat.le_refl _))
        clear hz
        simp only [List.take_succ_cons, List.take_zero, List.drop_succ_cons, List.drop_zero]
        iterate 3 still_step
        refine still_load_items rfl _ _ rfl (a.add (0 * 5)) rfl [.string x.p, .int .i64 x.k, .int .i64 x.m, .string x.d, .string x.l] _ (hWx.out _ hbz) Tryz.underlying33 rfl (by kernel_rfl) ?_
        iterate 2 still_step
        refine still_load_items rfl _ _ rfl (b.add (0 * 5)) rfl [.string y.p, .int .i64 y.k, .int .i64 y.m, .string y.d, .string y.l] _ (hWy.out _ hbz) Tryz.underlying33 rfl (by kernel_rfl) ?_
        try refine wpStill_nil ?_
        have hx3 : ∀ W, Below wz.heap.size wz W → ∀ j u, ([.string x.p, .int .i64 x.k, .int .i64 x.m, .string x.d, .string x.l] : List Value)[j]? = some u → W.cell? ((a.add (0 * 5)).add j) = some u := fun W hW => hWx.out W (hbz.trans (hW.mono hbz.size))
        have hy3 : ∀ W, Below wz.heap.size wz W → ∀ j u, ([.string y.p, .int .i64 y.k, .int .i64 y.m, .string y.d, .string y.l] : List Value)[j]? = some u → W.cell? ((b.add (0 * 5)).add j) = some u := fun W hW => hWy.out W (hbz.trans (hW.mono hbz.size))
        have HX := Lib.hid hx3
        have HY := Lib.hid hy3
        clear hx3 hy3 hWx hWy hbz
        by_cases c1 : c < 0
        · skip
          go_wp2_with (first
            | (refine (HC.out _).mono ?_; rintro e w2 ⟨rfl, hb2⟩; have HB2 := Lib.hid hb2; have HG := Lib.hid (gone_s (w := w2) x (Henv.out.below hb2 (Nat.le_refl _)) (Nat.le_trans hI.out.below.size (Nat.le_trans HB.out.size hb2.size)) (by omega) hxs); clear hb2 HC)
            | (refine wpList_load_items rfl _ _ rfl (a.add (0 * 5)) rfl [.string x.p, .int .i64 x.k, .int .i64 x.m, .string x.d, .string x.l] _ (HX.out _ HB2.out) Tryz.underlying33 rfl (by kernel_rfl) ?_)
            | (refine HG.out.mono ?_; rintro e w3 ⟨rfl, hk, he⟩; have Hk := Lib.hid hk; have He := Lib.hid he; clear hk he HG))
          go_roundw
          case rel => exact ⟨ra, y :: rb, goneS x s', Lib.hid (hI.out.gone (.inr ⟨y, rb, rfl, by rw [← Hc.out]; exact c1⟩) (by have := hI.out.ea.tail; rw [← Hn.out] at this; exact this) ((Keeps.of_below (HB.out.trans (HB2.out.mono HB.out.size)) (fun k o hk _ => heap_lt hk)).trans Hk.out) He.out)⟩
          case measure => first | (simp [lenV]; done) | (simp [lenV]; omega)
        · by_cases c2 : 0 < c
          · skip
            go_wp2_with (first
              | (refine (HC.out _).mono ?_; rintro e w2 ⟨rfl, hb2⟩; have HB2 := Lib.hid hb2; have HG := Lib.hid (lay_s (w := w2) y (Henv.out.below hb2 (Nat.le_refl _)) (Nat.le_trans hI.out.below.size (Nat.le_trans HB.out.size hb2.size)) (by omega)); clear hb2 HC)
              | (refine wpList_load_items rfl _ _ rfl (b.add (0 * 5)) rfl [.string y.p, .int .i64 y.k, .int .i64 y.m, .string y.d, .string y.l] _ (HY.out _ HB2.out) Tryz.underlying33 rfl (by kernel_rfl) ?_)
              | (refine HG.out.mono ?_; rintro e w3 ⟨rfl, hk, he⟩; have Hk := Lib.hid hk; have He := Lib.hid he; clear hk he HG))
            go_roundw
            case rel => exact ⟨x :: ra, rb, layS y s', Lib.hid (hI.out.lay (.inr ⟨x, ra, rfl, by rw [← Hc.out]; exact c2⟩) (by have := hI.out.eb.tail; rw [← Hm.out] at this; exact this) ((Keeps.of_below (HB.out.trans (HB2.out.mono HB.out.size)) (fun k o hk _ => heap_lt hk)).trans Hk.out) He.out)⟩
            case measure => first | (simp [lenV]; done) | (simp [lenV]; omega)
          · obtain rfl : c = 0 := by omega
            go_wp2_with (refine (HC.out _).mono ?_; rintro e w2 ⟨rfl, hb2⟩; have HB2 := Lib.hid hb2; have HE2 := Lib.hid (Henv.out.below hb2 (Nat.le_refl _)); clear hb2 HC)
            refine gregion_tail 7 (by kernel_rfl) (by kernel_rfl) ?_
            intro wy hz
            have hby : Below w2.heap.size w2 wy := by rw [hz]; exact (Below.refl _ _).drew
            have HBY := Lib.hid hby
            have hzy := (HB2.out.trans (hby.mono HB2.out.size))
            have HZY := Lib.hid hzy
            have HG := Lib.hid (both_any (w := wy) x y (HE2.out.below hby (Nat.le_refl _)) (Nat.le_trans hI.out.below.size (Nat.le_trans HB.out.size hzy.size)) (by omega) hxs)
            clear hz
            simp only [List.take_succ_cons, List.take_zero, List.drop_succ_cons, List.drop_zero]
            iterate 3 still_step
            refine still_load_items rfl _ _ rfl (a.add (0 * 5)) rfl [.string x.p, .int .i64 x.k, .int .i64 x.m, .string x.d, .string x.l] _ (HX.out _ hzy) Tryz.underlying33 rfl (by kernel_rfl) ?_
            iterate 2 still_step
            refine still_load_items rfl _ _ rfl (b.add (0 * 5)) rfl [.string y.p, .int .i64 y.k, .int .i64 y.m, .string y.d, .string y.l] _ (HY.out _ hzy) Tryz.underlying33 rfl (by kernel_rfl) ?_
            try refine wpStill_nil ?_
            clear hby hzy
            go_wp2_with (refine HG.out.mono ?_; rintro e w3 ⟨rfl, hk, he⟩; have Hk := Lib.hid hk; have He := Lib.hid he; clear hk he HG)
            go_roundw
            case rel => exact ⟨ra, rb, bothS x y s', Lib.hid (hI.out.both Hc.out.symm (by have := hI.out.ea.tail; rw [← Hn.out] at this; exact this) (by have := hI.out.eb.tail; rw [← Hm.out] at this; exact this) ((Keeps.of_below (HB.out.trans (HZY.out.mono HB.out.size)) (fun k o hk _ => heap_lt hk)).trans Hk.out) He.out)⟩
            case measure => first | (simp [lenV]; done) | (simp [lenV]; omega)
end
end Go.Proofs.YtfanfkogogijpaaGreatDoor
